import Derived.Test.YtjhpgccalopngaaGreatDoorMw5
set_option linter.unusedVariables false
set_option linter.unusedSimpArgs false
namespace Go.AL.Rl
open Go Go.AL Go.Proofs
set_option maxRecDepth 100000
set_option maxHeartbeats 1600000
variable {γ : Nat → Option AV}

abbrev aDer (n : Int) (po rf co fr eco porf loc sw hb : List (BitVec 64)) : AV :=
  .agg [.i fun _ => n, .vs 1 fun _ => us po, .i fun _ => n, .vs 1 fun _ => us rf, .i fun _ => n, .vs 1 fun _ => us co, .i fun _ => n, .vs 1 fun _ => us fr, .i fun _ => n, .vs 1 fun _ => us eco, .i fun _ => n, .vs 1 fun _ => us porf, .i fun _ => n, .vs 1 fun _ => us loc, .i fun _ => n, .vs 1 fun _ => us sw, .i fun _ => n, .vs 1 fun _ => us hb]
theorem or3 (n : Nat) (a b c : List (BitVec 64)) (ha : Fits n a) (hb : Fits n b) (hc : Fits n c) : Pure Tryz.prog γ false 34 [.vs 2 fun _ => rls [((n : Int), a), ((n : Int), b), ((n : Int), c)]] (encRel n (orM n [((n : Int), a), ((n : Int), b), ((n : Int), c)])) :=
  or_yes _ (by simp) (alike3 n a b c ha hb hc) n rfl
theorem dAll_yes (g : Gr) (hg : Rd g) (h : GOk g) : Pure Tryz.prog γ false 30 [aGr g] (.tup [aDer (nG g : Nat) (poF (viewG g) (nG g)) (rfF (viewG g) (nG g)) (coF (viewG g) (nG g)) (frF (viewG g) (nG g)) (ecoF (viewG g) (nG g)) (porfF (viewG g) (nG g)) (locF (viewG g) (nG g)) (swF (viewG g) (nG g)) (hbF (viewG g) (nG g)), .i fun _ => 0]) := by
  have hV := viewG_wf h
  have a1 := vpoF_ok (γ := γ) (viewG g) hV
  have a2 := vrfF_ok (γ := γ) (viewG g) hV
  have a3 := vcoF_ok (γ := γ) (viewG g) hV
  have a4 := vfrF_ok (γ := γ) (viewG g) hV
  have a5 := vlocF_ok (γ := γ) (viewG g) hV
  have a6 := vswF_ok (γ := γ) (viewG g) hV
  have f1 := fits_poF (viewG g) hV.small
  have f2 := fits_rfF (viewG g) hV.small
  have f3 := fits_coF (viewG g) hV.small
  have f4 := fits_frF (viewG g) hV.small
  have f6 := fits_swF (viewG g) hV.small
  have o1 := or3 (γ := γ) (nG g) _ _ _ f2 f3 f4
  have o2 := or2 (γ := γ) (nG g) _ _ f1 f2
  have o3 := or2 (γ := γ) (nG g) _ _ f1 f6
  have p1 := plus_ok (γ := γ) (nG g) _ (fits_or (by have := hV.small; omega) (l := [((nG g : Int), rfF (viewG g) (nG g)), ((nG g : Int), coF (viewG g) (nG g)), ((nG g : Int), frF (viewG g) (nG g))]) (by simp [f2, f3, f4]))
  have p2 := plus_ok (γ := γ) (nG g) _ (fits_or2 f1 f2)
  have p3 := plus_ok (γ := γ) (nG g) _ (fits_or2 f1 f6)
  refine Pure.go (ty := ty) ty_eq mo Tryz.func30 rfl Tryz.ntmps30 Tryz.results30 Tryz.call30 (by simp) fun P C CQ D W F E hF => ?_
  cbv
  repeat' (first
    | (refine E.c (SCalls.of_le (p3) ?_ ?_); (· (cbv; (try simp only [nc] at *); first | done | (simp; done) | (simp (disch := (first | omega | (simp only [lnS, zA, zM, zG, zP]; omega))) only [nc, nct, w64_of, zT, zZ, zM, rdS, at_agg, bofZ, bof1, bof0, zC, zS, implies_true, and_true, true_and, forall_const]; first | done | omega | (refine ⟨?_, ?_⟩ <;> omega)) | (simp (disch := (first | omega | (simp only [lnS, zA, zM, zG, zP]; omega))) [nc, nct, w64_of, zT, zZ, zM, rdS, at_agg, bofZ, bof1, bof0, zC, zS]; done))); cbv)
    | (refine E.c (SCalls.of_le (p2) ?_ ?_); (· (cbv; (try simp only [nc] at *); first | done | (simp; done) | (simp (disch := (first | omega | (simp only [lnS, zA, zM, zG, zP]; omega))) only [nc, nct, w64_of, zT, zZ, zM, rdS, at_agg, bofZ, bof1, bof0, zC, zS, implies_true, and_true, true_and, forall_const]; first | done | omega | (refine ⟨?_, ?_⟩ <;> omega)) | (simp (disch := (first | omega | (simp only [lnS, zA, zM, zG, zP]; omega))) [nc, nct, w64_of, zT, zZ, zM, rdS, at_agg, bofZ, bof1, bof0, zC, zS]; done))); cbv)
    | (refine E.c (SCalls.of_le (p1) ?_ ?_); (· (cbv; (try simp only [nc] at *); first | done | (simp; done) | (simp (disch := (first | omega | (simp only [lnS, zA, zM, zG, zP]; omega))) only [nc, nct, w64_of, zT, zZ, zM, rdS, at_agg, bofZ, bof1, bof0, zC, zS, implies_true, and_true, true_and, forall_const]; first | done | omega | (refine ⟨?_, ?_⟩ <;> omega)) | (simp (disch := (first | omega | (simp only [lnS, zA, zM, zG, zP]; omega))) [nc, nct, w64_of, zT, zZ, zM, rdS, at_agg, bofZ, bof1, bof0, zC, zS]; done))); cbv)
    | (refine E.c (SCalls.of_bare (o3) rfl ?_ ?_); (· (cbv; simp [rls, ps, us, is, LV.of]; done)); cbv)
    | (refine E.c (SCalls.of_le (o3) ?_ ?_); (· (cbv; simp [rls, ps, us, is, LV.of]; done)); cbv)
    | (refine E.q (QCalls.of_le (o3) ?_ ?_); (· (cbv; simp [rls, ps, us, is, LV.of]; done)); cbv)
    | (refine E.c (SCalls.of_bare (o2) rfl ?_ ?_); (· (cbv; simp [rls, ps, us, is, LV.of]; done)); cbv)
    | (refine E.c (SCalls.of_le (o2) ?_ ?_); (· (cbv; simp [rls, ps, us, is, LV.of]; done)); cbv)
    | (refine E.q (QCalls.of_le (o2) ?_ ?_); (· (cbv; simp [rls, ps, us, is, LV.of]; done)); cbv)
    | (refine E.c (SCalls.of_bare (o1) rfl ?_ ?_); (· (cbv; simp [rls, ps, us, is, LV.of]; done)); cbv)
    | (refine E.c (SCalls.of_le (o1) ?_ ?_); (· (cbv; simp [rls, ps, us, is, LV.of]; done)); cbv)
    | (refine E.q (QCalls.of_le (o1) ?_ ?_); (· (cbv; simp [rls, ps, us, is, LV.of]; done)); cbv)
    | (refine E.c (SCalls.of_le (a6) ?_ ?_); (· (cbv; (try simp only [nc] at *); first | done | (simp; done) | (simp (disch := (first | omega | (simp only [lnS, zA, zM, zG, zP]; omega))) only [nc, nct, w64_of, zT, zZ, zM, rdS, at_agg, bofZ, bof1, bof0, zC, zS, implies_true, and_true, true_and, forall_const]; first | done | omega | (refine ⟨?_, ?_⟩ <;> omega)) | (simp (disch := (first | omega | (simp only [lnS, zA, zM, zG, zP]; omega))) [nc, nct, w64_of, zT, zZ, zM, rdS, at_agg, bofZ, bof1, bof0, zC, zS]; done))); cbv)
    | (refine E.c (SCalls.of_le (a5) ?_ ?_); (· (cbv; (try simp only [nc] at *); first | done | (simp; done) | (simp (disch := (first | omega | (simp only [lnS, zA, zM, zG, zP]; omega))) only [nc, nct, w64_of, zT, zZ, zM, rdS, at_agg, bofZ, bof1, bof0, zC, zS, implies_true, and_true, true_and, forall_const]; first | done | omega | (refine ⟨?_, ?_⟩ <;> omega)) | (simp (disch := (first | omega | (simp only [lnS, zA, zM, zG, zP]; omega))) [nc, nct, w64_of, zT, zZ, zM, rdS, at_agg, bofZ, bof1, bof0, zC, zS]; done))); cbv)
    | (refine E.c (SCalls.of_le (a4) ?_ ?_); (· (cbv; (try simp only [nc] at *); first | done | (simp; done) | (simp (disch := (first | omega | (simp only [lnS, zA, zM, zG, zP]; omega))) only [nc, nct, w64_of, zT, zZ, zM, rdS, at_agg, bofZ, bof1, bof0, zC, zS, implies_true, and_true, true_and, forall_const]; first | done | omega | (refine ⟨?_, ?_⟩ <;> omega)) | (simp (disch := (first | omega | (simp only [lnS, zA, zM, zG, zP]; omega))) [nc, nct, w64_of, zT, zZ, zM, rdS, at_agg, bofZ, bof1, bof0, zC, zS]; done))); cbv)
    | (refine E.c (SCalls.of_le (a3) ?_ ?_); (· (cbv; (try simp only [nc] at *); first | done | (simp; done) | (simp (disch := (first | omega | (simp only [lnS, zA, zM, zG, zP]; omega))) only [nc, nct, w64_of, zT, zZ, zM, rdS, at_agg, bofZ, bof1, bof0, zC, zS, implies_true, and_true, true_and, forall_const]; first | done | omega | (refine ⟨?_, ?_⟩ <;> omega)) | (simp (disch := (first | omega | (simp only [lnS, zA, zM, zG, zP]; omega))) [nc, nct, w64_of, zT, zZ, zM, rdS, at_agg, bofZ, bof1, bof0, zC, zS]; done))); cbv)
    | (refine E.c (SCalls.of_le (a2) ?_ ?_); (· (cbv; (try simp only [nc] at *); first | done | (simp; done) | (simp (disch := (first | omega | (simp only [lnS, zA, zM, zG, zP]; omega))) only [nc, nct, w64_of, zT, zZ, zM, rdS, at_agg, bofZ, bof1, bof0, zC, zS, implies_true, and_true, true_and, forall_const]; first | done | omega | (refine ⟨?_, ?_⟩ <;> omega)) | (simp (disch := (first | omega | (simp only [lnS, zA, zM, zG, zP]; omega))) [nc, nct, w64_of, zT, zZ, zM, rdS, at_agg, bofZ, bof1, bof0, zC, zS]; done))); cbv)
    | (refine E.c (SCalls.of_le (a1) ?_ ?_); (· (cbv; (try simp only [nc] at *); first | done | (simp; done) | (simp (disch := (first | omega | (simp only [lnS, zA, zM, zG, zP]; omega))) only [nc, nct, w64_of, zT, zZ, zM, rdS, at_agg, bofZ, bof1, bof0, zC, zS, implies_true, and_true, true_and, forall_const]; first | done | omega | (refine ⟨?_, ?_⟩ <;> omega)) | (simp (disch := (first | omega | (simp only [lnS, zA, zM, zG, zP]; omega))) [nc, nct, w64_of, zT, zZ, zM, rdS, at_agg, bofZ, bof1, bof0, zC, zS]; done))); cbv)
    | (refine E.c (SCalls.of_le (viewOf_ok g hg h) ?_ ?_); (· (cbv; (try simp only [nc] at *); first | done | (simp; done) | (simp (disch := (first | omega | (simp only [lnS, zA, zM, zG, zP]; omega))) only [nc, nct, w64_of, zT, zZ, zM, rdS, at_agg, bofZ, bof1, bof0, zC, zS, implies_true, and_true, true_and, forall_const]; first | done | omega | (refine ⟨?_, ?_⟩ <;> omega)) | (simp (disch := (first | omega | (simp only [lnS, zA, zM, zG, zP]; omega))) [nc, nct, w64_of, zT, zZ, zM, rdS, at_agg, bofZ, bof1, bof0, zC, zS]; done))); cbv)
    | (refine ⟨fun _ h_s => ?_, fun _ h_s => ?_⟩ <;> (cbv; (try simp only [nc] at *); try simp (disch := (first | omega | (simp only [lnS, zA, zM, zG, zP]; omega))) only [nc, nct, w64_of, zT, zZ, zM, rdS, at_agg, bofZ, bof1, bof0, zC, zS, reduceCtorEq, Bool.not_true, Bool.not_false, zD, zE, zB, zF, zN, zO, ne_eq, zQ, zL, zR, beq_iff_eq] at h_s))
    | (refine hF ?_; intro _; clear hF)
    | (refine hF ?_; cbv; clear hF)
    | (refine ⟨fun _ => ?_, ?_⟩; (· ((try simp only [nc] at *); first | done | omega | exact ⟨by omega, rfl⟩ | (simp (disch := (first | omega | (simp only [lnS, zA, zM, zG, zP]; omega))) only [nc, nct, w64_of, zT, zZ, zM, rdS, at_agg, bofZ, bof1, bof0, zC, zS]; first | done | omega | rfl | exact ⟨by omega, rfl⟩ | (simp; done) | (simp; omega)) | (intros; trivial))); try cbv)
    | fail
  )
  all_goals (try simp only [nc] at *)
  all_goals (try simp (disch := (first | omega | (simp only [lnS, zA, zM, zG, zP]; omega))) only [nc, nct, w64_of, zT, zZ, zM, rdS, at_agg, bofZ, bof1, bof0, zC, zS])
  simp [ecoF, porfF, hbF]
theorem dAll_no (g : Gr) (hg : Rd g) (h : ¬ GOk g) : Pure Tryz.prog γ false 30 [aGr g] (.tup [aDer 0 [] [] [] [] [] [] [] [] [], .i fun _ => 2]) := by
  refine Pure.go (ty := ty) ty_eq mo Tryz.func30 rfl Tryz.ntmps30 Tryz.results30 Tryz.call30 (by simp) fun P C CQ D W F E hF => ?_
  cbv
  repeat' (first
    | (refine E.c (SCalls.of_le (viewOf_no g hg h) ?_ ?_); (· (cbv; (try simp only [nc] at *); first | done | (simp; done) | (simp (disch := (first | omega | (simp only [lnS, zA, zM, zG, zP]; omega))) only [nc, nct, w64_of, zT, zZ, zM, rdS, at_agg, bofZ, bof1, bof0, zC, zS, implies_true, and_true, true_and, forall_const]; first | done | omega | (refine ⟨?_, ?_⟩ <;> omega)) | (simp (disch := (first | omega | (simp only [lnS, zA, zM, zG, zP]; omega))) [nc, nct, w64_of, zT, zZ, zM, rdS, at_agg, bofZ, bof1, bof0, zC, zS]; done))); cbv)
    | (refine ⟨fun _ h_s => ?_, fun _ h_s => ?_⟩ <;> (cbv; (try simp only [nc] at *); try simp (disch := (first | omega | (simp only [lnS, zA, zM, zG, zP]; omega))) only [nc, nct, w64_of, zT, zZ, zM, rdS, at_agg, bofZ, bof1, bof0, zC, zS, reduceCtorEq, Bool.not_true, Bool.not_false, zD, zE, zB, zF, zN, zO, ne_eq, zQ, zL, zR, beq_iff_eq] at h_s))
    | (refine hF ?_; intro _; clear hF)
    | (refine hF ?_; cbv; clear hF)
    | (refine ⟨fun _ => ?_, ?_⟩; (· ((try simp only [nc] at *); first | done | omega | exact ⟨by omega, rfl⟩ | (simp (disch := (first | omega | (simp only [lnS, zA, zM, zG, zP]; omega))) only [nc, nct, w64_of, zT, zZ, zM, rdS, at_agg, bofZ, bof1, bof0, zC, zS]; first | done | omega | rfl | exact ⟨by omega, rfl⟩ | (simp; done) | (simp; omega)) | (intros; trivial))); try cbv)
    | fail
  )
  all_goals (try simp only [nc] at *)
  all_goals (try simp (disch := (first | omega | (simp only [lnS, zA, zM, zG, zP]; omega))) only [nc, nct, w64_of, zT, zZ, zM, rdS, at_agg, bofZ, bof1, bof0, zC, zS])
  all_goals simp [us, LV.of, LV.l]
end Go.AL.Rl

namespace Go.AL.Rl
open Go Go.AL Go.Proofs
set_option maxRecDepth 100000
set_option maxHeartbeats 1600000
variable {γ : Nat → Option AV}

def runL (mx cap : Int) : List Nat → Int → Int
  | [], s => s
  | n :: r, s => if s ≤ cap then runL mx cap r (s + min (mx + 1) n) else s
def sumL (mx : Int) (l : List Nat) (s : Int) (k : Nat) : Int := (l.take k).foldl (fun (a : Int) (n : Nat) => a + min (mx + 1) (n : Int)) s
theorem sumL_zero (mx : Int) (l : List Nat) (s : Int) : sumL mx l s 0 = s := rfl
theorem sumL_succ (mx : Int) (l : List Nat) (s : Int) (k : Nat) (h : k < l.length) : sumL mx l s (k + 1) = sumL mx l s k + min (mx + 1) (l.getD k 0) := by
  simp only [sumL]
  rw [List.take_succ_eq_append_getElem h, List.foldl_append]
  simp [h]
theorem runL_step {mx cap : Int} {l : List Nat} {s : Int} {k : Nat} (h : k < l.length) (hs : sumL mx l s k ≤ cap) (hr : runL mx cap (l.drop k) (sumL mx l s k) = runL mx cap l s) :
    runL mx cap (l.drop (k + 1)) (sumL mx l s (k + 1)) = runL mx cap l s := by
  rw [← hr, List.drop_eq_getElem_cons h, runL, if_pos hs, sumL_succ _ _ _ _ h]
  simp [h]
theorem runL_end {mx cap : Int} {l : List Nat} {s : Int} {k : Nat} (h : l.length ≤ k ∨ ¬ sumL mx l s k ≤ cap) (hr : runL mx cap (l.drop k) (sumL mx l s k) = runL mx cap l s) : sumL mx l s k = runL mx cap l s := by
  rw [← hr]
  by_cases hk : l.length ≤ k
  · rw [List.drop_eq_nil_of_le hk, runL]
  · rw [List.drop_eq_getElem_cons (by omega), runL, if_neg (by rcases h with h | h; omega; exact h)]
theorem runL_bd {mx cap B : Int} (h0 : 0 ≤ mx) (hB : cap + mx + 1 ≤ B) : ∀ (l : List Nat) (s : Int), 0 ≤ s → s ≤ B → 0 ≤ runL mx cap l s ∧ runL mx cap l s ≤ B
  | [], s, h1, h2 => ⟨h1, h2⟩
  | n :: r, s, h1, h2 => by
    rw [runL]
    split
    · exact runL_bd h0 hB r _ (by omega) (by omega)
    · exact ⟨h1, h2⟩
theorem ths_le {g : Gr} (hg : Rd g) (x : Nat) : ((g.th.getD x []).length : Int) ≤ 9223372036854775807 := by
  rcases Nat.lt_or_ge x g.th.length with h1 | h1
  · exact hg.ths _ (getD_mem h1)
  · simp [List.getElem?_eq_none h1]
theorem frs_le {g : Gr} (hg : Rd g) (x : Nat) : ((g.fr.getD x []).length : Int) ≤ 9223372036854775807 := by
  rcases Nat.lt_or_ge x g.fr.length with h1 | h1
  · exact hg.frs _ (getD_mem h1)
  · simp [List.getElem?_eq_none h1]
def lensT (g : Gr) : List Nat := g.th.map (·.length)
def lensF (g : Gr) : List Nat := g.fr.map (·.length)
def lensO (g : Gr) : List Nat := g.ord.map (·.length)
def light0 (mx : Int) (g : Gr) : Int := min (mx + 1) g.init.length + min (mx + 1) g.th.length + min (mx + 1) g.fr.length + min (mx + 1) g.ord.length
def lightM (mx : Int) (g : Gr) : Bool := decide (runL mx (3 * mx) (lensO g) (runL mx (2 * mx) (lensF g) (runL mx mx (lensT g) (light0 mx g))) ≤ 3 * mx)
theorem lensT_get (g : Gr) (k : Nat) (h : k < g.th.length) : (lensT g).getD k 0 = (g.th.getD k []).length := by simp [lensT, h]
theorem lensF_get (g : Gr) (k : Nat) (h : k < g.fr.length) : (lensF g).getD k 0 = (g.fr.getD k []).length := by simp [lensF, h]
theorem lensO_get (g : Gr) (k : Nat) (h : k < g.ord.length) : (lensO g).getD k 0 = (g.ord.getD k []).length := by simp [lensO, h]
theorem light_ok (g : Gr) (hg : Rd g) (mx : Int) (h0 : 0 ≤ mx) (h1 : mx ≤ 1000) : Pure Tryz.prog γ false 5 [aGr g, .i fun _ => mx] (.b fun _ => lightM mx g) := by
  have b1 := hg.init
  have b2 := hg.th
  have b3 := hg.fr
  have b4 := hg.ord
  have hs0 : 0 ≤ light0 mx g ∧ light0 mx g ≤ 4 * mx + 4 := by unfold light0; omega
  obtain ⟨s0, hs⟩ : ∃ s, s = light0 mx g := ⟨_, rfl⟩
  rw [← hs] at hs0
  unfold lightM
  rw [← hs]
  have hlT : (lensT g).length = g.th.length := by simp [lensT]
  have hlF : (lensF g).length = g.fr.length := by simp [lensF]
  have hlO : (lensO g).length = g.ord.length := by simp [lensO]
  obtain ⟨r1, hr1⟩ : ∃ r, r = runL mx mx (lensT g) s0 := ⟨_, rfl⟩
  obtain ⟨r2, hr2⟩ : ∃ r, r = runL mx (2 * mx) (lensF g) r1 := ⟨_, rfl⟩
  obtain ⟨r3, hr3⟩ : ∃ r, r = runL mx (3 * mx) (lensO g) r2 := ⟨_, rfl⟩
  obtain ⟨S1, hS1⟩ : ∃ S : Nat → Int, ∀ k, S k = sumL mx (lensT g) s0 k := ⟨_, fun _ => rfl⟩
  obtain ⟨S2, hS2⟩ : ∃ S : Nat → Int, ∀ k, S k = sumL mx (lensF g) r1 k := ⟨_, fun _ => rfl⟩
  obtain ⟨S3, hS3⟩ : ∃ S : Nat → Int, ∀ k, S k = sumL mx (lensO g) r2 k := ⟨_, fun _ => rfl⟩
  have z1 : S1 0 = s0 := by rw [hS1, sumL_zero]
  have z2 : S2 0 = r1 := by rw [hS2, sumL_zero]
  have z3 : S3 0 = r2 := by rw [hS3, sumL_zero]
  have n1 : ∀ k, k < g.th.length → S1 (k + 1) = S1 k + min (mx + 1) (g.th.getD k []).length := fun k hk => by rw [hS1, hS1, sumL_succ _ _ _ _ (by omega), lensT_get _ _ hk]
  have n2 : ∀ k, k < g.fr.length → S2 (k + 1) = S2 k + min (mx + 1) (g.fr.getD k []).length := fun k hk => by rw [hS2, hS2, sumL_succ _ _ _ _ (by omega), lensF_get _ _ hk]
  have n3 : ∀ k, k < g.ord.length → S3 (k + 1) = S3 k + min (mx + 1) (g.ord.getD k []).length := fun k hk => by rw [hS3, hS3, sumL_succ _ _ _ _ (by omega), lensO_get _ _ hk]
  rw [← hr1, ← hr2, ← hr3]
  have q1 := runL_bd (mx := mx) (cap := mx) (B := 4 * mx + 4) h0 (by omega) (lensT g) s0 (by omega) (by omega)
  rw [← hr1] at q1
  have q2 := runL_bd (mx := mx) (cap := 2 * mx) (B := 4 * mx + 4) h0 (by omega) (lensF g) r1 (by omega) (by omega)
  rw [← hr2] at q2
  have q3 := runL_bd (mx := mx) (cap := 3 * mx) (B := 4 * mx + 4) h0 (by omega) (lensO g) r2 (by omega) (by omega)
  rw [← hr3] at q3
  refine Pure.goL (ty := ty) ty_eq mo Tryz.func5 rfl Tryz.ntmps5 Tryz.results5 Tryz.call5 (by simp) fun P C CQ D W F E hF => ?_
  refine E.cut 4 (told 111 [(1, .i fun _ => mx), (2, .ptr 0 0), (5, .i fun _ => r1)] [.box (aGr g)]) (by kernel_rfl) (Nat.zero_le _) (fun I hI => ?_) ?_
  · cbv
    repeat' (first
      | (refine ⟨fun _ h_s => ?_, fun _ h_s => ?_⟩ <;> (cbv; (try simp only [nc] at *); try simp (disch := (first | omega | (simp only [lnS, zA, zM, zG, zP]; omega))) only [nc, nct, w64_of, zT, zZ, zM, rdS, at_agg, bofZ, bof1, bof0, zC, zS, reduceCtorEq, Bool.not_true, Bool.not_false, zD, zE, zB, zF, zN, zO, ne_eq, zQ, zL, zR, beq_iff_eq] at h_s))
      | (refine hF ?_; intro _; clear hF)
      | (refine hF ?_; cbv; clear hF)
      | (refine ⟨fun _ => ?_, ?_⟩; (· ((try simp only [nc] at *); first | done | omega | exact ⟨by omega, rfl⟩ | (simp (disch := (first | omega | (simp only [lnS, zA, zM, zG, zP]; omega))) only [nc, nct, w64_of, zT, zZ, zM, rdS, at_agg, bofZ, bof1, bof0, zC, zS]; first | done | omega | rfl | exact ⟨by omega, rfl⟩ | (simp; done) | (simp; omega)) | (intros; trivial))); (try (simp only [nc] at *)); (try simp (disch := (first | omega | (simp only [lnS, zA, zM, zG, zP]; omega))) only [nc, nct, w64_of, zT, zZ, zM, rdS, at_agg, bofZ, bof1, bof0, zC, zS]); (try cbv))
      | fail
    )
    refine E.loopS (ι := Nat) (fun k => k ≤ g.th.length ∧ (runL mx mx ((lensT g).drop k) (S1 k) = r1 ∧ 0 ≤ S1 k ∧ S1 k ≤ 4 * mx + 4)) (fun k => g.th.length - k) (fun k => [(6, .i fun _ => ((k : Nat) : Int)), (5, .i fun _ => S1 k)]) (fun k h => h) 0 (fun _ => by first | rfl | simp) ⟨Nat.zero_le _, ?_⟩ ?_ fun k hk I2 hI2 => ?_
    · rw [z1, List.drop_zero]; exact ⟨hr1.symm, by omega⟩
    · cbv
      rw [z1, hs]
      simp (disch := omega) [light0, w64_of]
      repeat' split
      all_goals omega
    cbv
    have hgt := ths_le hg k
    have nk := n1 k
    have ek := fun h1 h2 => runL_step (mx := mx) (cap := mx) (l := lensT g) (s := s0) (k := k) h1 h2
    have fk := fun h1 => runL_end (mx := mx) (cap := mx) (l := lensT g) (s := s0) (k := k) h1
    rw [← hS1, ← hS1, ← hr1] at ek
    rw [← hS1, ← hr1] at fk
    repeat' (first
      | (refine hI2 (k + 1) ?_ ?_ ?_; rotate_left 1; (· ((try simp only [nc] at *); omega)); (cbv; clear hI2; (try clear hF); (try simp only [nc] at *); (try simp (disch := (first | omega | (simp only [lnS, zA, zM, zG, zP]; omega))) only [nc, nct, w64_of, zT, zZ, zM, rdS, at_agg, bofZ, bof1, bof0, zC, zS, implies_true, and_true, true_and, forall_const])); rotate_left 1; (try ((try simp only [nc] at *); omega)))
      | (refine ⟨fun _ h_s => ?_, fun _ h_s => ?_⟩ <;> (cbv; (try simp only [nc] at *); try simp (disch := (first | omega | (simp only [lnS, zA, zM, zG, zP]; omega))) only [nc, nct, w64_of, zT, zZ, zM, rdS, at_agg, bofZ, bof1, bof0, zC, zS, reduceCtorEq, Bool.not_true, Bool.not_false, zD, zE, zB, zF, zN, zO, ne_eq, zQ, zL, zR, beq_iff_eq] at h_s))
      | (refine hF ?_; intro _; clear hF)
      | (refine hF ?_; cbv; clear hF)
      | (refine ⟨fun _ => ?_, ?_⟩; (· ((try simp only [nc] at *); first | done | omega | exact ⟨by omega, rfl⟩ | (simp (disch := (first | omega | (simp only [lnS, zA, zM, zG, zP]; omega))) only [nc, nct, w64_of, zT, zZ, zM, rdS, at_agg, bofZ, bof1, bof0, zC, zS]; first | done | omega | rfl | exact ⟨by omega, rfl⟩ | (simp; done) | (simp; omega)) | (intros; trivial))); (try (simp only [nc] at *)); (try simp (disch := (first | omega | (simp only [lnS, zA, zM, zG, zP]; omega))) only [nc, nct, w64_of, zT, zZ, zM, rdS, at_agg, bofZ, bof1, bof0, zC, zS]); (try cbv))
      | fail
    )
    · refine ⟨?_, ?_⟩ <;> first | omega | (rw [nk (by ((try simp only [nc] at *); omega))]; split <;> omega)
    all_goals
      have hfk := fk (by ((try simp only [nc] at *); omega)) hk.2.1
      refine hI ?_
      cbv
      clear hI hI2 ek fk nk
      simp [hfk]
  refine E.cut 2 (told 111 [(1, .i fun _ => mx), (2, .ptr 0 0), (5, .i fun _ => r2)] [.box (aGr g)]) (by kernel_rfl) (Nat.zero_le _) (fun I hI => ?_) ?_
  · cbv
    repeat' (first
      | (refine ⟨fun _ h_s => ?_, fun _ h_s => ?_⟩ <;> (cbv; (try simp only [nc] at *); try simp (disch := (first | omega | (simp only [lnS, zA, zM, zG, zP]; omega))) only [nc, nct, w64_of, zT, zZ, zM, rdS, at_agg, bofZ, bof1, bof0, zC, zS, reduceCtorEq, Bool.not_true, Bool.not_false, zD, zE, zB, zF, zN, zO, ne_eq, zQ, zL, zR, beq_iff_eq] at h_s))
      | (refine hF ?_; intro _; clear hF)
      | (refine hF ?_; cbv; clear hF)
      | (refine ⟨fun _ => ?_, ?_⟩; (· ((try simp only [nc] at *); first | done | omega | exact ⟨by omega, rfl⟩ | (simp (disch := (first | omega | (simp only [lnS, zA, zM, zG, zP]; omega))) only [nc, nct, w64_of, zT, zZ, zM, rdS, at_agg, bofZ, bof1, bof0, zC, zS]; first | done | omega | rfl | exact ⟨by omega, rfl⟩ | (simp; done) | (simp; omega)) | (intros; trivial))); (try (simp only [nc] at *)); (try simp (disch := (first | omega | (simp only [lnS, zA, zM, zG, zP]; omega))) only [nc, nct, w64_of, zT, zZ, zM, rdS, at_agg, bofZ, bof1, bof0, zC, zS]); (try cbv))
      | fail
    )
    refine E.loopS (ι := Nat) (fun k => k ≤ g.fr.length ∧ (runL mx (2 * mx) ((lensF g).drop k) (S2 k) = r2 ∧ 0 ≤ S2 k ∧ S2 k ≤ 4 * mx + 4)) (fun k => g.fr.length - k) (fun k => [(7, .i fun _ => ((k : Nat) : Int)), (5, .i fun _ => S2 k)]) (fun k h => h) 0 (fun _ => by first | rfl | simp) ⟨Nat.zero_le _, ?_⟩ ?_ fun k hk I2 hI2 => ?_
    · rw [z2, List.drop_zero]; exact ⟨hr2.symm, by omega⟩
    · cbv
      rw [z2]
      simp
    cbv
    have hgt := frs_le hg k
    have nk := n2 k
    have ek := fun h1 h2 => runL_step (mx := mx) (cap := (2 * mx)) (l := lensF g) (s := r1) (k := k) h1 h2
    have fk := fun h1 => runL_end (mx := mx) (cap := (2 * mx)) (l := lensF g) (s := r1) (k := k) h1
    rw [← hS2, ← hS2, ← hr2] at ek
    rw [← hS2, ← hr2] at fk
    repeat' (first
      | (refine hI2 (k + 1) ?_ ?_ ?_; rotate_left 1; (· ((try simp only [nc] at *); omega)); (cbv; clear hI2; (try clear hF); (try simp only [nc] at *); (try simp (disch := (first | omega | (simp only [lnS, zA, zM, zG, zP]; omega))) only [nc, nct, w64_of, zT, zZ, zM, rdS, at_agg, bofZ, bof1, bof0, zC, zS, implies_true, and_true, true_and, forall_const])); rotate_left 1; (try ((try simp only [nc] at *); omega)))
      | (refine ⟨fun _ h_s => ?_, fun _ h_s => ?_⟩ <;> (cbv; (try simp only [nc] at *); try simp (disch := (first | omega | (simp only [lnS, zA, zM, zG, zP]; omega))) only [nc, nct, w64_of, zT, zZ, zM, rdS, at_agg, bofZ, bof1, bof0, zC, zS, reduceCtorEq, Bool.not_true, Bool.not_false, zD, zE, zB, zF, zN, zO, ne_eq, zQ, zL, zR, beq_iff_eq] at h_s))
      | (refine hF ?_; intro _; clear hF)
      | (refine hF ?_; cbv; clear hF)
      | (refine ⟨fun _ => ?_, ?_⟩; (· ((try simp only [nc] at *); first | done | omega | exact ⟨by omega, rfl⟩ | (simp (disch := (first | omega | (simp only [lnS, zA, zM, zG, zP]; omega))) only [nc, nct, w64_of, zT, zZ, zM, rdS, at_agg, bofZ, bof1, bof0, zC, zS]; first | done | omega | rfl | exact ⟨by omega, rfl⟩ | (simp; done) | (simp; omega)) | (intros; trivial))); (try (simp only [nc] at *)); (try simp (disch := (first | omega | (simp only [lnS, zA, zM, zG, zP]; omega))) only [nc, nct, w64_of, zT, zZ, zM, rdS, at_agg, bofZ, bof1, bof0, zC, zS]); (try cbv))
      | fail
    )
    · refine ⟨?_, ?_⟩ <;> first | omega | (rw [nk (by ((try simp only [nc] at *); omega))]; split <;> omega)
    all_goals
      have hfk := fk (by ((try simp only [nc] at *); omega)) hk.2.1
      refine hI ?_
      cbv
      clear hI hI2 ek fk nk
      simp [hfk]
  refine E.cut 2 (told 111 [(1, .i fun _ => mx), (2, .ptr 0 0), (5, .i fun _ => r3)] [.box (aGr g)]) (by kernel_rfl) (Nat.zero_le _) (fun I hI => ?_) (E.bl ?_)
  · cbv
    repeat' (first
      | (refine ⟨fun _ h_s => ?_, fun _ h_s => ?_⟩ <;> (cbv; (try simp only [nc] at *); try simp (disch := (first | omega | (simp only [lnS, zA, zM, zG, zP]; omega))) only [nc, nct, w64_of, zT, zZ, zM, rdS, at_agg, bofZ, bof1, bof0, zC, zS, reduceCtorEq, Bool.not_true, Bool.not_false, zD, zE, zB, zF, zN, zO, ne_eq, zQ, zL, zR, beq_iff_eq] at h_s))
      | (refine hF ?_; intro _; clear hF)
      | (refine hF ?_; cbv; clear hF)
      | (refine ⟨fun _ => ?_, ?_⟩; (· ((try simp only [nc] at *); first | done | omega | exact ⟨by omega, rfl⟩ | (simp (disch := (first | omega | (simp only [lnS, zA, zM, zG, zP]; omega))) only [nc, nct, w64_of, zT, zZ, zM, rdS, at_agg, bofZ, bof1, bof0, zC, zS]; first | done | omega | rfl | exact ⟨by omega, rfl⟩ | (simp; done) | (simp; omega)) | (intros; trivial))); (try (simp only [nc] at *)); (try simp (disch := (first | omega | (simp only [lnS, zA, zM, zG, zP]; omega))) only [nc, nct, w64_of, zT, zZ, zM, rdS, at_agg, bofZ, bof1, bof0, zC, zS]); (try cbv))
      | fail
    )
    refine E.loopS (ι := Nat) (fun k => k ≤ g.ord.length ∧ (runL mx (3 * mx) ((lensO g).drop k) (S3 k) = r3 ∧ 0 ≤ S3 k ∧ S3 k ≤ 4 * mx + 4)) (fun k => g.ord.length - k) (fun k => [(8, .i fun _ => ((k : Nat) : Int)), (5, .i fun _ => S3 k)]) (fun k h => h) 0 (fun _ => by first | rfl | simp) ⟨Nat.zero_le _, ?_⟩ ?_ fun k hk I2 hI2 => ?_
    · rw [z3, List.drop_zero]; exact ⟨hr3.symm, by omega⟩
    · cbv
      rw [z3]
      simp
    cbv
    have hgt := ordsAt hg k
    have nk := n3 k
    have ek := fun h1 h2 => runL_step (mx := mx) (cap := (3 * mx)) (l := lensO g) (s := r2) (k := k) h1 h2
    have fk := fun h1 => runL_end (mx := mx) (cap := (3 * mx)) (l := lensO g) (s := r2) (k := k) h1
    rw [← hS3, ← hS3, ← hr3] at ek
    rw [← hS3, ← hr3] at fk
    repeat' (first
      | (refine hI2 (k + 1) ?_ ?_ ?_; rotate_left 1; (· ((try simp only [nc] at *); omega)); (cbv; clear hI2; (try clear hF); (try simp only [nc] at *); (try simp (disch := (first | omega | (simp only [lnS, zA, zM, zG, zP]; omega))) only [nc, nct, w64_of, zT, zZ, zM, rdS, at_agg, bofZ, bof1, bof0, zC, zS, implies_true, and_true, true_and, forall_const])); rotate_left 1; (try ((try simp only [nc] at *); omega)))
      | (refine ⟨fun _ h_s => ?_, fun _ h_s => ?_⟩ <;> (cbv; (try simp only [nc] at *); try simp (disch := (first | omega | (simp only [lnS, zA, zM, zG, zP]; omega))) only [nc, nct, w64_of, zT, zZ, zM, rdS, at_agg, bofZ, bof1, bof0, zC, zS, reduceCtorEq, Bool.not_true, Bool.not_false, zD, zE, zB, zF, zN, zO, ne_eq, zQ, zL, zR, beq_iff_eq] at h_s))
      | (refine hF ?_; intro _; clear hF)
      | (refine hF ?_; cbv; clear hF)
      | (refine ⟨fun _ => ?_, ?_⟩; (· ((try simp only [nc] at *); first | done | omega | exact ⟨by omega, rfl⟩ | (simp (disch := (first | omega | (simp only [lnS, zA, zM, zG, zP]; omega))) only [nc, nct, w64_of, zT, zZ, zM, rdS, at_agg, bofZ, bof1, bof0, zC, zS]; first | done | omega | rfl | exact ⟨by omega, rfl⟩ | (simp; done) | (simp; omega)) | (intros; trivial))); (try (simp only [nc] at *)); (try simp (disch := (first | omega | (simp only [lnS, zA, zM, zG, zP]; omega))) only [nc, nct, w64_of, zT, zZ, zM, rdS, at_agg, bofZ, bof1, bof0, zC, zS]); (try cbv))
      | fail
    )
    · refine ⟨?_, ?_⟩ <;> first | omega | (rw [nk (by ((try simp only [nc] at *); omega))]; split <;> omega)
    all_goals
      have hfk := fk (by ((try simp only [nc] at *); omega)) hk.2.1
      refine hI ?_
      cbv
      clear hI hI2 ek fk nk
      simp [hfk]
  · cbv
    repeat' (first
      | (refine ⟨fun _ h_s => ?_, fun _ h_s => ?_⟩ <;> (cbv; (try simp only [nc] at *); try simp (disch := (first | omega | (simp only [lnS, zA, zM, zG, zP]; omega))) only [nc, nct, w64_of, zT, zZ, zM, rdS, at_agg, bofZ, bof1, bof0, zC, zS, reduceCtorEq, Bool.not_true, Bool.not_false, zD, zE, zB, zF, zN, zO, ne_eq, zQ, zL, zR, beq_iff_eq] at h_s))
      | (refine hF ?_; intro _; clear hF)
      | (refine hF ?_; cbv; clear hF)
      | (refine ⟨fun _ => ?_, ?_⟩; (· ((try simp only [nc] at *); first | done | omega | exact ⟨by omega, rfl⟩ | (simp (disch := (first | omega | (simp only [lnS, zA, zM, zG, zP]; omega))) only [nc, nct, w64_of, zT, zZ, zM, rdS, at_agg, bofZ, bof1, bof0, zC, zS]; first | done | omega | rfl | exact ⟨by omega, rfl⟩ | (simp; done) | (simp; omega)) | (intros; trivial))); (try (simp only [nc] at *)); (try simp (disch := (first | omega | (simp only [lnS, zA, zM, zG, zP]; omega))) only [nc, nct, w64_of, zT, zZ, zM, rdS, at_agg, bofZ, bof1, bof0, zC, zS]); (try cbv))
      | fail
    )
    rw [w64_of (by omega) (by omega)]
end Go.AL.Rl

namespace Go.AL.Rl
open Go Go.AL Go.Proofs
set_option maxRecDepth 100000
set_option maxHeartbeats 1600000
variable {γ : Nat → Option AV}

theorem count_ok (g : Gr) (hg : Rd g) : Pure Tryz.prog γ false 10 [aGr g] (.i fun _ => NG g) := by
  by_cases h : GOk g
  · unfold NG
    rw [if_pos h]
    have hc := gcheck0 h
    have hsh := h.short
    have hin := hsh.init
    have hth := hsh.th
    obtain ⟨S, hS⟩ : ∃ S : Nat → Nat, ∀ t, S t = g.init.length + (evsT g t).length := ⟨_, fun _ => rfl⟩
    have z : S 0 = g.init.length := by rw [hS]; simp [evsT]
    have st : ∀ t, S (t + 1) = S t + (g.th.getD t []).length := fun t => by rw [hS, hS, evsT_succ, List.length_append]; omega
    have bd : ∀ t, S t ≤ 6 + 14 * t := fun t => by rw [hS]; have := evsT_len hsh t; omega
    have en : S g.th.length = nG g := by rw [hS, nG, idsG_len, evsG, List.length_append, evsI_len]
    refine Pure.go (ty := ty) ty_eq mo Tryz.func10 rfl Tryz.ntmps10 Tryz.results10 Tryz.call10 (by simp) fun P C CQ D W F E hF => ?_
    cbv
    repeat' (first
      | (refine E.c (SCalls.of_le (check14_ok g hg) ?_ ?_); (· (cbv; (try simp only [nc] at *); first | done | (simp; done) | (simp (disch := (first | omega | (simp only [lnS, zA, zM, zG, zP]; omega))) only [nc, nct, w64_of, zT, zZ, zM, rdS, at_agg, bofZ, bof1, bof0, zC, zS, implies_true, and_true, true_and, forall_const]; first | done | omega | (refine ⟨?_, ?_⟩ <;> omega)) | (simp (disch := (first | omega | (simp only [lnS, zA, zM, zG, zP]; omega))) [nc, nct, w64_of, zT, zZ, zM, rdS, at_agg, bofZ, bof1, bof0, zC, zS]; done))); cbv)
      | (refine ⟨fun _ h_s => ?_, fun _ h_s => ?_⟩ <;> (cbv; (try simp only [nc] at *); try simp (disch := (first | omega | (simp only [lnS, zA, zM, zG, zP]; omega))) only [nc, nct, w64_of, zT, zZ, zM, rdS, at_agg, bofZ, bof1, bof0, zC, zS, reduceCtorEq, Bool.not_true, Bool.not_false, zD, zE, zB, zF, zN, zO, ne_eq, zQ, zL, zR, beq_iff_eq] at h_s))
      | (refine hF ?_; intro _; clear hF)
      | (refine hF ?_; cbv; clear hF)
      | (refine ⟨fun _ => ?_, ?_⟩; (· ((try simp only [nc] at *); first | done | omega | exact ⟨by omega, rfl⟩ | (simp (disch := (first | omega | (simp only [lnS, zA, zM, zG, zP]; omega))) only [nc, nct, w64_of, zT, zZ, zM, rdS, at_agg, bofZ, bof1, bof0, zC, zS]; first | done | omega | rfl | exact ⟨by omega, rfl⟩ | (simp; done) | (simp; omega)) | (intros; trivial))); (try (simp only [nc] at *)); (try simp (disch := (first | omega | (simp only [lnS, zA, zM, zG, zP]; omega))) only [nc, nct, w64_of, zT, zZ, zM, rdS, at_agg, bofZ, bof1, bof0, zC, zS]); (try cbv))
      | fail
    )
    · simp [hc] at *
    refine E.loopS (ι := Nat) (fun k => k ≤ g.th.length) (fun k => g.th.length - k) (fun k => [(4, .i fun _ => ((k : Nat) : Int)), (3, .i fun _ => (S k : Int))]) (fun k h => h) 0 (fun _ => by first | rfl | simp) (Nat.zero_le _) ?_ fun k hk I2 hI2 => ?_
    · cbv; simp [z]
    cbv
    have hgt := hsh.at k
    have bk := bd k
    have sk := st k
    repeat' (first
      | (refine hI2 (k + 1) ?_ ?_ ?_; rotate_left 1; (· ((try simp only [nc] at *); omega)); (cbv; clear hI2; (try clear hF); (try simp only [nc] at *); (try simp (disch := (first | omega | (simp only [lnS, zA, zM, zG, zP]; omega))) only [nc, nct, w64_of, zT, zZ, zM, rdS, at_agg, bofZ, bof1, bof0, zC, zS, implies_true, and_true, true_and, forall_const])); rotate_left 1; (try ((try simp only [nc] at *); omega)))
      | (refine ⟨fun _ h_s => ?_, fun _ h_s => ?_⟩ <;> (cbv; (try simp only [nc] at *); try simp (disch := (first | omega | (simp only [lnS, zA, zM, zG, zP]; omega))) only [nc, nct, w64_of, zT, zZ, zM, rdS, at_agg, bofZ, bof1, bof0, zC, zS, reduceCtorEq, Bool.not_true, Bool.not_false, zD, zE, zB, zF, zN, zO, ne_eq, zQ, zL, zR, beq_iff_eq] at h_s))
      | (refine hF ?_; intro _; clear hF)
      | (refine hF ?_; cbv; clear hF)
      | (refine ⟨fun _ => ?_, ?_⟩; (· ((try simp only [nc] at *); first | done | omega | exact ⟨by omega, rfl⟩ | (simp (disch := (first | omega | (simp only [lnS, zA, zM, zG, zP]; omega))) only [nc, nct, w64_of, zT, zZ, zM, rdS, at_agg, bofZ, bof1, bof0, zC, zS]; first | done | omega | rfl | exact ⟨by omega, rfl⟩ | (simp; done) | (simp; omega)) | (intros; trivial))); (try (simp only [nc] at *)); (try simp (disch := (first | omega | (simp only [lnS, zA, zM, zG, zP]; omega))) only [nc, nct, w64_of, zT, zZ, zM, rdS, at_agg, bofZ, bof1, bof0, zC, zS]); (try cbv))
      | fail
    )
    · refine ⟨?_, ?_⟩ <;> omega
    · have e : k = g.th.length := by ((try simp only [nc] at *); omega)
      rw [e, en]
  · have hc : gcheckM g ≠ 0 := by unfold gcheckM; split <;> simp [h]
    unfold NG
    rw [if_neg h]
    refine Pure.go (ty := ty) ty_eq mo Tryz.func10 rfl Tryz.ntmps10 Tryz.results10 Tryz.call10 (by simp) fun P C CQ D W F E hF => ?_
    cbv
    refine E.c (SCalls.of_le (check14_ok g hg) ?_ ?_)
    · (cbv; (try simp only [nc] at *); first | done | (simp; done) | (simp (disch := (first | omega | (simp only [lnS, zA, zM, zG, zP]; omega))) only [nc, nct, w64_of, zT, zZ, zM, rdS, at_agg, bofZ, bof1, bof0, zC, zS, implies_true, and_true, true_and, forall_const]; first | done | omega | (refine ⟨?_, ?_⟩ <;> omega)) | (simp (disch := (first | omega | (simp only [lnS, zA, zM, zG, zP]; omega))) [nc, nct, w64_of, zT, zZ, zM, rdS, at_agg, bofZ, bof1, bof0, zC, zS]; done))
    cbv
    refine br_t (by simpa using hc) ?_
    cbv
    refine hF ?_
    cbv
    simp
def tgtC (V : Vw) (n w : Nat) : BitVec 64 := maskTo (fun a => acqM (V.ev.getD a ev0) && behM V n (maskTo (rdrM V (1#64 <<< w)) n) a) n
def rowC (V : Vw) (n : Nat) : Nat → Nat → BitVec 64
  | 0, _ => 0#64
  | w + 1, r => if swR V w r = true then rowC V n w r ||| tgtC V n w else rowC V n w r
def swC (V : Vw) (n : Nat) : List (BitVec 64) := relRows n (bit (tab n (rowC V n n)))
theorem seq_plain {V : Vw} {n w : Nat} (hn : n ≤ 64) (hw : w < n) (h : ∀ i < n, (V.ev.getD i ev0).kind ≠ 3) : 1#64 <<< w = seqM V n w := by
  refine seq_unique hn hw ?_ (fun j hj => ?_) fun i hi hk => absurd hk (h i hi)
  · rw [BitVec.getLsbD_shiftLeft, BitVec.getLsbD_one]; simp; omega
  · rw [BitVec.getLsbD_shiftLeft, BitVec.getLsbD_one] at hj
    simp at hj
    have : j = w := by omega
    subst this
    exact .base
theorem rowC_eq {V : Vw} {n : Nat} (hn : n ≤ 64) (h : ∀ i < n, (V.ev.getD i ev0).kind ≠ 3) : ∀ k, k ≤ n → ∀ r, rowT V n k r = rowC V n k r
  | 0, _, _ => rfl
  | k + 1, hk, r => by
    have e : tgtM V n k = tgtC V n k := by unfold tgtM tgtC; rw [seq_plain hn (by omega) h]
    show (if swR V k r = true then rowT V n k r ||| tgtM V n k else rowT V n k r) = if swR V k r = true then rowC V n k r ||| tgtC V n k else rowC V n k r
    rw [rowC_eq hn h k (by omega) r, e]
theorem swC_eq {V : Vw} {n : Nat} (hn : n ≤ 64) (h : ∀ i < n, (V.ev.getD i ev0).kind ≠ 3) : swF V n = swC V n := by
  unfold swF swC swRows
  rw [show rowT V n n = rowC V n n from funext fun r => rowC_eq hn h n (Nat.le_refl _) r]
end Go.AL.Rl

namespace Go.AL.Rl
open Go Go.AL Go.Proofs
set_option maxRecDepth 100000

theorem plus_self {n : Nat} {rows : List (BitVec 64)} (hf : Fits n rows) (h : ∀ i k j, bit rows i k = true → bit rows k j = true → bit rows i j = true) : plusM n rows = rows :=
  fits_ext (fits_plus hf) hf fun i j => ⟨fun hb => plus_least (fun i j => bit rows i j = true) (fun _ _ h => h) h hb, plus_edge⟩
theorem plus_idem {n : Nat} {rows : List (BitVec 64)} (hf : Fits n rows) : plusM n (plusM n rows) = plusM n rows :=
  plus_self (fits_plus hf) fun _ _ _ h1 h2 => plus_trans hf h1 h2
theorem bit_orM {n : Nat} {l : List RelV} (i j : Nat) : bit (orM n l) i j = true ↔ i < n ∧ ∃ r ∈ l, bit r.2 i j = true := by
  rw [orM, bit_tab, Bool.and_eq_true, decide_eq_true_eq, or_bit]
theorem bit_relI {n : Nat} (hn : n ≤ 62) (p : Nat → Nat → Bool) (i j : Nat) : bit (relRows n p) i j = true ↔ i < n ∧ j < n ∧ p i j = true := by
  rw [bit_rel (by omega)]; simp
theorem near_symm (V : Vw) {a b : Nat} (h : nearM V a b = true) : nearM V b a = true := by
  unfold nearM at *
  simp only [Bool.and_eq_true, decide_eq_true_eq] at *
  exact ⟨⟨h.1.2, h.1.1⟩, h.2.symm⟩
theorem fits_orP (V : Vw) {n : Nat} (hn : n ≤ 62) : Fits n (orM n [((n : Int), rfF V n), ((n : Int), coF V n), ((n : Int), frF V n)]) :=
  fits_or (by omega) (by simp [fits_rfF V hn, fits_coF V hn, fits_frF V hn])
theorem plus_hb (V : Vw) {n : Nat} (hn : n ≤ 62) : plusM n (hbF V n) = hbF V n := plus_idem (fits_or2 (fits_poF V hn) (fits_swF V hn))
end Go.AL.Rl

namespace Go.AL.Rl
open Go Go.AL Go.Proofs
set_option maxRecDepth 100000

theorem notFence_w {e : Ev} (h : writesM e = true) : fenceM e = false := by
  unfold writesM at h; unfold fenceM
  simp only [Bool.or_eq_true, decide_eq_true_eq, decide_eq_false_iff_not] at *
  omega
theorem notFence_r {e : Ev} (h : readsM e = true) : fenceM e = false := by
  unfold readsM at h; unfold fenceM
  simp only [Bool.or_eq_true, decide_eq_true_eq, decide_eq_false_iff_not] at *
  omega
theorem near_of {V : Vw} {a b : Nat} (h1 : fenceM (V.ev.getD a ev0) = false) (h2 : fenceM (V.ev.getD b ev0) = false) (h : (V.ev.getD a ev0).loc = (V.ev.getD b ev0).loc) : nearM V a b = true := by
  unfold nearM
  simp only [h1, h2, Bool.not_false, Bool.true_and, decide_eq_true_eq]
  exact h
theorem event_init {g : Gr} {d : EId} {e : Ev} (h : eventM g d = some e) (h0 : d.t = 0) : e.kind = 2 ∧ e.loc = d.i ∧ 0 ≤ d.i := by
  unfold eventM at h
  rw [if_pos h0] at h
  split at h
  · rename_i hc
    cases h
    exact ⟨rfl, rfl, hc.1⟩
  · cases h
theorem event_fine {g : Gr} (hg : GOk g) {d : EId} {e : Ev} (h : eventM g d = some e) (h0 : d.t ≠ 0) : fineM g.init.length e = true := by
  unfold eventM at h
  rw [if_neg h0] at h
  split at h
  · rename_i hc
    cases h
    exact (hg.events (d.t - 1).toNat (by omega)).2 d.i.toNat (by omega)
  · cases h
theorem fine_loc {n : Int} {e : Ev} (h : fineM n e = true) (hk : fenceM e = false) : 0 ≤ e.loc ∧ e.loc < n := by
  unfold fineM at h; unfold fenceM at hk
  simp only [Bool.and_eq_true, decide_eq_true_eq, decide_eq_false_iff_not] at *
  have := h.2
  rw [if_neg hk] at this
  simpa using this
/-- each write of a thread stands in its location's order -/
theorem ord_has {g : Gr} (hg : GOk g) {x : Nat} {d : EId} (h : isW g x d = true) : d ∈ g.ord.getD x [] := by
  have hp := (orders_perm hg.lord hg.events).1 hg.orders
  have := hp.symm.subset ((isW_mem g x d).1 h)
  unfold qsT at this
  simp only [List.mem_flatMap, List.mem_range, List.mem_map] at this
  obtain ⟨k, hk, d', hd, he⟩ := this
  obtain ⟨rfl, h2⟩ := Prod.mk.inj he
  have : k = x := by omega
  subst this
  exact hd
theorem isW_of {g : Gr} {d : EId} {e : Ev} (h : eventM g d = some e) (h0 : d.t ≠ 0) (hw : writesM e = true) (x : Int) (hx : e.loc = x) : isW g x d = true := by
  unfold isW
  rw [h]
  simp [h0, hw, hx]
theorem pl_write {g : Gr} (hg : GOk g) {d : EId} {e : Ev} (h : eventM g d = some e) (hw : writesM e = true) :
    d.t = 0 ∧ plOf g d = 0 ∨ d.t ≠ 0 ∧ ∃ k : Nat, plOf g d = k + 1 ∧ k < (g.ord.getD e.loc.toNat []).length ∧ (g.ord.getD e.loc.toNat []).getD k id0 = d := by
  by_cases h0 : d.t = 0
  · exact .inl ⟨h0, by unfold plOf; rw [if_pos h0]⟩
  · refine .inr ⟨h0, ?_⟩
    have hl := fine_loc (event_fine hg h h0) (notFence_w hw)
    have hm := ord_has hg (x := e.loc.toNat) (isW_of h h0 hw _ (by omega))
    have hf := numOf_find hm
    refine ⟨numOf (g.ord.getD e.loc.toNat []) d, ?_, numOf_lt hm, numOf_get hm⟩
    unfold plOf
    rw [if_neg h0, h, Option.getD_some, hf]
theorem pl_other {g : Gr} (hg : GOk g) {d : EId} {e : Ev} (h : eventM g d = some e) (hw : writesM e = false) : plOf g d = -1 := by
  have h0 : d.t ≠ 0 := fun h0 => by
    obtain ⟨hk, _⟩ := event_init h h0
    unfold writesM at hw
    simp [hk] at hw
  unfold plOf
  rw [if_neg h0, h, Option.getD_some]
  split
  · rename_i k hk
    exfalso
    rw [List.findIdx?_eq_some_iff_getElem] at hk
    obtain ⟨h1, h2, _⟩ := hk
    have hm := List.getElem_mem h1
    simp only [decide_eq_true_eq] at h2
    rw [h2] at hm
    have hx : e.loc.toNat < g.init.length := by
      rcases Nat.lt_or_ge e.loc.toNat g.ord.length with hc | hc
      · rw [← hg.lord]; exact hc
      · rw [List.getD_eq_getElem?_getD, List.getElem?_eq_none hc] at hm; simp at hm
    obtain ⟨_, q2, _⟩ := (ordered_iff g e.loc.toNat).1 (hg.orders _ hx)
    obtain ⟨e', he', _, hw', _⟩ := isW_event (q2 _ hm)
    rw [h] at he'
    cases he'
    rw [hw] at hw'; cases hw'
  · rfl
theorem vev {g : Gr} (_ : GOk g) (i : Nat) (hi : i < nG g) : eventM g ((idsG g).getD i id0) = some ((viewG g).ev.getD i ev0) := evsG_get g i hi
theorem vpl {g : Gr} (_ : GOk g) (i : Nat) (hi : i < nG g) : (viewG g).pl.getD i 0 = plOf g ((idsG g).getD i id0) := tabI_get _ _ _ hi
theorem vfr {g : Gr} (_ : GOk g) (i : Nat) (hi : i < nG g) : (viewG g).fr.getD i 0 = frOf g ((idsG g).getD i id0) := tabI_get _ _ _ hi
theorem init_reads {g : Gr} {d : EId} {e : Ev} (h : eventM g d = some e) (h0 : d.t = 0) : readsM e = false := by
  obtain ⟨hk, _⟩ := event_init h h0
  unfold readsM; rw [hk]; rfl
section
variable {g : Gr} (hg : GOk g)
include hg
theorem pl_iff (i : Nat) (hi : i < nG g) : 0 ≤ (viewG g).pl.getD i 0 ↔ writesM ((viewG g).ev.getD i ev0) = true := by
  rw [vpl hg i hi]
  constructor
  · intro h
    cases hw : writesM ((viewG g).ev.getD i ev0) with
    | true => rfl
    | false => rw [pl_other hg (vev hg i hi) hw] at h; omega
  · intro h
    rcases pl_write hg (vev hg i hi) h with ⟨_, h2⟩ | ⟨_, k, h2, _⟩ <;> omega
theorem pl_inj (i j : Nat) (hi : i < nG g) (hj : j < nG g) (hwi : writesM ((viewG g).ev.getD i ev0) = true) (hwj : writesM ((viewG g).ev.getD j ev0) = true)
    (hl : ((viewG g).ev.getD i ev0).loc = ((viewG g).ev.getD j ev0).loc) (hp : (viewG g).pl.getD i 0 = (viewG g).pl.getD j 0) : i = j := by
  refine getD_inj (idsG_nodup g) hi hj ?_
  rw [vpl hg i hi, vpl hg j hj] at hp
  rcases pl_write hg (vev hg i hi) hwi with ⟨t1, h1⟩ | ⟨t1, k, h1, hk, e1⟩ <;> rcases pl_write hg (vev hg j hj) hwj with ⟨t2, h2⟩ | ⟨t2, k', h2, hk', e2⟩
  · obtain ⟨_, l1, _⟩ := event_init (vev hg i hi) t1
    obtain ⟨_, l2, _⟩ := event_init (vev hg j hj) t2
    exact EId.ext' (by omega) (by omega)
  · omega
  · omega
  · have : k = k' := by omega
    subst this
    rw [← e1, ← e2, hl]
theorem fr_iff (i : Nat) (hi : i < nG g) : 0 ≤ (viewG g).fr.getD i 0 ↔ readsM ((viewG g).ev.getD i ev0) = true := by
  rw [vfr hg i hi]
  have he := vev hg i hi
  unfold frOf
  split
  · rename_i h0
    rw [init_reads he h0]
    constructor
    · intro h; omega
    · intro h; cases h
  · rw [he, Option.getD_some]
    split
    · rename_i h; simp only [h, iff_true]; omega
    · rename_i h; simp only [h, Bool.false_eq_true, iff_false]; omega
/-- what is read from -/
theorem src_of (i : Nat) (hi : i < nG g) (hr : readsM ((viewG g).ev.getD i ev0) = true) : ∃ w : Nat, (viewG g).fr.getD i 0 = w ∧ w < nG g ∧ w ≠ i ∧ writesM ((viewG g).ev.getD w ev0) = true ∧ ((viewG g).ev.getD w ev0).loc = ((viewG g).ev.getD i ev0).loc := by
  have he := vev hg i hi
  have h0 : ((idsG g).getD i id0).t ≠ 0 := fun h0 => by
    rw [init_reads he h0] at hr; cases hr
  have hd : (idsG g).getD i id0 ∈ idsG g := getD_mem hi
  obtain ⟨w, hw, h1, h2, h3, _⟩ := source_mem (src_ok hg hd h0) (by rw [he]; exact hr)
  have hm : srcOf g ((idsG g).getD i id0) ∈ idsG g := idsG_mem.2 (by rw [hw]; rfl)
  have hlt : numOf (idsG g) (srcOf g ((idsG g).getD i id0)) < nG g := numOf_lt hm
  have hev := vev hg _ hlt
  rw [numOf_get hm, hw] at hev
  have hev := Option.some.inj hev
  refine ⟨numOf (idsG g) (srcOf g ((idsG g).getD i id0)), ?_, hlt, fun e => h1 ?_, by rw [← hev]; exact h2, by rw [← hev, h3, he]; rfl⟩
  · rw [vfr hg i hi]; unfold frOf; rw [if_neg h0, he, Option.getD_some, if_pos hr]
  · have := numOf_get hm; rw [e] at this; exact this.symm
end
theorem mod2_bit (x : BitVec 64) (i : Nat) : (x >>> i) % BitVec.ofInt 64 2 = 1#64 ↔ x.getLsbD i = true := by
  rw [← BitVec.toNat_inj, BitVec.toNat_umod, BitVec.toNat_ushiftRight, BitVec.getLsbD, Nat.testBit_eq_decide_div_mod_eq, decide_eq_true_eq, Nat.shiftRight_eq_div_pow]
  rfl
end Go.AL.Rl

namespace Go.AL.Rl
open Go Go.AL Go.Proofs
set_option maxRecDepth 100000
set_option maxHeartbeats 1600000
variable {γ : Nat → Option AV}

structure Ft where
  a : Int
  b : Int
  br : Bool
abbrev aFt (f : Ft) : AV := .agg [.i fun _ => f.a, .i fun _ => f.b, .b fun _ => f.br]
def ft0 : Ft := ⟨0, 0, false⟩
def leadM (p : Nat → Bool) (n : Nat) : Option Nat := (List.range n).find? p
theorem leadM_succ (p : Nat → Bool) (n : Nat) : leadM p (n + 1) = (leadM p n).or (if p n = true then some n else none) := by
  unfold leadM
  rw [List.range_succ, List.find?_append]
  congr 1
  by_cases h : p n = true
  · rw [if_pos h, List.find?_cons_of_pos h]
  · rw [if_neg h, List.find?_cons_of_neg h]; rfl
theorem leadM_none {p : Nat → Bool} : ∀ {n : Nat}, (∀ k < n, p k = false) → leadM p n = none
  | 0, _ => rfl
  | n + 1, h => by rw [leadM_succ, leadM_none fun k hk => h k (by omega), h n (by omega)]; rfl
theorem leadM_some {p : Nat → Bool} {i : Nat} (hi : p i = true) (hb : ∀ k < i, p k = false) : ∀ {n : Nat}, i < n → leadM p n = some i
  | n + 1, h => by
    rw [leadM_succ]
    by_cases e : n = i
    · subst e; rw [leadM_none hb, if_pos hi]; rfl
    · rw [leadM_some hi hb (n := n) (by omega)]; rfl
theorem leadM_nothing {p : Nat → Bool} {n : Nat} (h : leadM p n = none) : ∀ k < n, p k = false := fun k hk => by
  have hn := List.find?_eq_none.1 h k (by simpa using hk)
  simpa using hn
def ftOf : Option Nat → Ft
  | some i => ⟨i, -1, true⟩
  | none => ft0
def circF (rows : List (BitVec 64)) : Ft := ftOf (leadM (fun i => bit rows i i) rows.length)
theorem circF_at {rows : List (BitVec 64)} {i : Nat} (hi : i < rows.length) (h : bit rows i i = true) (hb : ∀ k < i, bit rows k k = false) : circF rows = ⟨i, -1, true⟩ := by
  unfold circF; rw [leadM_some (p := fun i => bit rows i i) h hb hi]; rfl
theorem circF_no {rows : List (BitVec 64)} (hb : ∀ k < rows.length, bit rows k k = false) : circF rows = ⟨0, 0, false⟩ := by
  unfold circF; rw [leadM_none (p := fun i => bit rows i i) hb]; rfl
def updB (V : Vw) (k : Nat) : Bool := decide ((V.ev.getD k ev0).kind = 3) && decide (V.pl.getD k 0 ≠ V.pl.getD (V.fr.getD k 0).toNat 0 + 1)
def updF (V : Vw) (n : Nat) : Ft := ftOf (leadM (updB V) n)
theorem updF_at {V : Vw} {n i : Nat} (hi : i < n) (h : updB V i = true) (hb : ∀ k < i, updB V k = false) : updF V n = ⟨i, -1, true⟩ := by
  unfold updF; rw [leadM_some h hb hi]; rfl
theorem updF_no {V : Vw} {n : Nat} (hb : ∀ k < n, updB V k = false) : updF V n = ⟨0, 0, false⟩ := by
  unfold updF; rw [leadM_none hb]; rfl
def cohB (hb eco : List (BitVec 64)) (a b : Nat) : Bool := decide (a ≠ b) && bit hb a b && bit eco b a
def cohR (hb eco : List (BitVec 64)) (a : Nat) : Option Nat := leadM (cohB hb eco a) eco.length
def cohF (hb eco : List (BitVec 64)) : Ft :=
  match leadM (fun a => (cohR hb eco a).isSome) hb.length with
  | some a => ⟨a, ((cohR hb eco a).getD 0 : Nat), true⟩
  | none => ft0
theorem cohF_at {hb eco : List (BitVec 64)} {a b : Nat} (ha : a < hb.length) (hbl : b < eco.length) (h : cohB hb eco a b = true) (hr : ∀ k < b, cohB hb eco a k = false) (hp : ∀ k < a, ∀ j < eco.length, cohB hb eco k j = false) :
    cohF hb eco = ⟨a, b, true⟩ := by
  have e1 : cohR hb eco a = some b := leadM_some h hr hbl
  have e2 : leadM (fun a => (cohR hb eco a).isSome) hb.length = some a := leadM_some (by simp [e1]) (fun k hk => by
    have : cohR hb eco k = none := leadM_none (hp k hk)
    simp [this]) ha
  unfold cohF; rw [e2]; simp [e1]
theorem cohF_no {hb eco : List (BitVec 64)} (hp : ∀ k < hb.length, ∀ j < eco.length, cohB hb eco k j = false) : cohF hb eco = ⟨0, 0, false⟩ := by
  have e2 : leadM (fun a => (cohR hb eco a).isSome) hb.length = none := leadM_none fun k hk => by
    have : cohR hb eco k = none := leadM_none (hp k hk)
    simp [this]
  unfold cohF; rw [e2]; rfl
def togF (V : Vw) (n : Nat) : List (BitVec 64) := orM n [((n : Int), poF V n), ((n : Int), rfF V n), ((n : Int), coF V n), ((n : Int), frF V n)]
noncomputable def fltM (V : Vw) (n : Nat) (k : Int) : Ft :=
  if k = 2 then updF V n else if k = 3 then circF (porfF V n) else if k = 4 then circF (hbF V n) else if k = 5 then cohF (hbF V n) (ecoF V n) else if k = 6 then circF (plusM n (togF V n)) else ft0
structure Bk where
  rule : Int
  a : Int
  b : Int
  br : Bool
end Go.AL.Rl

namespace Go.AL.Rl
open Go Go.AL Go.Proofs
set_option maxRecDepth 100000
set_option maxHeartbeats 1600000
variable {γ : Nat → Option AV}

abbrev aFc (g : Gr) (n : Int) (po rf co fr eco porf loc sw hb : List (BitVec 64)) : AV :=
  .agg [.vs 1 fun _ => is g.init, .vs 1 fun _ => evss g.th, .vs 1 fun _ => idss g.fr, .vs 1 fun _ => idss g.ord, .i fun _ => n, .vs 1 fun _ => us po, .i fun _ => n, .vs 1 fun _ => us rf, .i fun _ => n, .vs 1 fun _ => us co, .i fun _ => n, .vs 1 fun _ => us fr, .i fun _ => n, .vs 1 fun _ => us eco, .i fun _ => n, .vs 1 fun _ => us porf, .i fun _ => n, .vs 1 fun _ => us loc, .i fun _ => n, .vs 1 fun _ => us sw, .i fun _ => n, .vs 1 fun _ => us hb]
theorem known_ok (m : Int) : Pure Tryz.prog γ false 13 [.i fun _ => m] (.b fun _ => decide (m = 1 ∨ m = 2)) := by
  refine Pure.go (ty := ty) ty_eq mo Tryz.func13 rfl Tryz.ntmps13 Tryz.results13 Tryz.call13 (by simp) fun P C CQ D W F E hF => ?_
  cbv
  repeat' (first
    | (refine ⟨fun _ h_s => ?_, fun _ h_s => ?_⟩ <;> (cbv; (try simp only [nc] at *); try simp (disch := (first | omega | (simp only [lnS, zA, zM, zG, zP]; omega))) only [nc, nct, w64_of, zT, zZ, zM, rdS, at_agg, bofZ, bof1, bof0, zC, zS, reduceCtorEq, Bool.not_true, Bool.not_false, zD, zE, zB, zF, zN, zO, ne_eq, zQ, zL, zR, beq_iff_eq] at h_s))
    | (refine hF ?_; intro _; clear hF)
    | (refine hF ?_; cbv; clear hF)
    | (refine ⟨fun _ => ?_, ?_⟩; (· ((try simp only [nc] at *); first | done | omega | exact ⟨by omega, rfl⟩ | (simp (disch := (first | omega | (simp only [lnS, zA, zM, zG, zP]; omega))) only [nc, nct, w64_of, zT, zZ, zM, rdS, at_agg, bofZ, bof1, bof0, zC, zS]; first | done | omega | rfl | exact ⟨by omega, rfl⟩ | (simp; done) | (simp; omega)) | (intros; trivial))); (try (simp only [nc] at *)); (try simp (disch := (first | omega | (simp only [lnS, zA, zM, zG, zP]; omega))) only [nc, nct, w64_of, zT, zZ, zM, rdS, at_agg, bofZ, bof1, bof0, zC, zS]); (try cbv))
    | fail
  )
  all_goals simp_all
theorem rules_yes1 : Pure Tryz.prog γ false 29 [.i fun _ => 1] (.vs 1 fun _ => is [1, 2, 6]) := by
  refine Pure.go (ty := ty) ty_eq mo Tryz.func29 rfl Tryz.ntmps29 Tryz.results29 Tryz.call29 (by simp) fun P C CQ D W F E hF => ?_
  cbv
  repeat' (first
    | (refine ⟨fun _ h_s => ?_, fun _ h_s => ?_⟩ <;> (cbv; (try simp only [nc] at *); try simp (disch := (first | omega | (simp only [lnS, zA, zM, zG, zP]; omega))) only [nc, nct, w64_of, zT, zZ, zM, rdS, at_agg, bofZ, bof1, bof0, zC, zS, reduceCtorEq, Bool.not_true, Bool.not_false, zD, zE, zB, zF, zN, zO, ne_eq, zQ, zL, zR, beq_iff_eq] at h_s))
    | (refine hF ?_; intro _; clear hF)
    | (refine hF ?_; cbv; clear hF)
    | (refine ⟨fun _ => ?_, ?_⟩; (· ((try simp only [nc] at *); first | done | omega | exact ⟨by omega, rfl⟩ | (simp (disch := (first | omega | (simp only [lnS, zA, zM, zG, zP]; omega))) only [nc, nct, w64_of, zT, zZ, zM, rdS, at_agg, bofZ, bof1, bof0, zC, zS]; first | done | omega | rfl | exact ⟨by omega, rfl⟩ | (simp; done) | (simp; omega)) | (intros; trivial))); (try (simp only [nc] at *)); (try simp (disch := (first | omega | (simp only [lnS, zA, zM, zG, zP]; omega))) only [nc, nct, w64_of, zT, zZ, zM, rdS, at_agg, bofZ, bof1, bof0, zC, zS]); (try cbv))
    | fail
  )
  all_goals simp_all [is, setAll, LV.of, AV.nrm]
theorem rules_yes2 : Pure Tryz.prog γ false 29 [.i fun _ => 2] (.vs 1 fun _ => is [1, 2, 3, 4, 5]) := by
  refine Pure.go (ty := ty) ty_eq mo Tryz.func29 rfl Tryz.ntmps29 Tryz.results29 Tryz.call29 (by simp) fun P C CQ D W F E hF => ?_
  cbv
  repeat' (first
    | (refine ⟨fun _ h_s => ?_, fun _ h_s => ?_⟩ <;> (cbv; (try simp only [nc] at *); try simp (disch := (first | omega | (simp only [lnS, zA, zM, zG, zP]; omega))) only [nc, nct, w64_of, zT, zZ, zM, rdS, at_agg, bofZ, bof1, bof0, zC, zS, reduceCtorEq, Bool.not_true, Bool.not_false, zD, zE, zB, zF, zN, zO, ne_eq, zQ, zL, zR, beq_iff_eq] at h_s))
    | (refine hF ?_; intro _; clear hF)
    | (refine hF ?_; cbv; clear hF)
    | (refine ⟨fun _ => ?_, ?_⟩; (· ((try simp only [nc] at *); first | done | omega | exact ⟨by omega, rfl⟩ | (simp (disch := (first | omega | (simp only [lnS, zA, zM, zG, zP]; omega))) only [nc, nct, w64_of, zT, zZ, zM, rdS, at_agg, bofZ, bof1, bof0, zC, zS]; first | done | omega | rfl | exact ⟨by omega, rfl⟩ | (simp; done) | (simp; omega)) | (intros; trivial))); (try (simp only [nc] at *)); (try simp (disch := (first | omega | (simp only [lnS, zA, zM, zG, zP]; omega))) only [nc, nct, w64_of, zT, zZ, zM, rdS, at_agg, bofZ, bof1, bof0, zC, zS]); (try cbv))
    | fail
  )
  all_goals simp_all [is, setAll, LV.of, AV.nrm]
def gB : Gr := ⟨[0, 0], [[⟨2, 0, 5, 0, 1⟩, ⟨1, 1, 5, 0, 0⟩], [⟨2, 1, 5, 0, 1⟩, ⟨1, 0, 5, 0, 0⟩]], [[⟨0, 0⟩, ⟨0, 1⟩], [⟨0, 0⟩, ⟨0, 0⟩]], [[⟨1, 0⟩], [⟨2, 0⟩]]⟩
theorem ar_ok (k l w : Int) : Pure Tryz.prog γ false 27 [.i fun _ => k, .i fun _ => l, .i fun _ => w] (aEv ⟨k, l, 5, 0, w⟩) := by
  refine Pure.go (ty := ty) ty_eq mo Tryz.func27 rfl Tryz.ntmps27 Tryz.results27 Tryz.call27 (by simp) fun P C CQ D W F E hF => ?_
  cbv
  repeat' (first
    | (refine ⟨fun _ h_s => ?_, fun _ h_s => ?_⟩ <;> (cbv; (try simp only [nc] at *); try simp (disch := (first | omega | (simp only [lnS, zA, zM, zG, zP]; omega))) only [nc, nct, w64_of, zT, zZ, zM, rdS, at_agg, bofZ, bof1, bof0, zC, zS, reduceCtorEq, Bool.not_true, Bool.not_false, zD, zE, zB, zF, zN, zO, ne_eq, zQ, zL, zR, beq_iff_eq] at h_s))
    | (refine hF ?_; intro _; clear hF)
    | (refine hF ?_; cbv; clear hF)
    | (refine ⟨fun _ => ?_, ?_⟩; (· ((try simp only [nc] at *); first | done | omega | exact ⟨by omega, rfl⟩ | (simp (disch := (first | omega | (simp only [lnS, zA, zM, zG, zP]; omega))) only [nc, nct, w64_of, zT, zZ, zM, rdS, at_agg, bofZ, bof1, bof0, zC, zS]; first | done | omega | rfl | exact ⟨by omega, rfl⟩ | (simp; done) | (simp; omega)) | (intros; trivial))); (try (simp only [nc] at *)); (try simp (disch := (first | omega | (simp only [lnS, zA, zM, zG, zP]; omega))) only [nc, nct, w64_of, zT, zZ, zM, rdS, at_agg, bofZ, bof1, bof0, zC, zS]); (try cbv))
    | fail
  )
  all_goals (try simp only [nc] at *)
  all_goals (try simp (disch := (first | omega | (simp only [lnS, zA, zM, zG, zP]; omega))) only [nc, nct, w64_of, zT, zZ, zM, rdS, at_agg, bofZ, bof1, bof0, zC, zS])
theorem buffers_ok : Pure Tryz.prog γ false 11 [] (aGr gB) := by
  refine Pure.go (ty := ty) ty_eq mo Tryz.func11 rfl Tryz.ntmps11 Tryz.results11 Tryz.call11 (by simp) fun P C CQ D W F E hF => ?_
  cbv
  repeat' (first
    | (refine E.c (SCalls.of_le (ar_ok 1 0 0) ?_ ?_); (· (cbv; (try simp only [nc] at *); first | done | (simp; done) | (simp (disch := (first | omega | (simp only [lnS, zA, zM, zG, zP]; omega))) only [nc, nct, w64_of, zT, zZ, zM, rdS, at_agg, bofZ, bof1, bof0, zC, zS, implies_true, and_true, true_and, forall_const]; first | done | omega | (refine ⟨?_, ?_⟩ <;> omega)) | (simp (disch := (first | omega | (simp only [lnS, zA, zM, zG, zP]; omega))) [nc, nct, w64_of, zT, zZ, zM, rdS, at_agg, bofZ, bof1, bof0, zC, zS]; done))); cbv)
    | (refine E.c (SCalls.of_le (ar_ok 2 1 1) ?_ ?_); (· (cbv; (try simp only [nc] at *); first | done | (simp; done) | (simp (disch := (first | omega | (simp only [lnS, zA, zM, zG, zP]; omega))) only [nc, nct, w64_of, zT, zZ, zM, rdS, at_agg, bofZ, bof1, bof0, zC, zS, implies_true, and_true, true_and, forall_const]; first | done | omega | (refine ⟨?_, ?_⟩ <;> omega)) | (simp (disch := (first | omega | (simp only [lnS, zA, zM, zG, zP]; omega))) [nc, nct, w64_of, zT, zZ, zM, rdS, at_agg, bofZ, bof1, bof0, zC, zS]; done))); cbv)
    | (refine E.c (SCalls.of_le (ar_ok 1 1 0) ?_ ?_); (· (cbv; (try simp only [nc] at *); first | done | (simp; done) | (simp (disch := (first | omega | (simp only [lnS, zA, zM, zG, zP]; omega))) only [nc, nct, w64_of, zT, zZ, zM, rdS, at_agg, bofZ, bof1, bof0, zC, zS, implies_true, and_true, true_and, forall_const]; first | done | omega | (refine ⟨?_, ?_⟩ <;> omega)) | (simp (disch := (first | omega | (simp only [lnS, zA, zM, zG, zP]; omega))) [nc, nct, w64_of, zT, zZ, zM, rdS, at_agg, bofZ, bof1, bof0, zC, zS]; done))); cbv)
    | (refine E.c (SCalls.of_le (ar_ok 2 0 1) ?_ ?_); (· (cbv; (try simp only [nc] at *); first | done | (simp; done) | (simp (disch := (first | omega | (simp only [lnS, zA, zM, zG, zP]; omega))) only [nc, nct, w64_of, zT, zZ, zM, rdS, at_agg, bofZ, bof1, bof0, zC, zS, implies_true, and_true, true_and, forall_const]; first | done | omega | (refine ⟨?_, ?_⟩ <;> omega)) | (simp (disch := (first | omega | (simp only [lnS, zA, zM, zG, zP]; omega))) [nc, nct, w64_of, zT, zZ, zM, rdS, at_agg, bofZ, bof1, bof0, zC, zS]; done))); cbv)
    | (refine ⟨fun _ h_s => ?_, fun _ h_s => ?_⟩ <;> (cbv; (try simp only [nc] at *); try simp (disch := (first | omega | (simp only [lnS, zA, zM, zG, zP]; omega))) only [nc, nct, w64_of, zT, zZ, zM, rdS, at_agg, bofZ, bof1, bof0, zC, zS, reduceCtorEq, Bool.not_true, Bool.not_false, zD, zE, zB, zF, zN, zO, ne_eq, zQ, zL, zR, beq_iff_eq] at h_s))
    | (refine hF ?_; intro _; clear hF)
    | (refine hF ?_; cbv; clear hF)
    | (refine ⟨fun _ => ?_, ?_⟩; (· ((try simp only [nc] at *); first | done | omega | exact ⟨by omega, rfl⟩ | (simp (disch := (first | omega | (simp only [lnS, zA, zM, zG, zP]; omega))) only [nc, nct, w64_of, zT, zZ, zM, rdS, at_agg, bofZ, bof1, bof0, zC, zS]; first | done | omega | rfl | exact ⟨by omega, rfl⟩ | (simp; done) | (simp; omega)) | (intros; trivial))); (try (simp only [nc] at *)); (try simp (disch := (first | omega | (simp only [lnS, zA, zM, zG, zP]; omega))) only [nc, nct, w64_of, zT, zZ, zM, rdS, at_agg, bofZ, bof1, bof0, zC, zS]); (try cbv))
    | fail
  )
theorem circle_ok (n : Int) (rows : List (BitVec 64)) (hl : rows.length ≤ 64) : Pure Tryz.prog γ false 57 [encRel n rows] (aFt (circF rows)) := by
  refine Pure.go (ty := ty) ty_eq mo Tryz.func57 rfl Tryz.ntmps57 Tryz.results57 Tryz.call57 (by simp) fun P C CQ D W F E hF => ?_
  cbv
  repeat' (first
    | (refine ⟨fun _ h_s => ?_, fun _ h_s => ?_⟩ <;> (cbv; (try simp only [nc] at *); try simp (disch := (first | omega | (simp only [lnS, zA, zM, zG, zP]; omega))) only [nc, nct, w64_of, zT, zZ, zM, rdS, at_agg, bofZ, bof1, bof0, zC, zS, reduceCtorEq, Bool.not_true, Bool.not_false, zD, zE, zB, zF, zN, zO, ne_eq, zQ, zL, zR, beq_iff_eq] at h_s))
    | (refine hF ?_; intro _; clear hF)
    | (refine hF ?_; cbv; clear hF)
    | (refine ⟨fun _ => ?_, ?_⟩; (· ((try simp only [nc] at *); first | done | omega | exact ⟨by omega, rfl⟩ | (simp (disch := (first | omega | (simp only [lnS, zA, zM, zG, zP]; omega))) only [nc, nct, w64_of, zT, zZ, zM, rdS, at_agg, bofZ, bof1, bof0, zC, zS]; first | done | omega | rfl | exact ⟨by omega, rfl⟩ | (simp; done) | (simp; omega)) | (intros; trivial))); (try (simp only [nc] at *)); (try simp (disch := (first | omega | (simp only [lnS, zA, zM, zG, zP]; omega))) only [nc, nct, w64_of, zT, zZ, zM, rdS, at_agg, bofZ, bof1, bof0, zC, zS]); (try cbv))
    | fail
  )
  refine E.loopS (ι := Nat) (fun i => i ≤ rows.length ∧ (∀ k < i, bit rows k k = false)) (fun i => rows.length - i) (fun i => [(8, .i fun _ => ((i : Nat) : Int))]) (fun i h => h) 0 (fun _ => by first | rfl | simp) ⟨Nat.zero_le _, ?_⟩ ?_ fun i hi I hI => ?_
  · intro k hk; omega
  · cbv; simp
  cbv
  obtain ⟨hi, hp⟩ := hi
  have hb : bit rows i i = (!decide ((rows.getD i 0 >>> i) &&& 1#64 = 0#64)) := (getLsb_and1 _ _).symm
  have hbi := bofInt (k := i) (by omega)
  repeat' (first
    | (refine hI (i + 1) ?_ ?_ ?_; rotate_left 1; (· ((try simp only [nc] at *); omega)); (cbv; clear hI; (try clear hF); (try simp only [nc] at *); (try simp (disch := (first | omega | (simp only [lnS, zA, zM, zG, zP]; omega))) only [nc, nct, w64_of, zT, zZ, zM, rdS, at_agg, bofZ, bof1, bof0, zC, zS, implies_true, and_true, true_and, forall_const])); rotate_left 1; (try ((try simp only [nc] at *); omega)))
    | (refine ⟨fun _ h_s => ?_, fun _ h_s => ?_⟩ <;> (cbv; (try simp only [nc] at *); try simp (disch := (first | omega | (simp only [lnS, zA, zM, zG, zP]; omega))) only [nc, nct, w64_of, zT, zZ, zM, rdS, at_agg, bofZ, bof1, bof0, zC, zS, reduceCtorEq, Bool.not_true, Bool.not_false, zD, zE, zB, zF, zN, zO, ne_eq, zQ, zL, zR, beq_iff_eq] at h_s))
    | (refine hF ?_; intro _; clear hF)
    | (refine hF ?_; cbv; clear hF)
    | (refine ⟨fun _ => ?_, ?_⟩; (· ((try simp only [nc] at *); first | done | omega | exact ⟨by omega, rfl⟩ | (simp (disch := (first | omega | (simp only [lnS, zA, zM, zG, zP]; omega))) only [nc, nct, w64_of, zT, zZ, zM, rdS, at_agg, bofZ, bof1, bof0, zC, zS]; first | done | omega | rfl | exact ⟨by omega, rfl⟩ | (simp; done) | (simp; omega)) | (intros; trivial))); (try (simp only [nc] at *)); (try simp (disch := (first | omega | (simp only [lnS, zA, zM, zG, zP]; omega))) only [nc, nct, w64_of, zT, zZ, zM, rdS, at_agg, bofZ, bof1, bof0, zC, zS]); (try cbv))
    | fail
  )
  · have hbt : bit rows i i = true := by rw [hb]; simpa using h_s
    rw [circF_at (by ((try simp only [nc] at *); omega)) hbt hp]
    exact ⟨fun _ => rfl, fun _ => rfl, fun _ => rfl, trivial⟩
  · refine ⟨by ((try simp only [nc] at *); omega), fun k hk => ?_⟩
    rcases Nat.lt_or_ge k i with h1 | h1
    · exact hp k h1
    · obtain rfl : k = i := by omega
      rw [hb]; simpa using h_s
  · push_cast; rfl
  · have e : i = rows.length := by ((try simp only [nc] at *); omega)
    subst e
    rw [circF_no hp]
    exact ⟨fun _ => rfl, fun _ => rfl, fun _ => rfl, trivial⟩
theorem index_at (l : List EId) (d : EId) (hl : (l.length : Int) ≤ 9223372036854775807) (k0 : Nat) (hk0 : k0 < l.length) (hd : l.getD k0 id0 = d) (hb : ∀ k < k0, l.getD k id0 ≠ d) : Pure Tryz.prog γ false 105 [.vs 2 fun _ => ids l, aId d] (.i fun _ => (k0 : Int)) := by
  refine Pure.go (ty := ty) ty_eq mo Tryz.func105 rfl Tryz.ntmps105 Tryz.results105 Tryz.call105 (by simp) fun P C CQ D W F E hF => ?_
  cbv
  repeat' (first
    | (refine ⟨fun _ h_s => ?_, fun _ h_s => ?_⟩ <;> (cbv; (try simp only [nc] at *); try simp (disch := (first | omega | (simp only [lnS, zA, zM, zG, zP]; omega))) only [nc, nct, w64_of, zT, zZ, zM, rdS, at_agg, bofZ, bof1, bof0, zC, zS, reduceCtorEq, Bool.not_true, Bool.not_false, zD, zE, zB, zF, zN, zO, ne_eq, zQ, zL, zR, beq_iff_eq] at h_s))
    | (refine hF ?_; intro _; clear hF)
    | (refine hF ?_; cbv; clear hF)
    | (refine ⟨fun _ => ?_, ?_⟩; (· ((try simp only [nc] at *); first | done | omega | exact ⟨by omega, rfl⟩ | (simp (disch := (first | omega | (simp only [lnS, zA, zM, zG, zP]; omega))) only [nc, nct, w64_of, zT, zZ, zM, rdS, at_agg, bofZ, bof1, bof0, zC, zS]; first | done | omega | rfl | exact ⟨by omega, rfl⟩ | (simp; done) | (simp; omega)) | (intros; trivial))); (try (simp only [nc] at *)); (try simp (disch := (first | omega | (simp only [lnS, zA, zM, zG, zP]; omega))) only [nc, nct, w64_of, zT, zZ, zM, rdS, at_agg, bofZ, bof1, bof0, zC, zS]); (try cbv))
    | (refine E.d 5 (by decide +kernel) ?_; cbv; (fail_if_success guard_target =~ False))
    | fail
  )
  refine E.loopS (ι := Nat) (fun i => i ≤ l.length ∧ (i ≤ k0)) (fun i => l.length - i) (fun i => [(8, .i fun _ => ((i : Nat) : Int))]) (fun i h => h) 0 (fun _ => by first | rfl | simp) ⟨Nat.zero_le _, ?_⟩ ?_ fun i hi I hI => ?_
  · omega
  · cbv; simp
  cbv
  obtain ⟨hi, hp⟩ := hi
  repeat' (first
    | (refine hI (i + 1) ?_ ?_ ?_; rotate_left 1; (· ((try simp only [nc] at *); omega)); (cbv; clear hI; (try clear hF); (try simp only [nc] at *); (try simp (disch := (first | omega | (simp only [lnS, zA, zM, zG, zP]; omega))) only [nc, nct, w64_of, zT, zZ, zM, rdS, at_agg, bofZ, bof1, bof0, zC, zS, implies_true, and_true, true_and, forall_const])); rotate_left 1; (try ((try simp only [nc] at *); omega)))
    | (refine ⟨fun _ h_s => ?_, fun _ h_s => ?_⟩ <;> (cbv; (try simp only [nc] at *); try simp (disch := (first | omega | (simp only [lnS, zA, zM, zG, zP]; omega))) only [nc, nct, w64_of, zT, zZ, zM, rdS, at_agg, bofZ, bof1, bof0, zC, zS, reduceCtorEq, Bool.not_true, Bool.not_false, zD, zE, zB, zF, zN, zO, ne_eq, zQ, zL, zR, beq_iff_eq] at h_s))
    | (refine hF ?_; intro _; clear hF)
    | (refine hF ?_; cbv; clear hF)
    | (refine ⟨fun _ => ?_, ?_⟩; (· ((try simp only [nc] at *); first | done | omega | exact ⟨by omega, rfl⟩ | (simp (disch := (first | omega | (simp only [lnS, zA, zM, zG, zP]; omega))) only [nc, nct, w64_of, zT, zZ, zM, rdS, at_agg, bofZ, bof1, bof0, zC, zS]; first | done | omega | rfl | exact ⟨by omega, rfl⟩ | (simp; done) | (simp; omega)) | (intros; trivial))); (try (simp only [nc] at *)); (try simp (disch := (first | omega | (simp only [lnS, zA, zM, zG, zP]; omega))) only [nc, nct, w64_of, zT, zZ, zM, rdS, at_agg, bofZ, bof1, bof0, zC, zS]); (try cbv))
    | (refine E.d 5 (by decide +kernel) ?_; cbv; (fail_if_success guard_target =~ False))
    | fail
  )
  · simp only [Bool.and_true, Bool.and_eq_true, decide_eq_true_eq] at h_s
    have he : l.getD i id0 = d := (EId.ext' h_s.1 h_s.2).symm
    have e : i = k0 := by
      rcases Nat.lt_or_ge i k0 with h1 | h1
      · exact absurd he (hb i h1)
      · omega
    subst e; rfl
  · refine ⟨by ((try simp only [nc] at *); omega), ?_⟩
    rcases Nat.lt_or_ge i k0 with h1 | h1
    · omega
    · exfalso
      obtain rfl : i = k0 := by omega
      rw [hd] at h_s
      simp at h_s
  · push_cast; rfl
  · exfalso; ((try simp only [nc] at *); omega)
end Go.AL.Rl

namespace Go.AL.Rl
open Go Go.AL Go.Proofs
set_option maxRecDepth 100000
set_option maxHeartbeats 3200000
variable {γ : Nat → Option AV}

theorem place_at (g : Gr) (hg : Rd g) (loc : Int) (d : EId) (p : Int)
    (hp : (d.t = 0 ∧ p = 0) ∨ (d.t ≠ 0 ∧ 0 ≤ loc ∧ loc < g.ord.length ∧ ∃ k0 : Nat, p = k0 + 1 ∧ k0 < (g.ord.getD loc.toNat []).length ∧ (g.ord.getD loc.toNat []).getD k0 id0 = d ∧ ∀ k < k0, (g.ord.getD loc.toNat []).getD k id0 ≠ d)) :
    Pure Tryz.prog γ false 83 [aGr g, .i fun _ => loc, aId d] (.i fun _ => p) := by
  have hor := hg.ord
  have hord := ordsAt hg loc.toNat
  rcases hp with ⟨h0, hp⟩ | ⟨h0, h1, h2, k0, h3, h4, h5, h6⟩
  · subst hp
    refine Pure.go (ty := ty) ty_eq mo Tryz.func83 rfl Tryz.ntmps83 Tryz.results83 Tryz.call83 (by simp) fun P C CQ D W F E hF => ?_
    cbv
    repeat' (first
      | (refine ⟨fun _ h_s => ?_, fun _ h_s => ?_⟩ <;> (cbv; (try simp only [nc] at *); try simp (disch := (first | omega | (simp only [lnS, zA, zM, zG, zP]; omega))) only [nc, nct, w64_of, zT, zZ, zM, rdS, at_agg, bofZ, bof1, bof0, zC, zS, reduceCtorEq, Bool.not_true, Bool.not_false, zD, zE, zB, zF, zN, zO, ne_eq, zQ, zL, zR, beq_iff_eq] at h_s))
      | (refine hF ?_; intro _; clear hF)
      | (refine hF ?_; cbv; clear hF)
      | (refine ⟨fun _ => ?_, ?_⟩; (· ((try simp only [nc] at *); first | done | omega | exact ⟨by omega, rfl⟩ | (simp (disch := (first | omega | (simp only [lnS, zA, zM, zG, zP]; omega))) only [nc, nct, w64_of, zT, zZ, zM, rdS, at_agg, bofZ, bof1, bof0, zC, zS]; first | done | omega | rfl | exact ⟨by omega, rfl⟩ | (simp; done) | (simp; omega)) | (intros; trivial))); (try (simp only [nc] at *)); (try simp (disch := (first | omega | (simp only [lnS, zA, zM, zG, zP]; omega))) only [nc, nct, w64_of, zT, zZ, zM, rdS, at_agg, bofZ, bof1, bof0, zC, zS]); (try cbv))
      | (refine E.d 6 (by decide +kernel) ?_; cbv; (fail_if_success guard_target =~ False))
      | fail
    )
    all_goals simp_all
  · have kx := index_at (γ := γ) (g.ord.getD loc.toNat []) d hord k0 h4 h5 h6
    obtain ⟨l, hl⟩ : ∃ l, l = g.ord.getD loc.toNat [] := ⟨_, rfl⟩
    rw [← hl] at kx h4 hord
    clear h5 h6
    refine Pure.go (ty := ty) ty_eq mo Tryz.func83 rfl Tryz.ntmps83 Tryz.results83 Tryz.call83 (by simp) fun P C CQ D W F E hF => ?_
    cbv
    skip
    repeat' (first
      | (refine E.c (SCalls.of_le (kx) ?_ ?_); (· (cbv; (try simp only [nc] at *); first | done | (simp; done) | (simp (disch := (first | omega | (simp only [lnS, zA, zM, zG, zP]; omega))) only [nc, nct, w64_of, zT, zZ, zM, rdS, at_agg, bofZ, bof1, bof0, zC, zS, ← hl, implies_true, and_true, true_and, forall_const]; first | done | omega | (refine ⟨?_, ?_⟩ <;> omega)) | (simp (disch := (first | omega | (simp only [lnS, zA, zM, zG, zP]; omega))) [nc, nct, w64_of, zT, zZ, zM, rdS, at_agg, bofZ, bof1, bof0, zC, zS, ← hl]; done))); cbv)
      | (refine E.q (QCalls.of_le (kx) ?_ ?_); (· (cbv; (try simp only [nc] at *); first | done | (simp; done) | (simp (disch := (first | omega | (simp only [lnS, zA, zM, zG, zP]; omega))) only [nc, nct, w64_of, zT, zZ, zM, rdS, at_agg, bofZ, bof1, bof0, zC, zS, ← hl, implies_true, and_true, true_and, forall_const]; first | done | omega | (refine ⟨?_, ?_⟩ <;> omega)) | (simp (disch := (first | omega | (simp only [lnS, zA, zM, zG, zP]; omega))) [nc, nct, w64_of, zT, zZ, zM, rdS, at_agg, bofZ, bof1, bof0, zC, zS, ← hl]; done))); cbv)
      | (refine ⟨fun _ h_s => ?_, fun _ h_s => ?_⟩ <;> (cbv; (try simp only [nc] at *); try simp (disch := (first | omega | (simp only [lnS, zA, zM, zG, zP]; omega))) only [nc, nct, w64_of, zT, zZ, zM, rdS, at_agg, bofZ, bof1, bof0, zC, zS, ← hl, reduceCtorEq, Bool.not_true, Bool.not_false, zD, zE, zB, zF, zN, zO, ne_eq, zQ, zL, zR, beq_iff_eq] at h_s))
      | (refine hF ?_; intro _; clear hF)
      | (refine hF ?_; cbv; clear hF)
      | (refine ⟨fun _ => ?_, ?_⟩; (· ((try simp only [nc] at *); first | done | omega | exact ⟨by omega, rfl⟩ | (simp (disch := (first | omega | (simp only [lnS, zA, zM, zG, zP]; omega))) only [nc, nct, w64_of, zT, zZ, zM, rdS, at_agg, bofZ, bof1, bof0, zC, zS, ← hl]; first | done | omega | rfl | exact ⟨by omega, rfl⟩ | (simp; done) | (simp; omega)) | (intros; trivial))); (try (simp only [nc] at *)); (try simp (disch := (first | omega | (simp only [lnS, zA, zM, zG, zP]; omega))) only [nc, nct, w64_of, zT, zZ, zM, rdS, at_agg, bofZ, bof1, bof0, zC, zS, ← hl]); (try cbv))
      | (refine E.d 6 (by decide +kernel) ?_; cbv; (fail_if_success guard_target =~ False))
      | fail
    )
    · exact absurd (by assumption) h0
    · rw [h3]
      simp only
      (try simp only [nc] at *)
      rw [w64_of (by ((try simp only [nc] at *); omega)) (by ((try simp only [nc] at *); omega))]
/-- the number of an event of a thread -/
def kN (g : Gr) (t i : Nat) : Nat := g.init.length + (evsT g t).length + i
theorem idsT_at (g : Gr) (t i : Nat) (hi : i < (g.th.getD t []).length) : ∀ T, t < T → (evsT g t).length + i < (idsT g T).length ∧ (idsT g T).getD ((evsT g t).length + i) id0 = ⟨(t : Int) + 1, (i : Int)⟩
  | 0, h => absurd h (Nat.not_lt_zero _)
  | T + 1, h => by
    rw [idsT_succ]
    by_cases e : t = T
    · subst e
      have hl := idsT_len g t
      have hE := idsE_len t (g.th.getD t []).length
      refine ⟨by rw [List.length_append, hE]; omega, ?_⟩
      rw [List.getD_eq_getElem?_getD, List.getElem?_append_right (by omega)]
      rw [show (evsT g t).length + i - (idsT g t).length = i by omega]
      have hi' : i < (g.th[t]?.getD []).length := by simpa using hi
      simp [idsE, hi']
    · obtain ⟨h1, h2⟩ := idsT_at g t i hi T (by omega)
      refine ⟨by rw [List.length_append]; omega, ?_⟩
      rw [List.getD_eq_getElem?_getD, List.getElem?_append_left h1, ← List.getD_eq_getElem?_getD, h2]
theorem kN_ids {g : Gr} {t i : Nat} (ht : t < g.th.length) (hi : i < (g.th.getD t []).length) : kN g t i < nG g ∧ (idsG g).getD (kN g t i) id0 = ⟨(t : Int) + 1, (i : Int)⟩ := by
  obtain ⟨h1, h2⟩ := idsT_at g t i hi g.th.length ht
  have hI := idsI_len g.init.length
  refine ⟨by unfold nG idsG kN; rw [List.length_append, hI]; omega, ?_⟩
  unfold idsG kN
  rw [List.getD_eq_getElem?_getD, List.getElem?_append_right (by omega), hI, show g.init.length + (evsT g t).length + i - g.init.length = (evsT g t).length + i by omega, ← List.getD_eq_getElem?_getD, h2]
theorem kN_ev {g : Gr} {t i : Nat} (ht : t < g.th.length) (hi : i < (g.th.getD t []).length) (hs : g.th.length ≤ 4) : (viewG g).ev.getD (kN g t i) ev0 = (g.th.getD t []).getD i ev0 := by
  obtain ⟨h1, h2⟩ := kN_ids ht hi
  have := evsG_get g (kN g t i) h1
  rw [h2] at this
  unfold eventM at this
  have hi' : i < (g.th[t]?.getD []).length := by simpa using hi
  rw [if_neg (by simp; omega), if_pos (by simp; omega)] at this
  have e := (Option.some.inj this).symm
  show (evsG g).getD _ _ = _
  rw [e]
  simp
theorem place_num (g : Gr) (hg : Rd g) (h : GOk g) (k : Nat) (hk : k < nG g) (hw : writesM ((viewG g).ev.getD k ev0) = true) (loc : Int) (hloc : loc = ((viewG g).ev.getD k ev0).loc) (d : EId) (hd : (idsG g).getD k id0 = d) :
    Pure Tryz.prog γ false 83 [aGr g, .i fun _ => loc, aId d] (.i fun _ => (viewG g).pl.getD k 0) := by
  subst hloc
  subst hd
  have hev := vev h k hk
  rw [vpl h k hk]
  refine place_at g hg _ _ _ ?_
  rcases pl_write h hev hw with h1 | ⟨h0, k0, h1, h2, h3⟩
  · exact .inl h1
  · have hl := fine_loc (event_fine h hev h0) (notFence_w hw)
    have hnd : (g.ord.getD ((viewG g).ev.getD k ev0).loc.toNat []).Nodup := ((ordered_iff g _).1 (h.orders _ (by omega))).1
    refine .inr ⟨h0, hl.1, by rw [h.lord]; exact hl.2, k0, h1, h2, h3, fun j hj he => ?_⟩
    have : j = k0 := getD_inj hnd (by omega) h2 (he.trans h3.symm)
    omega
end Go.AL.Rl

namespace Go.AL.Rl
open Go Go.AL Go.Proofs
set_option maxRecDepth 100000
set_option maxHeartbeats 3200000
variable {γ : Nat → Option AV}

theorem kN_next (g : Gr) (t : Nat) : kN g t (g.th.getD t []).length = kN g (t + 1) 0 := by
  unfold kN; rw [evsT_succ, List.length_append]; omega
theorem kN_end (g : Gr) : kN g g.th.length 0 = nG g := by
  unfold kN nG idsG; rw [List.length_append, idsI_len, idsT_len]; omega
theorem upd_init {g : Gr} (h : GOk g) (k : Nat) (hk : k < kN g 0 0) : updB (viewG g) k = false := by
  have hk' : k < g.init.length := by simpa [kN, evsT] using hk
  have hn : k < nG g := by unfold nG idsG; rw [List.length_append, idsI_len]; omega
  have he := vev h k hn
  have h0 : ((idsG g).getD k id0).t = 0 := by
    unfold idsG
    rw [List.getD_eq_getElem?_getD, List.getElem?_append_left (by rw [idsI_len]; exact hk')]
    simp [idsI, hk']
  have := (event_init he h0).1
  unfold updB
  rw [this]; rfl
theorem upd_src {g : Gr} (h : GOk g) {t i : Nat} (ht : t < g.th.length) (hi : i < (g.th.getD t []).length) (hr : readsM ((viewG g).ev.getD (kN g t i) ev0) = true) :
    ∃ w : Nat, (viewG g).fr.getD (kN g t i) 0 = w ∧ w < nG g ∧ writesM ((viewG g).ev.getD w ev0) = true ∧ ((viewG g).ev.getD w ev0).loc = ((viewG g).ev.getD (kN g t i) ev0).loc ∧ (idsG g).getD w id0 = (g.fr.getD t []).getD i id0 := by
  obtain ⟨hk, hd⟩ := kN_ids ht hi
  obtain ⟨w, h1, h2, h3, h4, h5⟩ := src_of h (kN g t i) hk hr
  refine ⟨w, h1, h2, h4, h5, ?_⟩
  have e := vfr h _ hk
  rw [hd] at e
  have hev := vev h _ hk
  rw [hd] at hev
  unfold frOf at e
  rw [if_neg (by simp; omega), hev] at e
  simp only [Option.getD_some] at e
  rw [if_pos hr, h1] at e
  have hw : w = numOf (idsG g) (srcOf g ⟨(t : Int) + 1, (i : Int)⟩) := Int.ofNat_inj.1 e
  have hm : srcOf g ⟨(t : Int) + 1, (i : Int)⟩ ∈ idsG g := by
    obtain ⟨wv, k1, _⟩ := source_mem (src_ok h (d := ⟨(t : Int) + 1, (i : Int)⟩) (by rw [← hd]; exact List.getElem_eq_getD (h := hk) id0 ▸ List.getElem_mem _) (by simp; omega)) (by rw [hev]; exact hr)
    exact idsG_mem.2 (by rw [k1]; rfl)
  rw [hw, numOf_get hm]
  unfold srcOf
  simp
theorem ord_small {g : Gr} (h : GOk g) {x : Nat} (hx : x < g.init.length) : (g.ord.getD x []).length ≤ 56 := by
  have h1 := h.orders x hx
  unfold orderedM at h1
  rw [Bool.and_eq_true, decide_eq_true_eq, decide_eq_true_eq] at h1
  have h2 := cntT_le (ts := g.th) (x : Int) h.short.ths
  have h3 := h.short.th
  omega
theorem pl_small {g : Gr} (h : GOk g) {k : Nat} (hk : k < nG g) (hw : writesM ((viewG g).ev.getD k ev0) = true) : 0 ≤ (viewG g).pl.getD k 0 ∧ (viewG g).pl.getD k 0 ≤ 60 := by
  have hev := vev h k hk
  rw [vpl h k hk]
  rcases pl_write h hev hw with h1 | ⟨h0, k0, h1, h2, h3⟩
  · omega
  · have hl := fine_loc (event_fine h hev h0) (notFence_w hw)
    have := ord_small h (x := ((viewG g).ev.getD k ev0).loc.toNat) (by omega)
    omega
theorem update_ok (g : Gr) (hg : Rd g) (h : GOk g) (n : Int) (po rf co fr eco porf loc sw hb : List (BitVec 64)) : Pure Tryz.prog γ false 55 [aFc g n po rf co fr eco porf loc sw hb] (aFt (updF (viewG g) (nG g))) := by
  have hth := h.short.th
  have hin := h.short.init
  have hle : ∀ t, (g.th.getD t []).length ≤ 14 := h.short.at
  have hk0 : kN g 0 0 = g.init.length := by simp [kN, evsT]
  have hkb : ∀ t i, t ≤ g.th.length → i ≤ (g.th.getD t []).length → kN g t i ≤ 100 := fun t i h1 h2 => by
    have := evsT_len h.short t
    have := hle t
    unfold kN; omega
  have hU : ∀ k, k < nG g → updB (viewG g) k = true → (∀ j < k, updB (viewG g) j = false) → updF (viewG g) (nG g) = ⟨k, -1, true⟩ := fun k h1 h2 h3 => updF_at h1 h2 h3
  have hU0 : (∀ j < nG g, updB (viewG g) j = false) → updF (viewG g) (nG g) = ⟨0, 0, false⟩ := updF_no
  have hui := upd_init h
  generalize updF (viewG g) (nG g) = FT at *
  refine Pure.go (ty := ty) ty_eq mo Tryz.func55 rfl Tryz.ntmps55 Tryz.results55 Tryz.call55 (by simp) fun P C CQ D W F E hF => ?_
  cbv
  repeat' (first
    | (refine ⟨fun _ h_s => ?_, fun _ h_s => ?_⟩ <;> (cbv; (try simp only [nc] at *); try simp (disch := (first | omega | (simp only [lnS, zA, zM, zG, zP]; omega))) only [nc, nct, w64_of, zT, zZ, zM, rdS, at_agg, bofZ, bof1, bof0, zC, zS, reduceCtorEq, Bool.not_true, Bool.not_false, zD, zE, zB, zF, zN, zO, ne_eq, zQ, zL, zR, beq_iff_eq] at h_s))
    | (refine hF ?_; intro _; clear hF)
    | (refine hF ?_; cbv; clear hF)
    | (refine ⟨fun _ => ?_, ?_⟩; (· ((try simp only [nc] at *); first | done | omega | exact ⟨by omega, rfl⟩ | (simp (disch := (first | omega | (simp only [lnS, zA, zM, zG, zP]; omega))) only [nc, nct, w64_of, zT, zZ, zM, rdS, at_agg, bofZ, bof1, bof0, zC, zS]; first | done | omega | rfl | exact ⟨by omega, rfl⟩ | (simp; done) | (simp; omega)) | (intros; trivial))); (try (simp only [nc] at *)); (try simp (disch := (first | omega | (simp only [lnS, zA, zM, zG, zP]; omega))) only [nc, nct, w64_of, zT, zZ, zM, rdS, at_agg, bofZ, bof1, bof0, zC, zS]); (try cbv))
    | (refine E.d 16 (by decide +kernel) ?_; cbv; (fail_if_success guard_target =~ False))
    | fail
  )
  refine E.loopS (ι := Nat) (fun t => t ≤ g.th.length ∧ (∀ k < kN g t 0, updB (viewG g) k = false)) (fun t => g.th.length - t) (fun t => [(17, .i fun _ => ((t : Nat) : Int)), (3, .i fun _ => ((kN g t 0 : Nat) : Int))]) (fun t h => h) 0 (fun _ => by first | rfl | simp) ⟨Nat.zero_le _, ?_⟩ ?_ fun t ht I hI => ?_
  · exact hui
  · cbv; simp [hk0]
  cbv
  obtain ⟨ht, hp⟩ := ht
  repeat' (first
    | (refine ⟨fun _ h_s => ?_, fun _ h_s => ?_⟩ <;> (cbv; (try simp only [nc] at *); try simp (disch := (first | omega | (simp only [lnS, zA, zM, zG, zP]; omega))) only [nc, nct, w64_of, zT, zZ, zM, rdS, at_agg, bofZ, bof1, bof0, zC, zS, reduceCtorEq, Bool.not_true, Bool.not_false, zD, zE, zB, zF, zN, zO, ne_eq, zQ, zL, zR, beq_iff_eq] at h_s))
    | (refine hF ?_; intro _; clear hF)
    | (refine hF ?_; cbv; clear hF)
    | (refine ⟨fun _ => ?_, ?_⟩; (· ((try simp only [nc] at *); first | done | omega | exact ⟨by omega, rfl⟩ | (simp (disch := (first | omega | (simp only [lnS, zA, zM, zG, zP]; omega))) only [nc, nct, w64_of, zT, zZ, zM, rdS, at_agg, bofZ, bof1, bof0, zC, zS]; first | done | omega | rfl | exact ⟨by omega, rfl⟩ | (simp; done) | (simp; omega)) | (intros; trivial))); (try (simp only [nc] at *)); (try simp (disch := (first | omega | (simp only [lnS, zA, zM, zG, zP]; omega))) only [nc, nct, w64_of, zT, zZ, zM, rdS, at_agg, bofZ, bof1, bof0, zC, zS]); (try cbv))
    | (refine E.d 16 (by decide +kernel) ?_; cbv; (fail_if_success guard_target =~ False))
    | fail
  )
  · refine E.loopS (ι := Nat) (fun i => i ≤ (g.th.getD t []).length ∧ (∀ k < kN g t i, updB (viewG g) k = false)) (fun i => (g.th.getD t []).length - i) (fun i => [(24, .i fun _ => ((i : Nat) : Int)), (3, .i fun _ => ((kN g t i : Nat) : Int))]) (fun i h => h) 0 (fun _ => by first | rfl | simp) ⟨Nat.zero_le _, ?_⟩ ?_ fun i hi I2 hI2 => ?_
    · exact hp
    · cbv; simp
    cbv
    obtain ⟨hi, hp2⟩ := hi
    have hb := hkb t i ht hi
    have hb1 := hle t
    repeat' (first
      | (refine hI (t + 1) ?_ ?_ ?_; rotate_left 1; (· ((try simp only [nc] at *); omega)); (cbv; clear hI; (try clear hF); (try simp only [nc] at *); (try simp (disch := (first | omega | (simp only [lnS, zA, zM, zG, zP]; omega))) only [nc, nct, w64_of, zT, zZ, zM, rdS, at_agg, bofZ, bof1, bof0, zC, zS, implies_true, and_true, true_and, forall_const])); rotate_left 1; (try ((try simp only [nc] at *); omega)))
      | (refine hI2 (i + 1) ?_ ?_ ?_; rotate_left 1; (· ((try simp only [nc] at *); omega)); (cbv; clear hI2; (try clear hF); (try simp only [nc] at *); (try simp (disch := (first | omega | (simp only [lnS, zA, zM, zG, zP]; omega))) only [nc, nct, w64_of, zT, zZ, zM, rdS, at_agg, bofZ, bof1, bof0, zC, zS, implies_true, and_true, true_and, forall_const])); rotate_left 1; (try ((try simp only [nc] at *); omega)))
      | (refine ⟨fun _ h_s => ?_, fun _ h_s => ?_⟩ <;> (cbv; (try simp only [nc] at *); try simp (disch := (first | omega | (simp only [lnS, zA, zM, zG, zP]; omega))) only [nc, nct, w64_of, zT, zZ, zM, rdS, at_agg, bofZ, bof1, bof0, zC, zS, reduceCtorEq, Bool.not_true, Bool.not_false, zD, zE, zB, zF, zN, zO, ne_eq, zQ, zL, zR, beq_iff_eq] at h_s))
      | (refine hF ?_; intro _; clear hF)
      | (refine hF ?_; cbv; clear hF)
      | (refine ⟨fun _ => ?_, ?_⟩; (· ((try simp only [nc] at *); first | done | omega | exact ⟨by omega, rfl⟩ | (simp (disch := (first | omega | (simp only [lnS, zA, zM, zG, zP]; omega))) only [nc, nct, w64_of, zT, zZ, zM, rdS, at_agg, bofZ, bof1, bof0, zC, zS]; first | done | omega | rfl | exact ⟨by omega, rfl⟩ | (simp; done) | (simp; omega)) | (intros; trivial))); (try (simp only [nc] at *)); (try simp (disch := (first | omega | (simp only [lnS, zA, zM, zG, zP]; omega))) only [nc, nct, w64_of, zT, zZ, zM, rdS, at_agg, bofZ, bof1, bof0, zC, zS]); (try cbv))
      | (refine E.d 16 (by decide +kernel) ?_; cbv; (fail_if_success guard_target =~ False))
      | fail
    )
    · have ht' : t < g.th.length := by ((try simp only [nc] at *); omega)
      have hi' : i < (g.th.getD t []).length := by ((try simp only [nc] at *); omega)
      obtain ⟨hk, hd⟩ := kN_ids ht' hi'
      have hev := kN_ev ht' hi' hth
      have h3 : ((g.th.getD t []).getD i ev0).kind = 3 := by assumption
      have hr : readsM ((viewG g).ev.getD (kN g t i) ev0) = true := by rw [hev]; unfold readsM; rw [h3]; rfl
      have hw : writesM ((viewG g).ev.getD (kN g t i) ev0) = true := by rw [hev]; unfold writesM; rw [h3]; rfl
      obtain ⟨w, s1, s2, s3, s4, s5⟩ := upd_src h ht' hi' hr
      have p1 := place_num (γ := γ) g hg h (kN g t i) hk hw ((g.th.getD t []).getD i ev0).loc (by rw [hev]) ⟨(t : Int) + 1, (i : Int)⟩ hd
      have p2 := place_num (γ := γ) g hg h w s2 s3 ((g.th.getD t []).getD i ev0).loc (by rw [s4, hev]) ((g.fr.getD t []).getD i id0) s5
      have hfl : (g.fr.getD t []).length = (g.th.getD t []).length := (h.events t ht').1
      have hfr : g.fr.length = g.th.length := h.lfr
      have hu : updB (viewG g) (kN g t i) = decide ((viewG g).pl.getD (kN g t i) 0 ≠ (viewG g).pl.getD w 0 + 1) := by unfold updB; rw [hev, h3, s1]; simp
      have b1 := pl_small h hk hw
      have b2 := pl_small h s2 s3
      have hUk := hU _ hk
      clear hU hU0 hui hkb s1 s5 hd hr hw hev
      generalize (viewG g).pl.getD (kN g t i) 0 = x1 at *
      generalize (viewG g).pl.getD w 0 = x2 at *
      repeat' (first
        | (refine hI2 (i + 1) ?_ ?_ ?_; rotate_left 1; (· ((try simp only [nc] at *); omega)); (cbv; clear hI2; (try clear hF); (try simp only [nc] at *); (try simp (disch := (first | omega | (simp only [lnS, zA, zM, zG, zP]; omega))) only [nc, nct, w64_of, zT, zZ, zM, rdS, at_agg, bofZ, bof1, bof0, zC, zS, implies_true, and_true, true_and, forall_const])); rotate_left 1; (try ((try simp only [nc] at *); omega)))
        | (refine E.c (SCalls.of_le (p2) ?_ ?_); (· (cbv; (try simp only [nc] at *); first | done | (simp; done) | (simp (disch := (first | omega | (simp only [lnS, zA, zM, zG, zP]; omega))) only [nc, nct, w64_of, zT, zZ, zM, rdS, at_agg, bofZ, bof1, bof0, zC, zS, implies_true, and_true, true_and, forall_const]; first | done | omega | (refine ⟨?_, ?_⟩ <;> omega)) | (simp (disch := (first | omega | (simp only [lnS, zA, zM, zG, zP]; omega))) [nc, nct, w64_of, zT, zZ, zM, rdS, at_agg, bofZ, bof1, bof0, zC, zS]; done))); cbv)
        | (refine E.q (QCalls.of_le (p2) ?_ ?_); (· (cbv; (try simp only [nc] at *); first | done | (simp; done) | (simp (disch := (first | omega | (simp only [lnS, zA, zM, zG, zP]; omega))) only [nc, nct, w64_of, zT, zZ, zM, rdS, at_agg, bofZ, bof1, bof0, zC, zS, implies_true, and_true, true_and, forall_const]; first | done | omega | (refine ⟨?_, ?_⟩ <;> omega)) | (simp (disch := (first | omega | (simp only [lnS, zA, zM, zG, zP]; omega))) [nc, nct, w64_of, zT, zZ, zM, rdS, at_agg, bofZ, bof1, bof0, zC, zS]; done))); cbv)
        | (refine E.c (SCalls.of_le (p1) ?_ ?_); (· (cbv; (try simp only [nc] at *); first | done | (simp; done) | (simp (disch := (first | omega | (simp only [lnS, zA, zM, zG, zP]; omega))) only [nc, nct, w64_of, zT, zZ, zM, rdS, at_agg, bofZ, bof1, bof0, zC, zS, implies_true, and_true, true_and, forall_const]; first | done | omega | (refine ⟨?_, ?_⟩ <;> omega)) | (simp (disch := (first | omega | (simp only [lnS, zA, zM, zG, zP]; omega))) [nc, nct, w64_of, zT, zZ, zM, rdS, at_agg, bofZ, bof1, bof0, zC, zS]; done))); cbv)
        | (refine ⟨fun _ h_s => ?_, fun _ h_s => ?_⟩ <;> (cbv; (try simp only [nc] at *); try simp (disch := (first | omega | (simp only [lnS, zA, zM, zG, zP]; omega))) only [nc, nct, w64_of, zT, zZ, zM, rdS, at_agg, bofZ, bof1, bof0, zC, zS, reduceCtorEq, Bool.not_true, Bool.not_false, zD, zE, zB, zF, zN, zO, ne_eq, zQ, zL, zR, beq_iff_eq] at h_s))
        | (refine hF ?_; intro _; clear hF)
        | (refine hF ?_; cbv; clear hF)
        | (refine ⟨fun _ => ?_, ?_⟩; (· ((try simp only [nc] at *); first | done | omega | exact ⟨by omega, rfl⟩ | (simp (disch := (first | omega | (simp only [lnS, zA, zM, zG, zP]; omega))) only [nc, nct, w64_of, zT, zZ, zM, rdS, at_agg, bofZ, bof1, bof0, zC, zS]; first | done | omega | rfl | exact ⟨by omega, rfl⟩ | (simp; done) | (simp; omega)) | (intros; trivial))); (try (simp only [nc] at *)); (try simp (disch := (first | omega | (simp only [lnS, zA, zM, zG, zP]; omega))) only [nc, nct, w64_of, zT, zZ, zM, rdS, at_agg, bofZ, bof1, bof0, zC, zS]); (try cbv))
        | (refine E.d 16 (by decide +kernel) ?_; cbv; (fail_if_success guard_target =~ False))
        | fail
      )
      · have hs1 : ¬ x1 = x2 + 1 := by
          first
            | exact h_s
            | (rw [w64_of (by omega) (by omega)] at h_s; exact h_s)
        rw [hUk (by rw [hu]; exact decide_eq_true hs1) hp2]
        exact ⟨fun _ => rfl, fun _ => rfl, fun _ => rfl, trivial⟩
      · have hs1 : x1 = x2 + 1 := by
          first
            | exact h_s
            | (rw [w64_of (by omega) (by omega)] at h_s; exact h_s)
        refine ⟨by ((try simp only [nc] at *); omega), fun k hk => ?_⟩
        rcases Nat.lt_or_ge k (kN g t i) with h1 | h1
        · exact hp2 k h1
        · obtain rfl : k = kN g t i := by unfold kN at *; omega
          rw [hu]; exact decide_eq_false (by simp [hs1])
      · refine ⟨?_, by push_cast; rfl⟩
        unfold kN; push_cast; omega
    · refine ⟨by ((try simp only [nc] at *); omega), fun k hk => ?_⟩
      have h3 : ¬ ((g.th.getD t []).getD i ev0).kind = 3 := by assumption
      rcases Nat.lt_or_ge k (kN g t i) with h1 | h1
      · exact hp2 k h1
      · obtain rfl : k = kN g t i := by unfold kN at *; omega
        unfold updB
        rw [kN_ev (by ((try simp only [nc] at *); omega)) (by ((try simp only [nc] at *); omega)) hth, decide_eq_false h3]; rfl
    · refine ⟨?_, by push_cast; rfl⟩
      unfold kN; push_cast; omega
    · have e : i = (g.th.getD t []).length := by ((try simp only [nc] at *); omega)
      subst e
      rw [kN_next] at hp2
      exact ⟨by ((try simp only [nc] at *); omega), hp2⟩
    · have e : i = (g.th.getD t []).length := by ((try simp only [nc] at *); omega)
      subst e
      rw [kN_next]
      exact ⟨rfl, by push_cast; rfl⟩
  · have e : t = g.th.length := by ((try simp only [nc] at *); omega)
    subst e
    rw [kN_end] at hp
    rw [hU0 hp]
    exact ⟨fun _ => rfl, fun _ => rfl, fun _ => rfl, trivial⟩
end Go.AL.Rl

namespace Go.AL.Rl
open Go Go.AL Go.Proofs
set_option maxRecDepth 100000
set_option maxHeartbeats 3200000
variable {γ : Nat → Option AV}

theorem coherence_ok (g : Gr) (n : Int) (po rf co fr eco porf loc sw hb : List (BitVec 64)) (le : eco.length ≤ 64) (lh : hb.length ≤ 64) (hle : hb.length = eco.length) : Pure Tryz.prog γ false 59 [aFc g n po rf co fr eco porf loc sw hb] (aFt (cohF hb eco)) := by
  have hU : ∀ a b, a < hb.length → b < eco.length → cohB hb eco a b = true → (∀ k < b, cohB hb eco a k = false) → (∀ k < a, ∀ j < eco.length, cohB hb eco k j = false) → cohF hb eco = ⟨a, b, true⟩ := fun a b h1 h2 h3 h4 h5 => cohF_at h1 h2 h3 h4 h5
  have hU0 : (∀ k < hb.length, ∀ j < eco.length, cohB hb eco k j = false) → cohF hb eco = ⟨0, 0, false⟩ := cohF_no
  have hB : ∀ a b, cohB hb eco a b = (decide (a ≠ b) && (!decide ((hb.getD a 0 >>> b) &&& 1#64 = 0#64)) && (!decide ((eco.getD b 0 >>> a) &&& 1#64 = 0#64))) := fun a b => by
    rw [getLsb_and1, getLsb_and1]; rfl
  generalize cohF hb eco = FT at *
  generalize cohB hb eco = P' at *
  refine Pure.go (ty := ty) ty_eq mo Tryz.func59 rfl Tryz.ntmps59 Tryz.results59 Tryz.call59 (by simp) fun P C CQ D W F E hF => ?_
  cbv
  repeat' (first
    | (refine ⟨fun _ h_s => ?_, fun _ h_s => ?_⟩ <;> (cbv; (try simp only [nc] at *); try simp (disch := (first | omega | (simp only [lnS, zA, zM, zG, zP]; omega))) only [nc, nct, w64_of, zT, zZ, zM, rdS, at_agg, bofZ, bof1, bof0, zC, zS, reduceCtorEq, Bool.not_true, Bool.not_false, zD, zE, zB, zF, zN, zO, ne_eq, zQ, zL, zR, beq_iff_eq] at h_s))
    | (refine hF ?_; intro _; clear hF)
    | (refine hF ?_; cbv; clear hF)
    | (refine ⟨fun _ => ?_, ?_⟩; (· ((try simp only [nc] at *); first | done | omega | exact ⟨by omega, rfl⟩ | (simp (disch := (first | omega | (simp only [lnS, zA, zM, zG, zP]; omega))) only [nc, nct, w64_of, zT, zZ, zM, rdS, at_agg, bofZ, bof1, bof0, zC, zS]; first | done | omega | rfl | exact ⟨by omega, rfl⟩ | (simp; done) | (simp; omega)) | (intros; trivial))); (try (simp only [nc] at *)); (try simp (disch := (first | omega | (simp only [lnS, zA, zM, zG, zP]; omega))) only [nc, nct, w64_of, zT, zZ, zM, rdS, at_agg, bofZ, bof1, bof0, zC, zS]); (try cbv))
    | (refine E.d 11 (by decide +kernel) ?_; cbv; (fail_if_success guard_target =~ False))
    | fail
  )
  refine E.loopS (ι := Nat) (fun a => a ≤ hb.length ∧ (∀ k < a, ∀ j < eco.length, P' k j = false)) (fun a => hb.length - a) (fun a => [(21, .i fun _ => ((a : Nat) : Int))]) (fun a h => h) 0 (fun _ => by first | rfl | simp) ⟨Nat.zero_le _, ?_⟩ ?_ fun a ha I hI => ?_
  · intro k hk; omega
  · cbv; simp
  cbv
  obtain ⟨ha, hp⟩ := ha
  repeat' (first
    | (refine ⟨fun _ h_s => ?_, fun _ h_s => ?_⟩ <;> (cbv; (try simp only [nc] at *); try simp (disch := (first | omega | (simp only [lnS, zA, zM, zG, zP]; omega))) only [nc, nct, w64_of, zT, zZ, zM, rdS, at_agg, bofZ, bof1, bof0, zC, zS, reduceCtorEq, Bool.not_true, Bool.not_false, zD, zE, zB, zF, zN, zO, ne_eq, zQ, zL, zR, beq_iff_eq] at h_s))
    | (refine hF ?_; intro _; clear hF)
    | (refine hF ?_; cbv; clear hF)
    | (refine ⟨fun _ => ?_, ?_⟩; (· ((try simp only [nc] at *); first | done | omega | exact ⟨by omega, rfl⟩ | (simp (disch := (first | omega | (simp only [lnS, zA, zM, zG, zP]; omega))) only [nc, nct, w64_of, zT, zZ, zM, rdS, at_agg, bofZ, bof1, bof0, zC, zS]; first | done | omega | rfl | exact ⟨by omega, rfl⟩ | (simp; done) | (simp; omega)) | (intros; trivial))); (try (simp only [nc] at *)); (try simp (disch := (first | omega | (simp only [lnS, zA, zM, zG, zP]; omega))) only [nc, nct, w64_of, zT, zZ, zM, rdS, at_agg, bofZ, bof1, bof0, zC, zS]); (try cbv))
    | (refine E.d 11 (by decide +kernel) ?_; cbv; (fail_if_success guard_target =~ False))
    | fail
  )
  · refine E.loopS (ι := Nat) (fun b => b ≤ eco.length ∧ (∀ j < b, P' a j = false)) (fun b => eco.length - b) (fun b => [(26, .i fun _ => ((b : Nat) : Int))]) (fun b h => h) 0 (fun _ => by first | rfl | simp) ⟨Nat.zero_le _, ?_⟩ ?_ fun b hb2 I2 hI2 => ?_
    · intro k hk; omega
    · cbv; simp
    cbv
    obtain ⟨hb2, hp2⟩ := hb2
    have hab := hB a b
    have hba := bofInt (k := a) (by omega)
    have hbb := bofInt (k := b) (by omega)
    have hin : ((a : Int) = b) ↔ a = b := Int.ofNat_inj
    repeat' (first
      | (refine hI (a + 1) ?_ ?_ ?_; rotate_left 1; (· ((try simp only [nc] at *); omega)); (cbv; clear hI; (try clear hF); (try simp only [nc] at *); (try simp (disch := (first | omega | (simp only [lnS, zA, zM, zG, zP]; omega))) only [nc, nct, w64_of, zT, zZ, zM, rdS, at_agg, bofZ, bof1, bof0, zC, zS, implies_true, and_true, true_and, forall_const])); rotate_left 1; (try ((try simp only [nc] at *); omega)))
      | (refine hI2 (b + 1) ?_ ?_ ?_; rotate_left 1; (· ((try simp only [nc] at *); omega)); (cbv; clear hI2; (try clear hF); (try simp only [nc] at *); (try simp (disch := (first | omega | (simp only [lnS, zA, zM, zG, zP]; omega))) only [nc, nct, w64_of, zT, zZ, zM, rdS, at_agg, bofZ, bof1, bof0, zC, zS, implies_true, and_true, true_and, forall_const])); rotate_left 1; (try ((try simp only [nc] at *); omega)))
      | (refine ⟨fun _ h_s => ?_, fun _ h_s => ?_⟩ <;> (cbv; (try simp only [nc] at *); try simp (disch := (first | omega | (simp only [lnS, zA, zM, zG, zP]; omega))) only [nc, nct, w64_of, zT, zZ, zM, rdS, at_agg, bofZ, bof1, bof0, zC, zS, reduceCtorEq, Bool.not_true, Bool.not_false, zD, zE, zB, zF, zN, zO, ne_eq, zQ, zL, zR, beq_iff_eq] at h_s))
      | (refine hF ?_; intro _; clear hF)
      | (refine hF ?_; cbv; clear hF)
      | (refine ⟨fun _ => ?_, ?_⟩; (· ((try simp only [nc] at *); first | done | omega | exact ⟨by omega, rfl⟩ | (simp (disch := (first | omega | (simp only [lnS, zA, zM, zG, zP]; omega))) only [nc, nct, w64_of, zT, zZ, zM, rdS, at_agg, bofZ, bof1, bof0, zC, zS]; first | done | omega | rfl | exact ⟨by omega, rfl⟩ | (simp; done) | (simp; omega)) | (intros; trivial))); (try (simp only [nc] at *)); (try simp (disch := (first | omega | (simp only [lnS, zA, zM, zG, zP]; omega))) only [nc, nct, w64_of, zT, zZ, zM, rdS, at_agg, bofZ, bof1, bof0, zC, zS]); (try cbv))
      | (refine E.d 11 (by decide +kernel) ?_; cbv; (fail_if_success guard_target =~ False))
      | fail
    )
    · have ht : P' a b = true := by
        clear hB hU hU0 hp hp2
        rw [hab]
        simp_all
      rw [hU a b (by ((try simp only [nc] at *); omega)) (by ((try simp only [nc] at *); omega)) ht hp2 hp]
      exact ⟨fun _ => rfl, fun _ => rfl, fun _ => rfl, trivial⟩
    iterate 3
      · have ht : P' a b = false := by
          clear hB hU hU0 hp hp2
          rw [hab]
          first
            | (simp_all; done)
            | (simp_all; omega)
        refine ⟨by ((try simp only [nc] at *); omega), fun j hj => ?_⟩
        rcases Nat.lt_or_ge j b with h1 | h1
        · exact hp2 j h1
        · obtain rfl : j = b := by omega
          exact ht
      · push_cast; rfl
    · refine ⟨by ((try simp only [nc] at *); omega), fun k hk j hj => ?_⟩
      rcases Nat.lt_or_ge k a with h1 | h1
      · exact hp k h1 j hj
      · obtain rfl : k = a := by omega
        exact hp2 j (by ((try simp only [nc] at *); omega))
    · push_cast; rfl
  · have e : a = hb.length := by ((try simp only [nc] at *); omega)
    subst e
    rw [hU0 hp]
    exact ⟨fun _ => rfl, fun _ => rfl, fun _ => rfl, trivial⟩
theorem alike4 (n : Int) (a b c d : List (BitVec 64)) (ha : Fits n a) (hb : Fits n b) (hc : Fits n c) (hd : Fits n d) : Alike [(n, a), (n, b), (n, c), (n, d)] := by
  refine ⟨by simp, fun i hi => ?_⟩
  have : i = 0 ∨ i = 1 ∨ i = 2 ∨ i = 3 := by simp at hi; omega
  rcases this with rfl | rfl | rfl | rfl
  · simp [ha]
  · simp [hb]
  · simp [hc]
  · simp [hd]
theorem togF_fits (V : Vw) {n : Nat} (hn : n ≤ 62) : Fits n (togF V n) := fits_or (by omega) (l := [((n : Int), poF V n), ((n : Int), rfF V n), ((n : Int), coF V n), ((n : Int), frF V n)]) (by
  have f1 := fits_poF V hn
  have f2 := fits_rfF V hn
  have f3 := fits_coF V hn
  have f4 := fits_frF V hn
  simp [f1, f2, f3, f4])
noncomputable abbrev aFg (g : Gr) : AV := aFc g (nG g : Nat) (poF (viewG g) (nG g)) (rfF (viewG g) (nG g)) (coF (viewG g) (nG g)) (frF (viewG g) (nG g)) (ecoF (viewG g) (nG g)) (porfF (viewG g) (nG g)) (locF (viewG g) (nG g)) (swF (viewG g) (nG g)) (hbF (viewG g) (nG g))
theorem together_ok (g : Gr) (h : GOk g) : Pure Tryz.prog γ false 16 [aFg g] (encRel (nG g : Nat) (togF (viewG g) (nG g))) := by
  have hn := (viewG_wf h).small
  have f1 := fits_poF (viewG g) hn
  have f2 := fits_rfF (viewG g) hn
  have f3 := fits_coF (viewG g) hn
  have f4 := fits_frF (viewG g) hn
  have o4 := or_yes (γ := γ) [((nG g : Int), poF (viewG g) (nG g)), ((nG g : Int), rfF (viewG g) (nG g)), ((nG g : Int), coF (viewG g) (nG g)), ((nG g : Int), frF (viewG g) (nG g))] (by simp) (alike4 _ _ _ _ _ f1 f2 f3 f4) (nG g) rfl
  unfold togF
  unfold aFg
  clear f1 f2 f3 f4
  generalize orM (nG g) [((nG g : Int), poF (viewG g) (nG g)), ((nG g : Int), rfF (viewG g) (nG g)), ((nG g : Int), coF (viewG g) (nG g)), ((nG g : Int), frF (viewG g) (nG g))] = rr at *
  generalize poF (viewG g) (nG g) = r1 at *
  generalize rfF (viewG g) (nG g) = r2 at *
  generalize coF (viewG g) (nG g) = r3 at *
  generalize frF (viewG g) (nG g) = r4 at *
  refine Pure.go (ty := ty) ty_eq mo Tryz.func16 rfl Tryz.ntmps16 Tryz.results16 Tryz.call16 (by simp) fun P C CQ D W F E hF => ?_
  cbv
  repeat' (first
    | (refine E.c (SCalls.of_bare (o4) rfl ?_ ?_); (· (cbv; simp [rls, ps, us, is, LV.of]; done)); cbv)
    | (refine E.c (SCalls.of_le (o4) ?_ ?_); (· (cbv; simp [rls, ps, us, is, LV.of]; done)); cbv)
    | (refine E.q (QCalls.of_le (o4) ?_ ?_); (· (cbv; simp [rls, ps, us, is, LV.of]; done)); cbv)
    | (refine ⟨fun _ h_s => ?_, fun _ h_s => ?_⟩ <;> (cbv; (try simp only [nc] at *); try simp (disch := (first | omega | (simp only [lnS, zA, zM, zG, zP]; omega))) only [nc, nct, w64_of, zT, zZ, zM, rdS, at_agg, bofZ, bof1, bof0, zC, zS, reduceCtorEq, Bool.not_true, Bool.not_false, zD, zE, zB, zF, zN, zO, ne_eq, zQ, zL, zR, beq_iff_eq] at h_s))
    | (refine hF ?_; intro _; clear hF)
    | (refine hF ?_; cbv; clear hF)
    | (refine ⟨fun _ => ?_, ?_⟩; (· ((try simp only [nc] at *); first | done | omega | exact ⟨by omega, rfl⟩ | (simp (disch := (first | omega | (simp only [lnS, zA, zM, zG, zP]; omega))) only [nc, nct, w64_of, zT, zZ, zM, rdS, at_agg, bofZ, bof1, bof0, zC, zS]; first | done | omega | rfl | exact ⟨by omega, rfl⟩ | (simp; done) | (simp; omega)) | (intros; trivial))); (try (simp only [nc] at *)); (try simp (disch := (first | omega | (simp only [lnS, zA, zM, zG, zP]; omega))) only [nc, nct, w64_of, zT, zZ, zM, rdS, at_agg, bofZ, bof1, bof0, zC, zS]); (try cbv))
    | fail
  )
theorem lensG (g : Gr) (h : GOk g) : (porfF (viewG g) (nG g)).length ≤ 64 ∧ (hbF (viewG g) (nG g)).length = nG g ∧ (ecoF (viewG g) (nG g)).length = nG g ∧ (plusM (nG g) (togF (viewG g) (nG g))).length ≤ 64 := by
  have hn := (viewG_wf h).small
  have f1 := fits_poF (viewG g) hn
  have f2 := fits_rfF (viewG g) hn
  have f6 := fits_swF (viewG g) hn
  have k1 : Fits (nG g) (porfF (viewG g) (nG g)) := fits_plus (fits_or2 f1 f2)
  have k2 : Fits (nG g) (hbF (viewG g) (nG g)) := fits_plus (fits_or2 f1 f6)
  have k3 : Fits (nG g) (ecoF (viewG g) (nG g)) := fits_plus (fits_orP (viewG g) hn)
  have k4 : Fits (nG g) (plusM (nG g) (togF (viewG g) (nG g))) := fits_plus (togF_fits (viewG g) hn)
  have e1 := k1.2.2.1
  have e2 := k2.2.2.1
  have e3 := k3.2.2.1
  have e4 := k4.2.2.1
  omega
theorem flt1_ok (g : Gr) : Pure Tryz.prog γ false 54 [aFg g] (aFt (fltM (viewG g) (nG g) 1)) := by
  rw [show fltM (viewG g) (nG g) 1 = ft0 from rfl]
  unfold aFg
  refine Pure.go (ty := ty) ty_eq mo Tryz.func54 rfl Tryz.ntmps54 Tryz.results54 Tryz.call54 (by simp) fun P C CQ D W F E hF => ?_
  cbv
  repeat' (first
    | (refine ⟨fun _ h_s => ?_, fun _ h_s => ?_⟩ <;> (cbv; (try simp only [nc] at *); try simp (disch := (first | omega | (simp only [lnS, zA, zM, zG, zP]; omega))) only [nc, nct, w64_of, zT, zZ, zM, rdS, at_agg, bofZ, bof1, bof0, zC, zS, reduceCtorEq, Bool.not_true, Bool.not_false, zD, zE, zB, zF, zN, zO, ne_eq, zQ, zL, zR, beq_iff_eq] at h_s))
    | (refine hF ?_; intro _; clear hF)
    | (refine hF ?_; cbv; clear hF)
    | (refine ⟨fun _ => ?_, ?_⟩; (· ((try simp only [nc] at *); first | done | omega | exact ⟨by omega, rfl⟩ | (simp (disch := (first | omega | (simp only [lnS, zA, zM, zG, zP]; omega))) only [nc, nct, w64_of, zT, zZ, zM, rdS, at_agg, bofZ, bof1, bof0, zC, zS]; first | done | omega | rfl | exact ⟨by omega, rfl⟩ | (simp; done) | (simp; omega)) | (intros; trivial))); (try (simp only [nc] at *)); (try simp (disch := (first | omega | (simp only [lnS, zA, zM, zG, zP]; omega))) only [nc, nct, w64_of, zT, zZ, zM, rdS, at_agg, bofZ, bof1, bof0, zC, zS]); (try cbv))
    | fail
  )
theorem flt2_ok (g : Gr) (hg : Rd g) (h : GOk g) : Pure Tryz.prog γ false 55 [aFg g] (aFt (fltM (viewG g) (nG g) 2)) := update_ok g hg h _ _ _ _ _ _ _ _ _ _
theorem flt3_ok (g : Gr) (h : GOk g) : Pure Tryz.prog γ false 56 [aFg g] (aFt (fltM (viewG g) (nG g) 3)) := by
  have kc := circle_ok (γ := γ) (nG g : Nat) (porfF (viewG g) (nG g)) (lensG g h).1
  rw [show fltM (viewG g) (nG g) 3 = circF (porfF (viewG g) (nG g)) from rfl]
  unfold aFg
  generalize circF (porfF (viewG g) (nG g)) = FT at *
  refine Pure.go (ty := ty) ty_eq mo Tryz.func56 rfl Tryz.ntmps56 Tryz.results56 Tryz.call56 (by simp) fun P C CQ D W F E hF => ?_
  cbv
  repeat' (first
    | (refine E.c (SCalls.of_le (kc) ?_ ?_); (· (cbv; (try simp only [nc] at *); first | done | (simp; done) | (simp (disch := (first | omega | (simp only [lnS, zA, zM, zG, zP]; omega))) only [nc, nct, w64_of, zT, zZ, zM, rdS, at_agg, bofZ, bof1, bof0, zC, zS, implies_true, and_true, true_and, forall_const]; first | done | omega | (refine ⟨?_, ?_⟩ <;> omega)) | (simp (disch := (first | omega | (simp only [lnS, zA, zM, zG, zP]; omega))) [nc, nct, w64_of, zT, zZ, zM, rdS, at_agg, bofZ, bof1, bof0, zC, zS]; done))); cbv)
    | (refine ⟨fun _ h_s => ?_, fun _ h_s => ?_⟩ <;> (cbv; (try simp only [nc] at *); try simp (disch := (first | omega | (simp only [lnS, zA, zM, zG, zP]; omega))) only [nc, nct, w64_of, zT, zZ, zM, rdS, at_agg, bofZ, bof1, bof0, zC, zS, reduceCtorEq, Bool.not_true, Bool.not_false, zD, zE, zB, zF, zN, zO, ne_eq, zQ, zL, zR, beq_iff_eq] at h_s))
    | (refine hF ?_; intro _; clear hF)
    | (refine hF ?_; cbv; clear hF)
    | (refine ⟨fun _ => ?_, ?_⟩; (· ((try simp only [nc] at *); first | done | omega | exact ⟨by omega, rfl⟩ | (simp (disch := (first | omega | (simp only [lnS, zA, zM, zG, zP]; omega))) only [nc, nct, w64_of, zT, zZ, zM, rdS, at_agg, bofZ, bof1, bof0, zC, zS]; first | done | omega | rfl | exact ⟨by omega, rfl⟩ | (simp; done) | (simp; omega)) | (intros; trivial))); (try (simp only [nc] at *)); (try simp (disch := (first | omega | (simp only [lnS, zA, zM, zG, zP]; omega))) only [nc, nct, w64_of, zT, zZ, zM, rdS, at_agg, bofZ, bof1, bof0, zC, zS]); (try cbv))
    | fail
  )
theorem flt4_ok (g : Gr) (h : GOk g) : Pure Tryz.prog γ false 58 [aFg g] (aFt (fltM (viewG g) (nG g) 4)) := by
  have kc := circle_ok (γ := γ) (nG g : Nat) (hbF (viewG g) (nG g)) (by have := (lensG g h).2.1; have := (viewG_wf h).small; omega)
  rw [show fltM (viewG g) (nG g) 4 = circF (hbF (viewG g) (nG g)) from rfl]
  unfold aFg
  generalize circF (hbF (viewG g) (nG g)) = FT at *
  refine Pure.go (ty := ty) ty_eq mo Tryz.func58 rfl Tryz.ntmps58 Tryz.results58 Tryz.call58 (by simp) fun P C CQ D W F E hF => ?_
  cbv
  repeat' (first
    | (refine E.c (SCalls.of_le (kc) ?_ ?_); (· (cbv; (try simp only [nc] at *); first | done | (simp; done) | (simp (disch := (first | omega | (simp only [lnS, zA, zM, zG, zP]; omega))) only [nc, nct, w64_of, zT, zZ, zM, rdS, at_agg, bofZ, bof1, bof0, zC, zS, implies_true, and_true, true_and, forall_const]; first | done | omega | (refine ⟨?_, ?_⟩ <;> omega)) | (simp (disch := (first | omega | (simp only [lnS, zA, zM, zG, zP]; omega))) [nc, nct, w64_of, zT, zZ, zM, rdS, at_agg, bofZ, bof1, bof0, zC, zS]; done))); cbv)
    | (refine ⟨fun _ h_s => ?_, fun _ h_s => ?_⟩ <;> (cbv; (try simp only [nc] at *); try simp (disch := (first | omega | (simp only [lnS, zA, zM, zG, zP]; omega))) only [nc, nct, w64_of, zT, zZ, zM, rdS, at_agg, bofZ, bof1, bof0, zC, zS, reduceCtorEq, Bool.not_true, Bool.not_false, zD, zE, zB, zF, zN, zO, ne_eq, zQ, zL, zR, beq_iff_eq] at h_s))
    | (refine hF ?_; intro _; clear hF)
    | (refine hF ?_; cbv; clear hF)
    | (refine ⟨fun _ => ?_, ?_⟩; (· ((try simp only [nc] at *); first | done | omega | exact ⟨by omega, rfl⟩ | (simp (disch := (first | omega | (simp only [lnS, zA, zM, zG, zP]; omega))) only [nc, nct, w64_of, zT, zZ, zM, rdS, at_agg, bofZ, bof1, bof0, zC, zS]; first | done | omega | rfl | exact ⟨by omega, rfl⟩ | (simp; done) | (simp; omega)) | (intros; trivial))); (try (simp only [nc] at *)); (try simp (disch := (first | omega | (simp only [lnS, zA, zM, zG, zP]; omega))) only [nc, nct, w64_of, zT, zZ, zM, rdS, at_agg, bofZ, bof1, bof0, zC, zS]); (try cbv))
    | fail
  )
theorem flt5_ok (g : Gr) (h : GOk g) : Pure Tryz.prog γ false 59 [aFg g] (aFt (fltM (viewG g) (nG g) 5)) := by
  have hn := (viewG_wf h).small
  have hl := lensG g h
  exact coherence_ok g _ _ _ _ _ _ _ _ _ _ (by omega) (by omega) (by omega)
theorem flt6_ok (g : Gr) (h : GOk g) : Pure Tryz.prog γ false 60 [aFg g] (aFt (fltM (viewG g) (nG g) 6)) := by
  have hn := (viewG_wf h).small
  have kc := circle_ok (γ := γ) (nG g : Nat) (plusM (nG g) (togF (viewG g) (nG g))) (lensG g h).2.2.2
  have kt := together_ok (γ := γ) g h
  have kp := plus_ok (γ := γ) (nG g) _ (togF_fits (viewG g) hn)
  rw [show fltM (viewG g) (nG g) 6 = circF (plusM (nG g) (togF (viewG g) (nG g))) from rfl]
  unfold aFg at *
  generalize circF (plusM (nG g) (togF (viewG g) (nG g))) = FT at *
  refine Pure.go (ty := ty) ty_eq mo Tryz.func60 rfl Tryz.ntmps60 Tryz.results60 Tryz.call60 (by simp) fun P C CQ D W F E hF => ?_
  cbv
  repeat' (first
    | (refine E.c (SCalls.of_le (kc) ?_ ?_); (· (cbv; (try simp only [nc] at *); first | done | (simp; done) | (simp (disch := (first | omega | (simp only [lnS, zA, zM, zG, zP]; omega))) only [nc, nct, w64_of, zT, zZ, zM, rdS, at_agg, bofZ, bof1, bof0, zC, zS, implies_true, and_true, true_and, forall_const]; first | done | omega | (refine ⟨?_, ?_⟩ <;> omega)) | (simp (disch := (first | omega | (simp only [lnS, zA, zM, zG, zP]; omega))) [nc, nct, w64_of, zT, zZ, zM, rdS, at_agg, bofZ, bof1, bof0, zC, zS]; done))); cbv)
    | (refine E.c (SCalls.of_le (kp) ?_ ?_); (· (cbv; (try simp only [nc] at *); first | done | (simp; done) | (simp (disch := (first | omega | (simp only [lnS, zA, zM, zG, zP]; omega))) only [nc, nct, w64_of, zT, zZ, zM, rdS, at_agg, bofZ, bof1, bof0, zC, zS, implies_true, and_true, true_and, forall_const]; first | done | omega | (refine ⟨?_, ?_⟩ <;> omega)) | (simp (disch := (first | omega | (simp only [lnS, zA, zM, zG, zP]; omega))) [nc, nct, w64_of, zT, zZ, zM, rdS, at_agg, bofZ, bof1, bof0, zC, zS]; done))); cbv)
    | (refine E.c (SCalls.of_le (kt) ?_ ?_); (· (cbv; (try simp only [nc] at *); first | done | (simp; done) | (simp (disch := (first | omega | (simp only [lnS, zA, zM, zG, zP]; omega))) only [nc, nct, w64_of, zT, zZ, zM, rdS, at_agg, bofZ, bof1, bof0, zC, zS, implies_true, and_true, true_and, forall_const]; first | done | omega | (refine ⟨?_, ?_⟩ <;> omega)) | (simp (disch := (first | omega | (simp only [lnS, zA, zM, zG, zP]; omega))) [nc, nct, w64_of, zT, zZ, zM, rdS, at_agg, bofZ, bof1, bof0, zC, zS]; done))); cbv)
    | (refine ⟨fun _ h_s => ?_, fun _ h_s => ?_⟩ <;> (cbv; (try simp only [nc] at *); try simp (disch := (first | omega | (simp only [lnS, zA, zM, zG, zP]; omega))) only [nc, nct, w64_of, zT, zZ, zM, rdS, at_agg, bofZ, bof1, bof0, zC, zS, reduceCtorEq, Bool.not_true, Bool.not_false, zD, zE, zB, zF, zN, zO, ne_eq, zQ, zL, zR, beq_iff_eq] at h_s))
    | (refine hF ?_; intro _; clear hF)
    | (refine hF ?_; cbv; clear hF)
    | (refine ⟨fun _ => ?_, ?_⟩; (· ((try simp only [nc] at *); first | done | omega | exact ⟨by omega, rfl⟩ | (simp (disch := (first | omega | (simp only [lnS, zA, zM, zG, zP]; omega))) only [nc, nct, w64_of, zT, zZ, zM, rdS, at_agg, bofZ, bof1, bof0, zC, zS]; first | done | omega | rfl | exact ⟨by omega, rfl⟩ | (simp; done) | (simp; omega)) | (intros; trivial))); (try (simp only [nc] at *)); (try simp (disch := (first | omega | (simp only [lnS, zA, zM, zG, zP]; omega))) only [nc, nct, w64_of, zT, zZ, zM, rdS, at_agg, bofZ, bof1, bof0, zC, zS]); (try cbv))
    | fail
  )
end Go.AL.Rl

namespace Go.AL.Rl
open Go Go.AL Go.Proofs
set_option maxRecDepth 100000
set_option maxHeartbeats 3200000
variable {γ : Nat → Option AV}

theorem learn_yes (g : Gr) (hg : Rd g) (h : GOk g) : Pure Tryz.prog γ false 14 [aGr g] (.tup [aFg g, .b fun _ => true]) := by
  have kd := dAll_yes (γ := γ) g hg h
  unfold aFg
  generalize poF (viewG g) (nG g) = q1 at *
  generalize rfF (viewG g) (nG g) = q2 at *
  generalize coF (viewG g) (nG g) = q3 at *
  generalize frF (viewG g) (nG g) = q4 at *
  generalize swF (viewG g) (nG g) = q5 at *
  generalize ecoF (viewG g) (nG g) = q6 at *
  generalize porfF (viewG g) (nG g) = q7 at *
  generalize hbF (viewG g) (nG g) = q8 at *
  generalize locF (viewG g) (nG g) = q9 at *
  generalize nG g = n at *
  refine Pure.go (ty := ty) ty_eq mo Tryz.func14 rfl Tryz.ntmps14 Tryz.results14 Tryz.call14 (by simp) fun P C CQ D W F E hF => ?_
  cbv
  repeat' (first
    | (refine E.c (SCalls.of_le (kd) ?_ ?_); (· (cbv; (try simp only [nc] at *); first | done | (simp; done) | (simp (disch := (first | omega | (simp only [lnS, zA, zM, zG, zP]; omega))) only [nc, nct, w64_of, zT, zZ, zM, rdS, at_agg, bofZ, bof1, bof0, zC, zS, implies_true, and_true, true_and, forall_const]; first | done | omega | (refine ⟨?_, ?_⟩ <;> omega)) | (simp (disch := (first | omega | (simp only [lnS, zA, zM, zG, zP]; omega))) [nc, nct, w64_of, zT, zZ, zM, rdS, at_agg, bofZ, bof1, bof0, zC, zS]; done))); cbv)
    | (refine ⟨fun _ h_s => ?_, fun _ h_s => ?_⟩ <;> (cbv; (try simp only [nc] at *); try simp (disch := (first | omega | (simp only [lnS, zA, zM, zG, zP]; omega))) only [nc, nct, w64_of, zT, zZ, zM, rdS, at_agg, bofZ, bof1, bof0, zC, zS, reduceCtorEq, Bool.not_true, Bool.not_false, zD, zE, zB, zF, zN, zO, ne_eq, zQ, zL, zR, beq_iff_eq] at h_s))
    | (refine hF ?_; intro _; clear hF)
    | (refine hF ?_; cbv; clear hF)
    | (refine ⟨fun _ => ?_, ?_⟩; (· ((try simp only [nc] at *); first | done | omega | exact ⟨by omega, rfl⟩ | (simp (disch := (first | omega | (simp only [lnS, zA, zM, zG, zP]; omega))) only [nc, nct, w64_of, zT, zZ, zM, rdS, at_agg, bofZ, bof1, bof0, zC, zS]; first | done | omega | rfl | exact ⟨by omega, rfl⟩ | (simp; done) | (simp; omega)) | (intros; trivial))); (try (simp only [nc] at *)); (try simp (disch := (first | omega | (simp only [lnS, zA, zM, zG, zP]; omega))) only [nc, nct, w64_of, zT, zZ, zM, rdS, at_agg, bofZ, bof1, bof0, zC, zS]); (try cbv))
    | fail
  )
  simp
theorem learn_no (g : Gr) (hg : Rd g) (h : ¬ GOk g) : Pure Tryz.prog γ false 14 [aGr g] (.tup [aFc g 0 [] [] [] [] [] [] [] [] [], .b fun _ => false]) := by
  have kd := dAll_no (γ := γ) g hg h
  refine Pure.go (ty := ty) ty_eq mo Tryz.func14 rfl Tryz.ntmps14 Tryz.results14 Tryz.call14 (by simp) fun P C CQ D W F E hF => ?_
  cbv
  repeat' (first
    | (refine E.c (SCalls.of_le (kd) ?_ ?_); (· (cbv; (try simp only [nc] at *); first | done | (simp; done) | (simp (disch := (first | omega | (simp only [lnS, zA, zM, zG, zP]; omega))) only [nc, nct, w64_of, zT, zZ, zM, rdS, at_agg, bofZ, bof1, bof0, zC, zS, implies_true, and_true, true_and, forall_const]; first | done | omega | (refine ⟨?_, ?_⟩ <;> omega)) | (simp (disch := (first | omega | (simp only [lnS, zA, zM, zG, zP]; omega))) [nc, nct, w64_of, zT, zZ, zM, rdS, at_agg, bofZ, bof1, bof0, zC, zS]; done))); cbv)
    | (refine ⟨fun _ h_s => ?_, fun _ h_s => ?_⟩ <;> (cbv; (try simp only [nc] at *); try simp (disch := (first | omega | (simp only [lnS, zA, zM, zG, zP]; omega))) only [nc, nct, w64_of, zT, zZ, zM, rdS, at_agg, bofZ, bof1, bof0, zC, zS, reduceCtorEq, Bool.not_true, Bool.not_false, zD, zE, zB, zF, zN, zO, ne_eq, zQ, zL, zR, beq_iff_eq] at h_s))
    | (refine hF ?_; intro _; clear hF)
    | (refine hF ?_; cbv; clear hF)
    | (refine ⟨fun _ => ?_, ?_⟩; (· ((try simp only [nc] at *); first | done | omega | exact ⟨by omega, rfl⟩ | (simp (disch := (first | omega | (simp only [lnS, zA, zM, zG, zP]; omega))) only [nc, nct, w64_of, zT, zZ, zM, rdS, at_agg, bofZ, bof1, bof0, zC, zS]; first | done | omega | rfl | exact ⟨by omega, rfl⟩ | (simp; done) | (simp; omega)) | (intros; trivial))); (try (simp only [nc] at *)); (try simp (disch := (first | omega | (simp only [lnS, zA, zM, zG, zP]; omega))) only [nc, nct, w64_of, zT, zZ, zM, rdS, at_agg, bofZ, bof1, bof0, zC, zS]); (try cbv))
    | fail
  )
  simp
theorem rulesF_ok : Pure Tryz.prog γ false 28 [] (.agg [.raw .nilFunc, .fn 54 [] [], .fn 55 [] [], .fn 56 [] [], .fn 58 [] [], .fn 59 [] [], .fn 60 [] []]) := by
  refine Pure.go (ty := ty) ty_eq mo Tryz.func28 rfl Tryz.ntmps28 Tryz.results28 Tryz.call28 (by simp) fun P C CQ D W F E hF => ?_
  cbv
  repeat' (first
    | (refine ⟨fun _ h_s => ?_, fun _ h_s => ?_⟩ <;> (cbv; (try simp only [nc] at *); try simp (disch := (first | omega | (simp only [lnS, zA, zM, zG, zP]; omega))) only [nc, nct, w64_of, zT, zZ, zM, rdS, at_agg, bofZ, bof1, bof0, zC, zS, reduceCtorEq, Bool.not_true, Bool.not_false, zD, zE, zB, zF, zN, zO, ne_eq, zQ, zL, zR, beq_iff_eq] at h_s))
    | (refine hF ?_; intro _; clear hF)
    | (refine hF ?_; cbv; clear hF)
    | (refine ⟨fun _ => ?_, ?_⟩; (· ((try simp only [nc] at *); first | done | omega | exact ⟨by omega, rfl⟩ | (simp (disch := (first | omega | (simp only [lnS, zA, zM, zG, zP]; omega))) only [nc, nct, w64_of, zT, zZ, zM, rdS, at_agg, bofZ, bof1, bof0, zC, zS]; first | done | omega | rfl | exact ⟨by omega, rfl⟩ | (simp; done) | (simp; omega)) | (intros; trivial))); (try (simp only [nc] at *)); (try simp (disch := (first | omega | (simp only [lnS, zA, zM, zG, zP]; omega))) only [nc, nct, w64_of, zT, zZ, zM, rdS, at_agg, bofZ, bof1, bof0, zC, zS]); (try cbv))
    | fail
  )
theorem find_at (p : Int → Bool) : ∀ (l : List Int) (a : Nat), a < l.length → p (l.getD a 0) = true → (∀ j < a, p (l.getD j 0) = false) → l.find? p = some (l.getD a 0)
  | [], a, h, _, _ => absurd h (Nat.not_lt_zero _)
  | x :: l, 0, _, h, _ => by simp at h; simp [h]
  | x :: l, a + 1, hl, h, hb => by
    have h0 := hb 0 (by omega)
    simp at h0
    rw [List.find?_cons_of_neg (by simp [h0])]
    have := find_at p l a (by simpa using hl) (by simpa using h) fun j hj => by simpa using hb (j + 1) (by omega)
    simpa using this
theorem find_no (p : Int → Bool) (l : List Int) (hb : ∀ j < l.length, p (l.getD j 0) = false) : l.find? p = none := by
  rw [List.find?_eq_none]
  intro x hx
  obtain ⟨i, hi, rfl⟩ := List.getElem_of_mem hx
  have := hb i hi
  simp [hi] at this
  simp [this]
abbrev aBk (b : Bk) : AV := .tup [.agg [.i fun _ => b.rule, .i fun _ => b.a, .i fun _ => b.b], .b fun _ => b.br]
theorem why_no (m : Int) (g : Gr) (hm : m = 1 ∨ m = 2) (hg : Rd g) (h : ¬ GOk g) : Pure Tryz.prog γ false 12 [.i fun _ => m, aGr g] (aBk ⟨1, -1, -1, true⟩) := by
  have kn := known_ok (γ := γ) m
  rw [decide_eq_true hm] at kn
  have kl := learn_no (γ := γ) g hg h
  refine Pure.go (ty := ty) ty_eq mo Tryz.func12 rfl Tryz.ntmps12 Tryz.results12 Tryz.call12 (by simp) fun P C CQ D W F E hF => ?_
  cbv
  repeat' (first
    | (refine E.c (SCalls.of_le (kl) ?_ ?_); (· (cbv; (try simp only [nc] at *); first | done | (simp; done) | (simp (disch := (first | omega | (simp only [lnS, zA, zM, zG, zP]; omega))) only [nc, nct, w64_of, zT, zZ, zM, rdS, at_agg, bofZ, bof1, bof0, zC, zS, implies_true, and_true, true_and, forall_const]; first | done | omega | (refine ⟨?_, ?_⟩ <;> omega)) | (simp (disch := (first | omega | (simp only [lnS, zA, zM, zG, zP]; omega))) [nc, nct, w64_of, zT, zZ, zM, rdS, at_agg, bofZ, bof1, bof0, zC, zS]; done))); cbv)
    | (refine E.c (SCalls.of_le (kn) ?_ ?_); (· (cbv; (try simp only [nc] at *); first | done | (simp; done) | (simp (disch := (first | omega | (simp only [lnS, zA, zM, zG, zP]; omega))) only [nc, nct, w64_of, zT, zZ, zM, rdS, at_agg, bofZ, bof1, bof0, zC, zS, implies_true, and_true, true_and, forall_const]; first | done | omega | (refine ⟨?_, ?_⟩ <;> omega)) | (simp (disch := (first | omega | (simp only [lnS, zA, zM, zG, zP]; omega))) [nc, nct, w64_of, zT, zZ, zM, rdS, at_agg, bofZ, bof1, bof0, zC, zS]; done))); cbv)
    | (refine ⟨fun _ h_s => ?_, fun _ h_s => ?_⟩ <;> (cbv; (try simp only [nc] at *); try simp (disch := (first | omega | (simp only [lnS, zA, zM, zG, zP]; omega))) only [nc, nct, w64_of, zT, zZ, zM, rdS, at_agg, bofZ, bof1, bof0, zC, zS, reduceCtorEq, Bool.not_true, Bool.not_false, zD, zE, zB, zF, zN, zO, ne_eq, zQ, zL, zR, beq_iff_eq] at h_s))
    | (refine hF ?_; intro _; clear hF)
    | (refine hF ?_; cbv; clear hF)
    | (refine ⟨fun _ => ?_, ?_⟩; (· ((try simp only [nc] at *); first | done | omega | exact ⟨by omega, rfl⟩ | (simp (disch := (first | omega | (simp only [lnS, zA, zM, zG, zP]; omega))) only [nc, nct, w64_of, zT, zZ, zM, rdS, at_agg, bofZ, bof1, bof0, zC, zS]; first | done | omega | rfl | exact ⟨by omega, rfl⟩ | (simp; done) | (simp; omega)) | (intros; trivial))); (try (simp only [nc] at *)); (try simp (disch := (first | omega | (simp only [lnS, zA, zM, zG, zP]; omega))) only [nc, nct, w64_of, zT, zZ, zM, rdS, at_agg, bofZ, bof1, bof0, zC, zS]); (try cbv))
    | fail
  )
  simp
theorem why_yes (m : Int) (l : List Int) (g : Gr) (hm : m = 1 ∨ m = 2) (hl : l.length ≤ 9) (hr : ∀ a < l.length, l.getD a 0 = 1 ∨ l.getD a 0 = 2 ∨ l.getD a 0 = 3 ∨ l.getD a 0 = 4 ∨ l.getD a 0 = 5 ∨ l.getD a 0 = 6)
    (kr : Pure Tryz.prog γ false 29 [.i fun _ => m] (.vs 1 fun _ => is l)) (hg : Rd g) (h : GOk g) :
    Pure Tryz.prog γ false 12 [.i fun _ => m, aGr g] (aBk (match l.find? fun k => (fltM (viewG g) (nG g) k).br with
      | some k => ⟨k, (fltM (viewG g) (nG g) k).a, (fltM (viewG g) (nG g) k).b, true⟩
      | none => ⟨0, 0, 0, false⟩)) := by
  have kn := known_ok (γ := γ) m
  rw [decide_eq_true hm] at kn
  have kl := learn_yes (γ := γ) g hg h
  have kf := rulesF_ok (γ := γ)
  have f1 := flt1_ok (γ := γ) g
  have f2 := flt2_ok (γ := γ) g hg h
  have f3 := flt3_ok (γ := γ) g h
  have f4 := flt4_ok (γ := γ) g h
  have f5 := flt5_ok (γ := γ) g h
  have f6 := flt6_ok (γ := γ) g h
  unfold aFg at *
  generalize poF (viewG g) (nG g) = q1 at *
  generalize rfF (viewG g) (nG g) = q2 at *
  generalize coF (viewG g) (nG g) = q3 at *
  generalize frF (viewG g) (nG g) = q4 at *
  generalize swF (viewG g) (nG g) = q5 at *
  generalize ecoF (viewG g) (nG g) = q6 at *
  generalize porfF (viewG g) (nG g) = q7 at *
  generalize hbF (viewG g) (nG g) = q8 at *
  generalize locF (viewG g) (nG g) = q9 at *
  generalize fltM (viewG g) (nG g) = fl at *
  generalize nG g = n at *
  obtain ⟨B, hB⟩ : ∃ B : Bk, B = (match l.find? fun k => (fl k).br with
      | some k => ⟨k, (fl k).a, (fl k).b, true⟩
      | none => ⟨0, 0, 0, false⟩) := ⟨_, rfl⟩
  rw [← hB]
  have hB1 : ∀ a < l.length, (fl (l.getD a 0)).br = true → (∀ j < a, (fl (l.getD j 0)).br = false) → B = ⟨l.getD a 0, (fl (l.getD a 0)).a, (fl (l.getD a 0)).b, true⟩ := fun a h1 h2 h3 => by
    rw [hB, find_at (fun k => (fl k).br) l a h1 h2 h3]
  have hB0 : (∀ j < l.length, (fl (l.getD j 0)).br = false) → B = ⟨0, 0, 0, false⟩ := fun h3 => by
    rw [hB, find_no (fun k => (fl k).br) l h3]
  clear hB
  refine Pure.go (ty := ty) ty_eq mo Tryz.func12 rfl Tryz.ntmps12 Tryz.results12 Tryz.call12 (by simp) fun P C CQ D W F E hF => ?_
  cbv
  repeat' (first
    | (refine E.c (SCalls.of_le (kr) ?_ ?_); (· (cbv; (try simp only [nc] at *); first | done | (simp; done) | (simp (disch := (first | omega | (simp only [lnS, zA, zM, zG, zP]; omega))) only [nc, nct, w64_of, zT, zZ, zM, rdS, at_agg, bofZ, bof1, bof0, zC, zS, implies_true, and_true, true_and, forall_const]; first | done | omega | (refine ⟨?_, ?_⟩ <;> omega)) | (simp (disch := (first | omega | (simp only [lnS, zA, zM, zG, zP]; omega))) [nc, nct, w64_of, zT, zZ, zM, rdS, at_agg, bofZ, bof1, bof0, zC, zS]; done))); cbv)
    | (refine E.c (SCalls.of_le (kf) ?_ ?_); (· (cbv; (try simp only [nc] at *); first | done | (simp; done) | (simp (disch := (first | omega | (simp only [lnS, zA, zM, zG, zP]; omega))) only [nc, nct, w64_of, zT, zZ, zM, rdS, at_agg, bofZ, bof1, bof0, zC, zS, implies_true, and_true, true_and, forall_const]; first | done | omega | (refine ⟨?_, ?_⟩ <;> omega)) | (simp (disch := (first | omega | (simp only [lnS, zA, zM, zG, zP]; omega))) [nc, nct, w64_of, zT, zZ, zM, rdS, at_agg, bofZ, bof1, bof0, zC, zS]; done))); cbv)
    | (refine E.c (SCalls.of_le (kl) ?_ ?_); (· (cbv; (try simp only [nc] at *); first | done | (simp; done) | (simp (disch := (first | omega | (simp only [lnS, zA, zM, zG, zP]; omega))) only [nc, nct, w64_of, zT, zZ, zM, rdS, at_agg, bofZ, bof1, bof0, zC, zS, implies_true, and_true, true_and, forall_const]; first | done | omega | (refine ⟨?_, ?_⟩ <;> omega)) | (simp (disch := (first | omega | (simp only [lnS, zA, zM, zG, zP]; omega))) [nc, nct, w64_of, zT, zZ, zM, rdS, at_agg, bofZ, bof1, bof0, zC, zS]; done))); cbv)
    | (refine E.c (SCalls.of_le (kn) ?_ ?_); (· (cbv; (try simp only [nc] at *); first | done | (simp; done) | (simp (disch := (first | omega | (simp only [lnS, zA, zM, zG, zP]; omega))) only [nc, nct, w64_of, zT, zZ, zM, rdS, at_agg, bofZ, bof1, bof0, zC, zS, implies_true, and_true, true_and, forall_const]; first | done | omega | (refine ⟨?_, ?_⟩ <;> omega)) | (simp (disch := (first | omega | (simp only [lnS, zA, zM, zG, zP]; omega))) [nc, nct, w64_of, zT, zZ, zM, rdS, at_agg, bofZ, bof1, bof0, zC, zS]; done))); cbv)
    | (refine ⟨fun _ h_s => ?_, fun _ h_s => ?_⟩ <;> (cbv; (try simp only [nc] at *); try simp (disch := (first | omega | (simp only [lnS, zA, zM, zG, zP]; omega))) only [nc, nct, w64_of, zT, zZ, zM, rdS, at_agg, bofZ, bof1, bof0, zC, zS, reduceCtorEq, Bool.not_true, Bool.not_false, zD, zE, zB, zF, zN, zO, ne_eq, zQ, zL, zR, beq_iff_eq] at h_s))
    | (refine hF ?_; intro _; clear hF)
    | (refine hF ?_; cbv; clear hF)
    | (refine ⟨fun _ => ?_, ?_⟩; (· ((try simp only [nc] at *); first | done | omega | exact ⟨by omega, rfl⟩ | (simp (disch := (first | omega | (simp only [lnS, zA, zM, zG, zP]; omega))) only [nc, nct, w64_of, zT, zZ, zM, rdS, at_agg, bofZ, bof1, bof0, zC, zS]; first | done | omega | rfl | exact ⟨by omega, rfl⟩ | (simp; done) | (simp; omega)) | (intros; trivial))); (try (simp only [nc] at *)); (try simp (disch := (first | omega | (simp only [lnS, zA, zM, zG, zP]; omega))) only [nc, nct, w64_of, zT, zZ, zM, rdS, at_agg, bofZ, bof1, bof0, zC, zS]); (try cbv))
    | fail
  )
  refine E.loopS (ι := Nat) (fun a => a ≤ l.length ∧ (∀ j < a, (fl (l.getD j 0)).br = false)) (fun a => l.length - a) (fun a => [(28, .i fun _ => ((a : Nat) : Int))]) (fun a h => h) 0 (fun _ => by first | rfl | simp) ⟨Nat.zero_le _, ?_⟩ ?_ fun a ha I hI => ?_
  · intro k hk; omega
  · cbv; simp
  cbv
  obtain ⟨ha, hp⟩ := ha
  have hra := hr a
  repeat' (first
    | (refine hI (a + 1) ?_ ?_ ?_; rotate_left 1; (· ((try simp only [nc] at *); omega)); (cbv; clear hI; (try clear hF); (try simp only [nc] at *); (try simp (disch := (first | omega | (simp only [lnS, zA, zM, zG, zP]; omega))) only [nc, nct, w64_of, zT, zZ, zM, rdS, at_agg, bofZ, bof1, bof0, zC, zS, implies_true, and_true, true_and, forall_const])); rotate_left 1; (try ((try simp only [nc] at *); omega)))
    | (refine E.de 6 [] [none] (by decide +kernel) ?_; cbv; (fail_if_success guard_target =~ False))
    | (refine ⟨fun _ h_s => ?_, fun _ h_s => ?_⟩ <;> (cbv; (try simp only [nc] at *); try simp (disch := (first | omega | (simp only [lnS, zA, zM, zG, zP]; omega))) only [nc, nct, w64_of, zT, zZ, zM, rdS, at_agg, bofZ, bof1, bof0, zC, zS, reduceCtorEq, Bool.not_true, Bool.not_false, zD, zE, zB, zF, zN, zO, ne_eq, zQ, zL, zR, beq_iff_eq] at h_s))
    | (refine hF ?_; intro _; clear hF)
    | (refine hF ?_; cbv; clear hF)
    | (refine ⟨fun _ => ?_, ?_⟩; (· ((try simp only [nc] at *); first | done | omega | exact ⟨by omega, rfl⟩ | (simp (disch := (first | omega | (simp only [lnS, zA, zM, zG, zP]; omega))) only [nc, nct, w64_of, zT, zZ, zM, rdS, at_agg, bofZ, bof1, bof0, zC, zS]; first | done | omega | rfl | exact ⟨by omega, rfl⟩ | (simp; done) | (simp; omega)) | (intros; trivial))); (try (simp only [nc] at *)); (try simp (disch := (first | omega | (simp only [lnS, zA, zM, zG, zP]; omega))) only [nc, nct, w64_of, zT, zZ, zM, rdS, at_agg, bofZ, bof1, bof0, zC, zS]); (try cbv))
    | fail
  )
  · have ha' : a < l.length := by ((try simp only [nc] at *); omega)
    have hB1a := hB1 a ha'
    clear hB1 hB0 hr kr kn kl kf
    rcases hra ha' with e | e | e | e | e | e
    · refine ⟨1, fun _ => e, by decide, ?_⟩
      cbv
      rw [e] at hB1a
      repeat' (first
        | (refine hI (a + 1) ?_ ?_ ?_; rotate_left 1; (· ((try simp only [nc] at *); omega)); (cbv; clear hI; (try clear hF); (try simp only [nc] at *); (try simp (disch := (first | omega | (simp only [lnS, zA, zM, zG, zP]; omega))) only [nc, nct, w64_of, zT, zZ, zM, rdS, at_agg, bofZ, bof1, bof0, zC, zS, implies_true, and_true, true_and, forall_const])); rotate_left 1; (try ((try simp only [nc] at *); omega)))
        | (refine E.c (SCalls.of_le (f1) ?_ ?_); (· (cbv; (try simp only [nc] at *); first | done | (simp; done) | (simp (disch := (first | omega | (simp only [lnS, zA, zM, zG, zP]; omega))) only [nc, nct, w64_of, zT, zZ, zM, rdS, at_agg, bofZ, bof1, bof0, zC, zS, implies_true, and_true, true_and, forall_const]; first | done | omega | (refine ⟨?_, ?_⟩ <;> omega)) | (simp (disch := (first | omega | (simp only [lnS, zA, zM, zG, zP]; omega))) [nc, nct, w64_of, zT, zZ, zM, rdS, at_agg, bofZ, bof1, bof0, zC, zS]; done))); cbv)
        | (refine E.q (QCalls.of_le (f1) ?_ ?_); (· (cbv; (try simp only [nc] at *); first | done | (simp; done) | (simp (disch := (first | omega | (simp only [lnS, zA, zM, zG, zP]; omega))) only [nc, nct, w64_of, zT, zZ, zM, rdS, at_agg, bofZ, bof1, bof0, zC, zS, implies_true, and_true, true_and, forall_const]; first | done | omega | (refine ⟨?_, ?_⟩ <;> omega)) | (simp (disch := (first | omega | (simp only [lnS, zA, zM, zG, zP]; omega))) [nc, nct, w64_of, zT, zZ, zM, rdS, at_agg, bofZ, bof1, bof0, zC, zS]; done))); cbv)
        | (refine ⟨fun _ h_s => ?_, fun _ h_s => ?_⟩ <;> (cbv; (try simp only [nc] at *); try simp (disch := (first | omega | (simp only [lnS, zA, zM, zG, zP]; omega))) only [nc, nct, w64_of, zT, zZ, zM, rdS, at_agg, bofZ, bof1, bof0, zC, zS, reduceCtorEq, Bool.not_true, Bool.not_false, zD, zE, zB, zF, zN, zO, ne_eq, zQ, zL, zR, beq_iff_eq] at h_s))
        | (refine hF ?_; intro _; clear hF)
        | (refine hF ?_; cbv; clear hF)
        | (refine ⟨fun _ => ?_, ?_⟩; (· ((try simp only [nc] at *); first | done | omega | exact ⟨by omega, rfl⟩ | (simp (disch := (first | omega | (simp only [lnS, zA, zM, zG, zP]; omega))) only [nc, nct, w64_of, zT, zZ, zM, rdS, at_agg, bofZ, bof1, bof0, zC, zS]; first | done | omega | rfl | exact ⟨by omega, rfl⟩ | (simp; done) | (simp; omega)) | (intros; trivial))); (try (simp only [nc] at *)); (try simp (disch := (first | omega | (simp only [lnS, zA, zM, zG, zP]; omega))) only [nc, nct, w64_of, zT, zZ, zM, rdS, at_agg, bofZ, bof1, bof0, zC, zS]); (try cbv))
        | fail
      )
      · rw [hB1a h_s hp]
        exact ⟨⟨fun _ => e, fun _ => rfl, fun _ => rfl, trivial⟩, fun _ => rfl, trivial⟩
      · refine ⟨by ((try simp only [nc] at *); omega), fun j hj => ?_⟩
        rcases Nat.lt_or_ge j a with h1 | h1
        · exact hp j h1
        · obtain rfl : j = a := by omega
          rw [e]; assumption
      · push_cast; rfl
    · refine ⟨2, fun _ => e, by decide, ?_⟩
      cbv
      rw [e] at hB1a
      repeat' (first
        | (refine hI (a + 1) ?_ ?_ ?_; rotate_left 1; (· ((try simp only [nc] at *); omega)); (cbv; clear hI; (try clear hF); (try simp only [nc] at *); (try simp (disch := (first | omega | (simp only [lnS, zA, zM, zG, zP]; omega))) only [nc, nct, w64_of, zT, zZ, zM, rdS, at_agg, bofZ, bof1, bof0, zC, zS, implies_true, and_true, true_and, forall_const])); rotate_left 1; (try ((try simp only [nc] at *); omega)))
        | (refine E.c (SCalls.of_le (f2) ?_ ?_); (· (cbv; (try simp only [nc] at *); first | done | (simp; done) | (simp (disch := (first | omega | (simp only [lnS, zA, zM, zG, zP]; omega))) only [nc, nct, w64_of, zT, zZ, zM, rdS, at_agg, bofZ, bof1, bof0, zC, zS, implies_true, and_true, true_and, forall_const]; first | done | omega | (refine ⟨?_, ?_⟩ <;> omega)) | (simp (disch := (first | omega | (simp only [lnS, zA, zM, zG, zP]; omega))) [nc, nct, w64_of, zT, zZ, zM, rdS, at_agg, bofZ, bof1, bof0, zC, zS]; done))); cbv)
        | (refine E.q (QCalls.of_le (f2) ?_ ?_); (· (cbv; (try simp only [nc] at *); first | done | (simp; done) | (simp (disch := (first | omega | (simp only [lnS, zA, zM, zG, zP]; omega))) only [nc, nct, w64_of, zT, zZ, zM, rdS, at_agg, bofZ, bof1, bof0, zC, zS, implies_true, and_true, true_and, forall_const]; first | done | omega | (refine ⟨?_, ?_⟩ <;> omega)) | (simp (disch := (first | omega | (simp only [lnS, zA, zM, zG, zP]; omega))) [nc, nct, w64_of, zT, zZ, zM, rdS, at_agg, bofZ, bof1, bof0, zC, zS]; done))); cbv)
        | (refine ⟨fun _ h_s => ?_, fun _ h_s => ?_⟩ <;> (cbv; (try simp only [nc] at *); try simp (disch := (first | omega | (simp only [lnS, zA, zM, zG, zP]; omega))) only [nc, nct, w64_of, zT, zZ, zM, rdS, at_agg, bofZ, bof1, bof0, zC, zS, reduceCtorEq, Bool.not_true, Bool.not_false, zD, zE, zB, zF, zN, zO, ne_eq, zQ, zL, zR, beq_iff_eq] at h_s))
        | (refine hF ?_; intro _; clear hF)
        | (refine hF ?_; cbv; clear hF)
        | (refine ⟨fun _ => ?_, ?_⟩; (· ((try simp only [nc] at *); first | done | omega | exact ⟨by omega, rfl⟩ | (simp (disch := (first | omega | (simp only [lnS, zA, zM, zG, zP]; omega))) only [nc, nct, w64_of, zT, zZ, zM, rdS, at_agg, bofZ, bof1, bof0, zC, zS]; first | done | omega | rfl | exact ⟨by omega, rfl⟩ | (simp; done) | (simp; omega)) | (intros; trivial))); (try (simp only [nc] at *)); (try simp (disch := (first | omega | (simp only [lnS, zA, zM, zG, zP]; omega))) only [nc, nct, w64_of, zT, zZ, zM, rdS, at_agg, bofZ, bof1, bof0, zC, zS]); (try cbv))
        | fail
      )
      · rw [hB1a h_s hp]
        exact ⟨⟨fun _ => e, fun _ => rfl, fun _ => rfl, trivial⟩, fun _ => rfl, trivial⟩
      · refine ⟨by ((try simp only [nc] at *); omega), fun j hj => ?_⟩
        rcases Nat.lt_or_ge j a with h1 | h1
        · exact hp j h1
        · obtain rfl : j = a := by omega
          rw [e]; assumption
      · push_cast; rfl
    · refine ⟨3, fun _ => e, by decide, ?_⟩
      cbv
      rw [e] at hB1a
      repeat' (first
        | (refine hI (a + 1) ?_ ?_ ?_; rotate_left 1; (· ((try simp only [nc] at *); omega)); (cbv; clear hI; (try clear hF); (try simp only [nc] at *); (try simp (disch := (first | omega | (simp only [lnS, zA, zM, zG, zP]; omega))) only [nc, nct, w64_of, zT, zZ, zM, rdS, at_agg, bofZ, bof1, bof0, zC, zS, implies_true, and_true, true_and, forall_const])); rotate_left 1; (try ((try simp only [nc] at *); omega)))
        | (refine E.c (SCalls.of_le (f3) ?_ ?_); (· (cbv; (try simp only [nc] at *); first | done | (simp; done) | (simp (disch := (first | omega | (simp only [lnS, zA, zM, zG, zP]; omega))) only [nc, nct, w64_of, zT, zZ, zM, rdS, at_agg, bofZ, bof1, bof0, zC, zS, implies_true, and_true, true_and, forall_const]; first | done | omega | (refine ⟨?_, ?_⟩ <;> omega)) | (simp (disch := (first | omega | (simp only [lnS, zA, zM, zG, zP]; omega))) [nc, nct, w64_of, zT, zZ, zM, rdS, at_agg, bofZ, bof1, bof0, zC, zS]; done))); cbv)
        | (refine E.q (QCalls.of_le (f3) ?_ ?_); (· (cbv; (try simp only [nc] at *); first | done | (simp; done) | (simp (disch := (first | omega | (simp only [lnS, zA, zM, zG, zP]; omega))) only [nc, nct, w64_of, zT, zZ, zM, rdS, at_agg, bofZ, bof1, bof0, zC, zS, implies_true, and_true, true_and, forall_const]; first | done | omega | (refine ⟨?_, ?_⟩ <;> omega)) | (simp (disch := (first | omega | (simp only [lnS, zA, zM, zG, zP]; omega))) [nc, nct, w64_of, zT, zZ, zM, rdS, at_agg, bofZ, bof1, bof0, zC, zS]; done))); cbv)
        | (refine ⟨fun _ h_s => ?_, fun _ h_s => ?_⟩ <;> (cbv; (try simp only [nc] at *); try simp (disch := (first | omega | (simp only [lnS, zA, zM, zG, zP]; omega))) only [nc, nct, w64_of, zT, zZ, zM, rdS, at_agg, bofZ, bof1, bof0, zC, zS, reduceCtorEq, Bool.not_true, Bool.not_false, zD, zE, zB, zF, zN, zO, ne_eq, zQ, zL, zR, beq_iff_eq] at h_s))
        | (refine hF ?_; intro _; clear hF)
        | (refine hF ?_; cbv; clear hF)
        | (refine ⟨fun _ => ?_, ?_⟩; (· ((try simp only [nc] at *); first | done | omega | exact ⟨by omega, rfl⟩ | (simp (disch := (first | omega | (simp only [lnS, zA, zM, zG, zP]; omega))) only [nc, nct, w64_of, zT, zZ, zM, rdS, at_agg, bofZ, bof1, bof0, zC, zS]; first | done | omega | rfl | exact ⟨by omega, rfl⟩ | (simp; done) | (simp; omega)) | (intros; trivial))); (try (simp only [nc] at *)); (try simp (disch := (first | omega | (simp only [lnS, zA, zM, zG, zP]; omega))) only [nc, nct, w64_of, zT, zZ, zM, rdS, at_agg, bofZ, bof1, bof0, zC, zS]); (try cbv))
        | fail
      )
      · rw [hB1a h_s hp]
        exact ⟨⟨fun _ => e, fun _ => rfl, fun _ => rfl, trivial⟩, fun _ => rfl, trivial⟩
      · refine ⟨by ((try simp only [nc] at *); omega), fun j hj => ?_⟩
        rcases Nat.lt_or_ge j a with h1 | h1
        · exact hp j h1
        · obtain rfl : j = a := by omega
          rw [e]; assumption
      · push_cast; rfl
    · refine ⟨4, fun _ => e, by decide, ?_⟩
      cbv
      rw [e] at hB1a
      repeat' (first
        | (refine hI (a + 1) ?_ ?_ ?_; rotate_left 1; (· ((try simp only [nc] at *); omega)); (cbv; clear hI; (try clear hF); (try simp only [nc] at *); (try simp (disch := (first | omega | (simp only [lnS, zA, zM, zG, zP]; omega))) only [nc, nct, w64_of, zT, zZ, zM, rdS, at_agg, bofZ, bof1, bof0, zC, zS, implies_true, and_true, true_and, forall_const])); rotate_left 1; (try ((try simp only [nc] at *); omega)))
        | (refine E.c (SCalls.of_le (f4) ?_ ?_); (· (cbv; (try simp only [nc] at *); first | done | (simp; done) | (simp (disch := (first | omega | (simp only [lnS, zA, zM, zG, zP]; omega))) only [nc, nct, w64_of, zT, zZ, zM, rdS, at_agg, bofZ, bof1, bof0, zC, zS, implies_true, and_true, true_and, forall_const]; first | done | omega | (refine ⟨?_, ?_⟩ <;> omega)) | (simp (disch := (first | omega | (simp only [lnS, zA, zM, zG, zP]; omega))) [nc, nct, w64_of, zT, zZ, zM, rdS, at_agg, bofZ, bof1, bof0, zC, zS]; done))); cbv)
        | (refine E.q (QCalls.of_le (f4) ?_ ?_); (· (cbv; (try simp only [nc] at *); first | done | (simp; done) | (simp (disch := (first | omega | (simp only [lnS, zA, zM, zG, zP]; omega))) only [nc, nct, w64_of, zT, zZ, zM, rdS, at_agg, bofZ, bof1, bof0, zC, zS, implies_true, and_true, true_and, forall_const]; first | done | omega | (refine ⟨?_, ?_⟩ <;> omega)) | (simp (disch := (first | omega | (simp only [lnS, zA, zM, zG, zP]; omega))) [nc, nct, w64_of, zT, zZ, zM, rdS, at_agg, bofZ, bof1, bof0, zC, zS]; done))); cbv)
        | (refine ⟨fun _ h_s => ?_, fun _ h_s => ?_⟩ <;> (cbv; (try simp only [nc] at *); try simp (disch := (first | omega | (simp only [lnS, zA, zM, zG, zP]; omega))) only [nc, nct, w64_of, zT, zZ, zM, rdS, at_agg, bofZ, bof1, bof0, zC, zS, reduceCtorEq, Bool.not_true, Bool.not_false, zD, zE, zB, zF, zN, zO, ne_eq, zQ, zL, zR, beq_iff_eq] at h_s))
        | (refine hF ?_; intro _; clear hF)
        | (refine hF ?_; cbv; clear hF)
        | (refine ⟨fun _ => ?_, ?_⟩; (· ((try simp only [nc] at *); first | done | omega | exact ⟨by omega, rfl⟩ | (simp (disch := (first | omega | (simp only [lnS, zA, zM, zG, zP]; omega))) only [nc, nct, w64_of, zT, zZ, zM, rdS, at_agg, bofZ, bof1, bof0, zC, zS]; first | done | omega | rfl | exact ⟨by omega, rfl⟩ | (simp; done) | (simp; omega)) | (intros; trivial))); (try (simp only [nc] at *)); (try simp (disch := (first | omega | (simp only [lnS, zA, zM, zG, zP]; omega))) only [nc, nct, w64_of, zT, zZ, zM, rdS, at_agg, bofZ, bof1, bof0, zC, zS]); (try cbv))
        | fail
      )
      · rw [hB1a h_s hp]
        exact ⟨⟨fun _ => e, fun _ => rfl, fun _ => rfl, trivial⟩, fun _ => rfl, trivial⟩
      · refine ⟨by ((try simp only [nc] at *); omega), fun j hj => ?_⟩
        rcases Nat.lt_or_ge j a with h1 | h1
        · exact hp j h1
        · obtain rfl : j = a := by omega
          rw [e]; assumption
      · push_cast; rfl
    · refine ⟨5, fun _ => e, by decide, ?_⟩
      cbv
      rw [e] at hB1a
      repeat' (first
        | (refine hI (a + 1) ?_ ?_ ?_; rotate_left 1; (· ((try simp only [nc] at *); omega)); (cbv; clear hI; (try clear hF); (try simp only [nc] at *); (try simp (disch := (first | omega | (simp only [lnS, zA, zM, zG, zP]; omega))) only [nc, nct, w64_of, zT, zZ, zM, rdS, at_agg, bofZ, bof1, bof0, zC, zS, implies_true, and_true, true_and, forall_const])); rotate_left 1; (try ((try simp only [nc] at *); omega)))
        | (refine E.c (SCalls.of_le (f5) ?_ ?_); (· (cbv; (try simp only [nc] at *); first | done | (simp; done) | (simp (disch := (first | omega | (simp only [lnS, zA, zM, zG, zP]; omega))) only [nc, nct, w64_of, zT, zZ, zM, rdS, at_agg, bofZ, bof1, bof0, zC, zS, implies_true, and_true, true_and, forall_const]; first | done | omega | (refine ⟨?_, ?_⟩ <;> omega)) | (simp (disch := (first | omega | (simp only [lnS, zA, zM, zG, zP]; omega))) [nc, nct, w64_of, zT, zZ, zM, rdS, at_agg, bofZ, bof1, bof0, zC, zS]; done))); cbv)
        | (refine E.q (QCalls.of_le (f5) ?_ ?_); (· (cbv; (try simp only [nc] at *); first | done | (simp; done) | (simp (disch := (first | omega | (simp only [lnS, zA, zM, zG, zP]; omega))) only [nc, nct, w64_of, zT, zZ, zM, rdS, at_agg, bofZ, bof1, bof0, zC, zS, implies_true, and_true, true_and, forall_const]; first | done | omega | (refine ⟨?_, ?_⟩ <;> omega)) | (simp (disch := (first | omega | (simp only [lnS, zA, zM, zG, zP]; omega))) [nc, nct, w64_of, zT, zZ, zM, rdS, at_agg, bofZ, bof1, bof0, zC, zS]; done))); cbv)
        | (refine ⟨fun _ h_s => ?_, fun _ h_s => ?_⟩ <;> (cbv; (try simp only [nc] at *); try simp (disch := (first | omega | (simp only [lnS, zA, zM, zG, zP]; omega))) only [nc, nct, w64_of, zT, zZ, zM, rdS, at_agg, bofZ, bof1, bof0, zC, zS, reduceCtorEq, Bool.not_true, Bool.not_false, zD, zE, zB, zF, zN, zO, ne_eq, zQ, zL, zR, beq_iff_eq] at h_s))
        | (refine hF ?_; intro _; clear hF)
        | (refine hF ?_; cbv; clear hF)
        | (refine ⟨fun _ => ?_, ?_⟩; (· ((try simp only [nc] at *); first | done | omega | exact ⟨by omega, rfl⟩ | (simp (disch := (first | omega | (simp only [lnS, zA, zM, zG, zP]; omega))) only [nc, nct, w64_of, zT, zZ, zM, rdS, at_agg, bofZ, bof1, bof0, zC, zS]; first | done | omega | rfl | exact ⟨by omega, rfl⟩ | (simp; done) | (simp; omega)) | (intros; trivial))); (try (simp only [nc] at *)); (try simp (disch := (first | omega | (simp only [lnS, zA, zM, zG, zP]; omega))) only [nc, nct, w64_of, zT, zZ, zM, rdS, at_agg, bofZ, bof1, bof0, zC, zS]); (try cbv))
        | fail
      )
      · rw [hB1a h_s hp]
        exact ⟨⟨fun _ => e, fun _ => rfl, fun _ => rfl, trivial⟩, fun _ => rfl, trivial⟩
      · refine ⟨by ((try simp only [nc] at *); omega), fun j hj => ?_⟩
        rcases Nat.lt_or_ge j a with h1 | h1
        · exact hp j h1
        · obtain rfl : j = a := by omega
          rw [e]; assumption
      · push_cast; rfl
    · refine ⟨6, fun _ => e, by decide, ?_⟩
      cbv
      rw [e] at hB1a
      repeat' (first
        | (refine hI (a + 1) ?_ ?_ ?_; rotate_left 1; (· ((try simp only [nc] at *); omega)); (cbv; clear hI; (try clear hF); (try simp only [nc] at *); (try simp (disch := (first | omega | (simp only [lnS, zA, zM, zG, zP]; omega))) only [nc, nct, w64_of, zT, zZ, zM, rdS, at_agg, bofZ, bof1, bof0, zC, zS, implies_true, and_true, true_and, forall_const])); rotate_left 1; (try ((try simp only [nc] at *); omega)))
        | (refine E.c (SCalls.of_le (f6) ?_ ?_); (· (cbv; (try simp only [nc] at *); first | done | (simp; done) | (simp (disch := (first | omega | (simp only [lnS, zA, zM, zG, zP]; omega))) only [nc, nct, w64_of, zT, zZ, zM, rdS, at_agg, bofZ, bof1, bof0, zC, zS, implies_true, and_true, true_and, forall_const]; first | done | omega | (refine ⟨?_, ?_⟩ <;> omega)) | (simp (disch := (first | omega | (simp only [lnS, zA, zM, zG, zP]; omega))) [nc, nct, w64_of, zT, zZ, zM, rdS, at_agg, bofZ, bof1, bof0, zC, zS]; done))); cbv)
        | (refine E.q (QCalls.of_le (f6) ?_ ?_); (· (cbv; (try simp only [nc] at *); first | done | (simp; done) | (simp (disch := (first | omega | (simp only [lnS, zA, zM, zG, zP]; omega))) only [nc, nct, w64_of, zT, zZ, zM, rdS, at_agg, bofZ, bof1, bof0, zC, zS, implies_true, and_true, true_and, forall_const]; first | done | omega | (refine ⟨?_, ?_⟩ <;> omega)) | (simp (disch := (first | omega | (simp only [lnS, zA, zM, zG, zP]; omega))) [nc, nct, w64_of, zT, zZ, zM, rdS, at_agg, bofZ, bof1, bof0, zC, zS]; done))); cbv)
        | (refine ⟨fun _ h_s => ?_, fun _ h_s => ?_⟩ <;> (cbv; (try simp only [nc] at *); try simp (disch := (first | omega | (simp only [lnS, zA, zM, zG, zP]; omega))) only [nc, nct, w64_of, zT, zZ, zM, rdS, at_agg, bofZ, bof1, bof0, zC, zS, reduceCtorEq, Bool.not_true, Bool.not_false, zD, zE, zB, zF, zN, zO, ne_eq, zQ, zL, zR, beq_iff_eq] at h_s))
        | (refine hF ?_; intro _; clear hF)
        | (refine hF ?_; cbv; clear hF)
        | (refine ⟨fun _ => ?_, ?_⟩; (· ((try simp only [nc] at *); first | done | omega | exact ⟨by omega, rfl⟩ | (simp (disch := (first | omega | (simp only [lnS, zA, zM, zG, zP]; omega))) only [nc, nct, w64_of, zT, zZ, zM, rdS, at_agg, bofZ, bof1, bof0, zC, zS]; first | done | omega | rfl | exact ⟨by omega, rfl⟩ | (simp; done) | (simp; omega)) | (intros; trivial))); (try (simp only [nc] at *)); (try simp (disch := (first | omega | (simp only [lnS, zA, zM, zG, zP]; omega))) only [nc, nct, w64_of, zT, zZ, zM, rdS, at_agg, bofZ, bof1, bof0, zC, zS]); (try cbv))
        | fail
      )
      · rw [hB1a h_s hp]
        exact ⟨⟨fun _ => e, fun _ => rfl, fun _ => rfl, trivial⟩, fun _ => rfl, trivial⟩
      · refine ⟨by ((try simp only [nc] at *); omega), fun j hj => ?_⟩
        rcases Nat.lt_or_ge j a with h1 | h1
        · exact hp j h1
        · obtain rfl : j = a := by omega
          rw [e]; assumption
      · push_cast; rfl
  · have e : a = l.length := by ((try simp only [nc] at *); omega)
    subst e
    rw [hB0 hp]
    simp
theorem mcheck_ok (m : Int) (g : Gr) (b : Bk) (kw : Pure Tryz.prog γ false 12 [.i fun _ => m, aGr g] (aBk b)) : Pure Tryz.prog γ false 6 [.i fun _ => m, aGr g] (.tup [.b fun _ => decide (m = 1 ∨ m = 2) && !b.br, .i fun _ => if m = 1 ∨ m = 2 then 0 else 2]) := by
  have kn := known_ok (γ := γ) m
  by_cases hm : m = 1 ∨ m = 2
  · rw [decide_eq_true hm] at kn ⊢
    rw [if_pos hm]
    refine Pure.go (ty := ty) ty_eq mo Tryz.func6 rfl Tryz.ntmps6 Tryz.results6 Tryz.call6 (by simp) fun P C CQ D W F E hF => ?_
    cbv
    repeat' (first
      | (refine E.c (SCalls.of_le (kw) ?_ ?_); (· (cbv; (try simp only [nc] at *); first | done | (simp; done) | (simp (disch := (first | omega | (simp only [lnS, zA, zM, zG, zP]; omega))) only [nc, nct, w64_of, zT, zZ, zM, rdS, at_agg, bofZ, bof1, bof0, zC, zS, implies_true, and_true, true_and, forall_const]; first | done | omega | (refine ⟨?_, ?_⟩ <;> omega)) | (simp (disch := (first | omega | (simp only [lnS, zA, zM, zG, zP]; omega))) [nc, nct, w64_of, zT, zZ, zM, rdS, at_agg, bofZ, bof1, bof0, zC, zS]; done))); cbv)
      | (refine E.c (SCalls.of_le (kn) ?_ ?_); (· (cbv; (try simp only [nc] at *); first | done | (simp; done) | (simp (disch := (first | omega | (simp only [lnS, zA, zM, zG, zP]; omega))) only [nc, nct, w64_of, zT, zZ, zM, rdS, at_agg, bofZ, bof1, bof0, zC, zS, implies_true, and_true, true_and, forall_const]; first | done | omega | (refine ⟨?_, ?_⟩ <;> omega)) | (simp (disch := (first | omega | (simp only [lnS, zA, zM, zG, zP]; omega))) [nc, nct, w64_of, zT, zZ, zM, rdS, at_agg, bofZ, bof1, bof0, zC, zS]; done))); cbv)
      | (refine ⟨fun _ h_s => ?_, fun _ h_s => ?_⟩ <;> (cbv; (try simp only [nc] at *); try simp (disch := (first | omega | (simp only [lnS, zA, zM, zG, zP]; omega))) only [nc, nct, w64_of, zT, zZ, zM, rdS, at_agg, bofZ, bof1, bof0, zC, zS, reduceCtorEq, Bool.not_true, Bool.not_false, zD, zE, zB, zF, zN, zO, ne_eq, zQ, zL, zR, beq_iff_eq] at h_s))
      | (refine hF ?_; intro _; clear hF)
      | (refine hF ?_; cbv; clear hF)
      | (refine ⟨fun _ => ?_, ?_⟩; (· ((try simp only [nc] at *); first | done | omega | exact ⟨by omega, rfl⟩ | (simp (disch := (first | omega | (simp only [lnS, zA, zM, zG, zP]; omega))) only [nc, nct, w64_of, zT, zZ, zM, rdS, at_agg, bofZ, bof1, bof0, zC, zS]; first | done | omega | rfl | exact ⟨by omega, rfl⟩ | (simp; done) | (simp; omega)) | (intros; trivial))); (try (simp only [nc] at *)); (try simp (disch := (first | omega | (simp only [lnS, zA, zM, zG, zP]; omega))) only [nc, nct, w64_of, zT, zZ, zM, rdS, at_agg, bofZ, bof1, bof0, zC, zS]); (try cbv))
      | fail
    )
  · rw [decide_eq_false hm] at kn ⊢
    rw [if_neg hm]
    refine Pure.go (ty := ty) ty_eq mo Tryz.func6 rfl Tryz.ntmps6 Tryz.results6 Tryz.call6 (by simp) fun P C CQ D W F E hF => ?_
    cbv
    repeat' (first
      | (refine E.c (SCalls.of_le (kn) ?_ ?_); (· (cbv; (try simp only [nc] at *); first | done | (simp; done) | (simp (disch := (first | omega | (simp only [lnS, zA, zM, zG, zP]; omega))) only [nc, nct, w64_of, zT, zZ, zM, rdS, at_agg, bofZ, bof1, bof0, zC, zS, implies_true, and_true, true_and, forall_const]; first | done | omega | (refine ⟨?_, ?_⟩ <;> omega)) | (simp (disch := (first | omega | (simp only [lnS, zA, zM, zG, zP]; omega))) [nc, nct, w64_of, zT, zZ, zM, rdS, at_agg, bofZ, bof1, bof0, zC, zS]; done))); cbv)
      | (refine ⟨fun _ h_s => ?_, fun _ h_s => ?_⟩ <;> (cbv; (try simp only [nc] at *); try simp (disch := (first | omega | (simp only [lnS, zA, zM, zG, zP]; omega))) only [nc, nct, w64_of, zT, zZ, zM, rdS, at_agg, bofZ, bof1, bof0, zC, zS, reduceCtorEq, Bool.not_true, Bool.not_false, zD, zE, zB, zF, zN, zO, ne_eq, zQ, zL, zR, beq_iff_eq] at h_s))
      | (refine hF ?_; intro _; clear hF)
      | (refine hF ?_; cbv; clear hF)
      | (refine ⟨fun _ => ?_, ?_⟩; (· ((try simp only [nc] at *); first | done | omega | exact ⟨by omega, rfl⟩ | (simp (disch := (first | omega | (simp only [lnS, zA, zM, zG, zP]; omega))) only [nc, nct, w64_of, zT, zZ, zM, rdS, at_agg, bofZ, bof1, bof0, zC, zS]; first | done | omega | rfl | exact ⟨by omega, rfl⟩ | (simp; done) | (simp; omega)) | (intros; trivial))); (try (simp only [nc] at *)); (try simp (disch := (first | omega | (simp only [lnS, zA, zM, zG, zP]; omega))) only [nc, nct, w64_of, zT, zZ, zM, rdS, at_agg, bofZ, bof1, bof0, zC, zS]); (try cbv))
      | fail
    )
end Go.AL.Rl

namespace Go.AL.Rl
open Go Go.AL Go.Proofs
set_option maxRecDepth 100000
set_option maxHeartbeats 1600000
variable {γ : Nat → Option AV}

end Go.AL.Rl

namespace Go.AL.Rl
open Go Go.AL Go.Proofs
set_option maxRecDepth 100000
set_option maxHeartbeats 1600000
variable {γ : Nat → Option AV}

end Go.AL.Rl

namespace Go.AL.Rl
open Go Go.AL Go.Proofs
set_option maxRecDepth 100000
set_option maxHeartbeats 1600000
variable {γ : Nat → Option AV}

theorem ids14_ok (g : Gr) (hs : Short g) : Pure Tryz.prog γ false 36 [aGr g] (.vs 2 fun _ => ids (idsG g)) := by
  have hin := hs.init
  have hth := hs.th
  have hg : ∀ t, (g.th.getD t []).length ≤ 14 := hs.at
  obtain ⟨L, hL⟩ : ∃ L : Nat → List EId, ∀ x, L x = idsI x := ⟨_, fun _ => rfl⟩
  obtain ⟨L2, hL2⟩ : ∃ L2 : Nat → Nat → List EId, ∀ t i, L2 t i = idsI g.init.length ++ idsT g t ++ idsE t i := ⟨_, fun _ _ => rfl⟩
  have l0 : L 0 = [] := by rw [hL]; rfl
  have lS : ∀ x, L (x + 1) = L x ++ [⟨0, x⟩] := fun x => by rw [hL, hL, idsI_succ]
  have lL : ∀ x, (L x).length = x := fun x => by rw [hL, idsI_len]
  have lE : L g.init.length = L2 0 0 := by rw [hL, hL2]; simp [idsT, idsE]
  have mS : ∀ t i, L2 t (i + 1) = L2 t i ++ [⟨t + 1, i⟩] := fun t i => by rw [hL2, hL2, idsE_succ]; simp only [List.append_assoc]
  have mE : ∀ t, L2 t (g.th.getD t []).length = L2 (t + 1) 0 := fun t => by rw [hL2, hL2, idsT_succ]; simp [idsE]
  have mF : L2 g.th.length 0 = idsG g := by rw [hL2]; simp [idsE, idsG]
  have mL : ∀ t i, (L2 t i).length ≤ 6 + 14 * t + i := fun t i => by
    have := evsT_len hs t
    rw [hL2]; simp only [List.length_append, idsI_len, idsE_len, idsT_len]; omega
  obtain ⟨G, hG⟩ : ∃ G : List EId → Nat, ∀ l, G l = l.length := ⟨_, fun _ => rfl⟩
  have hG0 : G [] = 0 := by rw [hG]; rfl
  refine Pure.go (ty := ty) ty_eq mo Tryz.func36 rfl Tryz.ntmps36 Tryz.results36 Tryz.call36 (by simp) fun P C CQ D W F E hF => ?_
  cbv
  repeat' (first
    | (refine ⟨fun _ h_s => ?_, fun _ h_s => ?_⟩ <;> (cbv; (try simp only [nc] at *); try simp (disch := (first | omega | (simp only [lnS, zA, zM, zG, zP]; omega))) only [nc, nct, w64_of, zT, zZ, zM, rdS, at_agg, bofZ, bof1, bof0, zC, zS, reduceCtorEq, Bool.not_true, Bool.not_false, zD, zE, zB, zF, zN, zO, ne_eq, zQ, zL, zR, beq_iff_eq] at h_s))
    | (refine hF ?_; intro _; clear hF)
    | (refine hF ?_; cbv; clear hF)
    | (refine ⟨fun _ => ?_, ?_⟩; (· ((try simp only [nc] at *); first | done | omega | exact ⟨by omega, rfl⟩ | (simp (disch := (first | omega | (simp only [lnS, zA, zM, zG, zP]; omega))) only [nc, nct, w64_of, zT, zZ, zM, rdS, at_agg, bofZ, bof1, bof0, zC, zS]; first | done | omega | rfl | exact ⟨by omega, rfl⟩ | (simp; done) | (simp; omega)) | (intros; trivial))); (try (simp only [nc] at *)); (try simp (disch := (first | omega | (simp only [lnS, zA, zM, zG, zP]; omega))) only [nc, nct, w64_of, zT, zZ, zM, rdS, at_agg, bofZ, bof1, bof0, zC, zS]); (try cbv))
    | fail
  )
  refine E.w (AWP.ghostSlot 3 2 rfl (by omega) (E.loopSA (ι := Nat) (fun x => x ≤ g.init.length) (fun x => g.init.length - x) (fun x => [(4, .i fun _ => ((x : Nat) : Int)), (3, .sl 1 (G (L x)) 2 (fun _ => 0) fun _ => (L x).length)]) (fun x h => h.set 1 (.run (G (L x)) 2 fun _ => ids (L x))) 0 (fun _ => by first | rfl | simp) (Nat.zero_le _) ?_ fun x hx I hI => ?_))
  · cbv; simp [l0, hG0, ids, LV.of]
  cbv
  have e1 := lS x
  have e2 := lL x
  skip
  repeat' (first
    | (refine hI (x + 1) ?_ ?_ ?_; rotate_left 1; (· ((try simp only [nc] at *); omega)); (cbv; clear hI; (try clear hF); (try simp only [nc] at *); (try simp (disch := (first | omega | (simp only [lnS, zA, zM, zG, zP]; omega))) only [nc, nct, w64_of, zT, zZ, zM, rdS, at_agg, bofZ, bof1, bof0, zC, zS, implies_true, and_true, true_and, forall_const])); rotate_left 1; (try ((try simp only [nc] at *); omega)))
    | (refine ⟨fun _ h_s => ?_, fun _ h_s => ?_⟩ <;> (cbv; (try simp only [nc] at *); try simp (disch := (first | omega | (simp only [lnS, zA, zM, zG, zP]; omega))) only [nc, nct, w64_of, zT, zZ, zM, rdS, at_agg, bofZ, bof1, bof0, zC, zS, reduceCtorEq, Bool.not_true, Bool.not_false, zD, zE, zB, zF, zN, zO, ne_eq, zQ, zL, zR, beq_iff_eq] at h_s))
    | (refine hF ?_; intro _; clear hF)
    | (refine hF ?_; cbv; clear hF)
    | (refine ⟨fun _ => ?_, ?_⟩; (· ((try simp only [nc] at *); first | done | omega | exact ⟨by omega, rfl⟩ | (simp (disch := (first | omega | (simp only [lnS, zA, zM, zG, zP]; omega))) only [nc, nct, w64_of, zT, zZ, zM, rdS, at_agg, bofZ, bof1, bof0, zC, zS]; first | done | omega | rfl | exact ⟨by omega, rfl⟩ | (simp; done) | (simp; omega)) | (intros; trivial) | exact ⟨by first | trivial | rfl, by first | trivial | rfl | simp, by first | trivial | simp, by simp; omega, by simp; omega, by simp [AV.flat, AV.cells, AV.one]⟩)); (try (simp only [nc] at *)); (try simp (disch := (first | omega | (simp only [lnS, zA, zM, zG, zP]; omega))) only [nc, nct, w64_of, zT, zZ, zM, rdS, at_agg, bofZ, bof1, bof0, zC, zS]); (try cbv))
    | fail
  )
  · refine ⟨⟨⟨by rw [hG, hG, e1]; simp, ?_⟩, by push_cast; rfl⟩, by rw [hG, hG, e1]; simp, ?_⟩
    · rw [e1]; simp [setAll]
    · show LV.of ((ids (L x)).l ++ (ids [⟨0, (x : Int)⟩]).l) = _
      rw [ids_app, ids_of, e1]
  clear hI
  have ex : x = g.init.length := by ((try simp only [nc] at *); omega)
  subst ex
  rw [lE]
  refine E.loopS (ι := Nat) (fun t => t ≤ g.th.length) (fun t => g.th.length - t) (fun t => [(5, .i fun _ => ((t : Nat) : Int)), (3, .sl 1 (G (L2 t 0)) 2 (fun _ => 0) fun _ => (L2 t 0).length)]) (fun t h => h.set 1 (.run (G (L2 t 0)) 2 fun _ => ids (L2 t 0))) 0 (fun _ => by first | rfl | simp) (Nat.zero_le _) ?_ fun t ht I1 hI1 => ?_
  · cbv; simp
  cbv
  have hgt := hg t
  repeat' (first
    | (refine ⟨fun _ h_s => ?_, fun _ h_s => ?_⟩ <;> (cbv; (try simp only [nc] at *); try simp (disch := (first | omega | (simp only [lnS, zA, zM, zG, zP]; omega))) only [nc, nct, w64_of, zT, zZ, zM, rdS, at_agg, bofZ, bof1, bof0, zC, zS, reduceCtorEq, Bool.not_true, Bool.not_false, zD, zE, zB, zF, zN, zO, ne_eq, zQ, zL, zR, beq_iff_eq] at h_s))
    | (refine hF ?_; intro _; clear hF)
    | (refine hF ?_; cbv; clear hF)
    | (refine ⟨fun _ => ?_, ?_⟩; (· ((try simp only [nc] at *); first | done | omega | exact ⟨by omega, rfl⟩ | (simp (disch := (first | omega | (simp only [lnS, zA, zM, zG, zP]; omega))) only [nc, nct, w64_of, zT, zZ, zM, rdS, at_agg, bofZ, bof1, bof0, zC, zS]; first | done | omega | rfl | exact ⟨by omega, rfl⟩ | (simp; done) | (simp; omega)) | (intros; trivial) | exact ⟨by first | trivial | rfl, by first | trivial | rfl | simp, by first | trivial | simp, by simp; omega, by simp; omega, by simp [AV.flat, AV.cells, AV.one]⟩)); (try (simp only [nc] at *)); (try simp (disch := (first | omega | (simp only [lnS, zA, zM, zG, zP]; omega))) only [nc, nct, w64_of, zT, zZ, zM, rdS, at_agg, bofZ, bof1, bof0, zC, zS]); (try cbv))
    | fail
  )
  · refine E.loopS (ι := Nat) (fun i => i ≤ (g.th.getD t []).length) (fun i => (g.th.getD t []).length - i) (fun i => [(6, .i fun _ => ((i : Nat) : Int)), (3, .sl 1 (G (L2 t i)) 2 (fun _ => 0) fun _ => (L2 t i).length)]) (fun i h => h.set 1 (.run (G (L2 t i)) 2 fun _ => ids (L2 t i))) 0 (fun _ => by first | rfl | simp) (Nat.zero_le _) ?_ fun i hi I2 hI2 => ?_
    · cbv; simp
    cbv
    have f1 := mS t i
    have f2 := mL t i
    have f3 := mE t
    repeat' (first
      | (refine hI2 (i + 1) ?_ ?_ ?_; rotate_left 1; (· ((try simp only [nc] at *); omega)); (cbv; clear hI2; (try clear hF); (try simp only [nc] at *); (try simp (disch := (first | omega | (simp only [lnS, zA, zM, zG, zP]; omega))) only [nc, nct, w64_of, zT, zZ, zM, rdS, at_agg, bofZ, bof1, bof0, zC, zS, implies_true, and_true, true_and, forall_const])); rotate_left 1; (try ((try simp only [nc] at *); omega)))
      | (refine ⟨fun _ h_s => ?_, fun _ h_s => ?_⟩ <;> (cbv; (try simp only [nc] at *); try simp (disch := (first | omega | (simp only [lnS, zA, zM, zG, zP]; omega))) only [nc, nct, w64_of, zT, zZ, zM, rdS, at_agg, bofZ, bof1, bof0, zC, zS, reduceCtorEq, Bool.not_true, Bool.not_false, zD, zE, zB, zF, zN, zO, ne_eq, zQ, zL, zR, beq_iff_eq] at h_s))
      | (refine hF ?_; intro _; clear hF)
      | (refine hF ?_; cbv; clear hF)
      | (refine ⟨fun _ => ?_, ?_⟩; (· ((try simp only [nc] at *); first | done | omega | exact ⟨by omega, rfl⟩ | (simp (disch := (first | omega | (simp only [lnS, zA, zM, zG, zP]; omega))) only [nc, nct, w64_of, zT, zZ, zM, rdS, at_agg, bofZ, bof1, bof0, zC, zS]; first | done | omega | rfl | exact ⟨by omega, rfl⟩ | (simp; done) | (simp; omega)) | (intros; trivial) | exact ⟨by first | trivial | rfl, by first | trivial | rfl | simp, by first | trivial | simp, by simp; omega, by simp; omega, by simp [AV.flat, AV.cells, AV.one]⟩)); (try (simp only [nc] at *)); (try simp (disch := (first | omega | (simp only [lnS, zA, zM, zG, zP]; omega))) only [nc, nct, w64_of, zT, zZ, zM, rdS, at_agg, bofZ, bof1, bof0, zC, zS]); (try cbv))
      | fail
    )
    · refine ⟨⟨⟨by rw [hG, hG, f1]; simp, ?_⟩, by push_cast; rfl⟩, by rw [hG, hG, f1]; simp, ?_⟩
      · rw [f1]; simp [setAll]
      · show LV.of ((ids (L2 t i)).l ++ (ids [⟨(t : Int) + 1, (i : Int)⟩]).l) = _
        rw [ids_app, ids_of, f1]
    · have ei : i = (g.th.getD t []).length := by ((try simp only [nc] at *); omega)
      subst ei
      rw [f3]
      repeat' (first
        | (refine hI1 (t + 1) ?_ ?_ ?_; rotate_left 1; (· ((try simp only [nc] at *); omega)); (cbv; clear hI1; (try clear hF); (try simp only [nc] at *); (try simp (disch := (first | omega | (simp only [lnS, zA, zM, zG, zP]; omega))) only [nc, nct, w64_of, zT, zZ, zM, rdS, at_agg, bofZ, bof1, bof0, zC, zS, implies_true, and_true, true_and, forall_const])); rotate_left 1; (try ((try simp only [nc] at *); omega)))
        | (refine ⟨fun _ h_s => ?_, fun _ h_s => ?_⟩ <;> (cbv; (try simp only [nc] at *); try simp (disch := (first | omega | (simp only [lnS, zA, zM, zG, zP]; omega))) only [nc, nct, w64_of, zT, zZ, zM, rdS, at_agg, bofZ, bof1, bof0, zC, zS, reduceCtorEq, Bool.not_true, Bool.not_false, zD, zE, zB, zF, zN, zO, ne_eq, zQ, zL, zR, beq_iff_eq] at h_s))
        | (refine hF ?_; intro _; clear hF)
        | (refine hF ?_; cbv; clear hF)
        | (refine ⟨fun _ => ?_, ?_⟩; (· ((try simp only [nc] at *); first | done | omega | exact ⟨by omega, rfl⟩ | (simp (disch := (first | omega | (simp only [lnS, zA, zM, zG, zP]; omega))) only [nc, nct, w64_of, zT, zZ, zM, rdS, at_agg, bofZ, bof1, bof0, zC, zS]; first | done | omega | rfl | exact ⟨by omega, rfl⟩ | (simp; done) | (simp; omega)) | (intros; trivial) | exact ⟨by first | trivial | rfl, by first | trivial | rfl | simp, by first | trivial | simp, by simp; omega, by simp; omega, by simp [AV.flat, AV.cells, AV.one]⟩)); try cbv)
        | fail
      )
      push_cast; rfl
  · have et : t = g.th.length := by ((try simp only [nc] at *); omega)
    subst et
    rw [mF]
    intro _
    refine ⟨rfl, by simp, ?_⟩
    rw [List.drop_zero, List.take_of_length_le (by simp)]
end Go.AL.Rl

namespace Go.AL.Rl
open Go Go.AL Go.Proofs
set_option maxRecDepth 100000
set_option maxHeartbeats 1600000
variable {γ : Nat → Option AV}

abbrev aV15 (g : Gr) (L : List EId) (E : List Ev) (n : Nat) : AV := .agg [.vs 1 fun _ => is g.init, .vs 1 fun _ => evss g.th, .vs 1 fun _ => idss g.fr, .vs 1 fun _ => idss g.ord, .vs 2 fun _ => ids L, .vs 5 fun _ => evs E, .i fun _ => (n : Int)]
theorem event_of {g : Gr} (hg : GOk g) (i : Nat) (hi : i < nG g) :
    (¬ 0 < ((idsG g).getD i id0).t ∧ 0 ≤ ((idsG g).getD i id0).i ∧ ((idsG g).getD i id0).i.toNat < g.init.length ∧ (evsG g).getD i ev0 = ⟨2, ((idsG g).getD i id0).i, 1, 0, g.init.getD ((idsG g).getD i id0).i.toNat 0⟩) ∨
    (0 < ((idsG g).getD i id0).t ∧ ((idsG g).getD i id0).t ≤ 4 ∧ 0 ≤ ((idsG g).getD i id0).t - 1 ∧ (((idsG g).getD i id0).t - 1).toNat < g.th.length ∧ 0 ≤ ((idsG g).getD i id0).i ∧ ((idsG g).getD i id0).i.toNat < (g.th.getD (((idsG g).getD i id0).t - 1).toNat []).length ∧
      (evsG g).getD i ev0 = (g.th.getD (((idsG g).getD i id0).t - 1).toNat []).getD ((idsG g).getD i id0).i.toNat ev0) := by
  have he := evsG_get g i hi
  have hth := hg.short.th
  unfold eventM at he
  split at he
  · rename_i h0
    split at he
    · rename_i hc
      exact .inl ⟨by omega, hc.1, by omega, (Option.some.inj he).symm⟩
    · cases he
  · rename_i h0
    split at he
    · rename_i hc
      exact .inr ⟨hc.1, by omega, by omega, by omega, hc.2.2.1, by omega, (Option.some.inj he).symm⟩
    · cases he
theorem look15_yes (g : Gr) (hg : Rd g) (h : GOk g) : Pure Tryz.prog γ false 18 [aGr g] (.tup [.vp (fun _ => aV15 g (idsG g) (evsG g) (nG g)) 0, .b fun _ => true]) := by
  have kc := check14_ok (γ := γ) g hg
  rw [gcheck0 h] at kc
  have ki := ids14_ok (γ := γ) g h.short
  have hev := event_of h
  have hn : nG g ≤ 62 := (viewG_wf h).small
  have hin := h.short.init
  obtain ⟨Lf, hLf⟩ : ∃ L, L = idsG g := ⟨_, rfl⟩
  obtain ⟨Mf, hMf⟩ : ∃ L, L = evsG g := ⟨_, rfl⟩
  obtain ⟨n, hnn⟩ : ∃ n, n = nG g := ⟨_, rfl⟩
  have hLn : Lf.length = n := by rw [hLf, hnn]; rfl
  have hMn : Mf.length = n := by rw [hMf, ← idsG_len, ← hLf, hLn]
  rw [← hLf, ← hMf, ← hnn] at hev ⊢
  rw [← hLf] at ki
  rw [← hnn] at hn
  obtain ⟨M, hM⟩ : ∃ M : Nat → List Ev, ∀ k, M k = Mf.take k := ⟨_, fun _ => rfl⟩
  have m0 : M 0 = [] := by rw [hM]; simp
  have mS : ∀ k, k < n → M (k + 1) = M k ++ [Mf.getD k ev0] := fun k hk => by rw [hM, hM, take_succ' _ _ ev0 (by omega)]
  have mL : ∀ k, k ≤ n → (M k).length = k := fun k hk => by rw [hM, List.length_take]; omega
  have mE : M n = Mf := by rw [hM, List.take_of_length_le (by omega)]
  obtain ⟨G, hG⟩ : ∃ G : Nat → Nat, ∀ k, G k = k := ⟨_, fun _ => rfl⟩
  have hG0 : G 0 = 0 := hG 0
  refine Pure.go (ty := ty) ty_eq mo Tryz.func18 rfl Tryz.ntmps18 Tryz.results18 Tryz.call18 (by simp) fun P C CQ D W F E hF => ?_
  cbv
  repeat' (first
    | (refine E.c (SCalls.of_le (ki) ?_ ?_); (· (cbv; (try simp only [nc] at *); first | done | (simp; done) | (simp (disch := (first | omega | (simp only [lnS, zA, zM, zG, zP]; omega))) only [nc, nct, w64_of, zT, zZ, zM, rdS, at_agg, bofZ, bof1, bof0, zC, zS, implies_true, and_true, true_and, forall_const]; first | done | omega | (refine ⟨?_, ?_⟩ <;> omega)) | (simp (disch := (first | omega | (simp only [lnS, zA, zM, zG, zP]; omega))) [nc, nct, w64_of, zT, zZ, zM, rdS, at_agg, bofZ, bof1, bof0, zC, zS]; done))); cbv)
    | (refine E.q (QCalls.of_le (ki) ?_ ?_); (· (cbv; (try simp only [nc] at *); first | done | (simp; done) | (simp (disch := (first | omega | (simp only [lnS, zA, zM, zG, zP]; omega))) only [nc, nct, w64_of, zT, zZ, zM, rdS, at_agg, bofZ, bof1, bof0, zC, zS, implies_true, and_true, true_and, forall_const]; first | done | omega | (refine ⟨?_, ?_⟩ <;> omega)) | (simp (disch := (first | omega | (simp only [lnS, zA, zM, zG, zP]; omega))) [nc, nct, w64_of, zT, zZ, zM, rdS, at_agg, bofZ, bof1, bof0, zC, zS]; done))); cbv)
    | (refine E.c (SCalls.of_le (ki) ?_ ?_); (· (cbv; (try simp only [nc] at *); first | done | (simp; done) | (simp (disch := (first | omega | (simp only [lnS, zA, zM, zG, zP]; omega))) only [nc, nct, w64_of, zT, zZ, zM, rdS, at_agg, bofZ, bof1, bof0, zC, zS, implies_true, and_true, true_and, forall_const]; first | done | omega | (refine ⟨?_, ?_⟩ <;> omega)) | (simp (disch := (first | omega | (simp only [lnS, zA, zM, zG, zP]; omega))) [nc, nct, w64_of, zT, zZ, zM, rdS, at_agg, bofZ, bof1, bof0, zC, zS]; done))); cbv)
    | (refine E.c (SCalls.of_le (kc) ?_ ?_); (· (cbv; (try simp only [nc] at *); first | done | (simp; done) | (simp (disch := (first | omega | (simp only [lnS, zA, zM, zG, zP]; omega))) only [nc, nct, w64_of, zT, zZ, zM, rdS, at_agg, bofZ, bof1, bof0, zC, zS, implies_true, and_true, true_and, forall_const]; first | done | omega | (refine ⟨?_, ?_⟩ <;> omega)) | (simp (disch := (first | omega | (simp only [lnS, zA, zM, zG, zP]; omega))) [nc, nct, w64_of, zT, zZ, zM, rdS, at_agg, bofZ, bof1, bof0, zC, zS]; done))); cbv)
    | (refine ⟨fun _ h_s => ?_, fun _ h_s => ?_⟩ <;> (cbv; (try simp only [nc] at *); try simp (disch := (first | omega | (simp only [lnS, zA, zM, zG, zP]; omega))) only [nc, nct, w64_of, zT, zZ, zM, rdS, at_agg, bofZ, bof1, bof0, zC, zS, reduceCtorEq, Bool.not_true, Bool.not_false, zD, zE, zB, zF, zN, zO, ne_eq, zQ, zL, zR, beq_iff_eq] at h_s))
    | (refine hF ?_; intro _; clear hF)
    | (refine hF ?_; cbv; clear hF)
    | (refine ⟨fun _ => ?_, ?_⟩; (· ((try simp only [nc] at *); first | done | omega | exact ⟨by omega, rfl⟩ | (simp (disch := (first | omega | (simp only [lnS, zA, zM, zG, zP]; omega))) only [nc, nct, w64_of, zT, zZ, zM, rdS, at_agg, bofZ, bof1, bof0, zC, zS]; first | done | omega | rfl | exact ⟨by omega, rfl⟩ | (simp; done) | (simp; omega)) | (intros; trivial))); (try (simp only [nc] at *)); (try simp (disch := (first | omega | (simp only [lnS, zA, zM, zG, zP]; omega))) only [nc, nct, w64_of, zT, zZ, zM, rdS, at_agg, bofZ, bof1, bof0, zC, zS]); (try cbv))
    | (refine E.d 3 (by decide +kernel) ?_; cbv; (fail_if_success guard_target =~ False))
    | (refine E.d 10 (by decide +kernel) ?_; cbv; (fail_if_success guard_target =~ False))
    | (refine E.d 21 (by decide +kernel) ?_; cbv; (fail_if_success guard_target =~ False))
    | fail
  )
  · revert h_s; simp
  refine E.w (AWP.ghostField 1 5 5 rfl rfl (E.loopSA (ι := Nat) (fun k => k ≤ n) (fun k => n - k) (fun k => [(5, .i fun _ => ((k : Nat) : Int))]) (fun k h => (h.set 1 (.box (.agg [.vs 1 fun _ => is g.init, .vs 1 fun _ => evss g.th, .vs 1 fun _ => idss g.fr, .vs 1 fun _ => idss g.ord, .vs 2 fun _ => ids Lf, .sl 2 (G k) 5 (fun _ => 0) fun _ => (M k).length, .i fun _ => (n : Int)]))).set 2 (.run (G k) 5 fun _ => evs (M k))) 0 (fun _ => by first | rfl | simp) (Nat.zero_le _) ?_ fun k hk I hI => ?_))
  · cbv; simp [m0, hG0, hLn, evs, LV.of]
  cbv
  have hv := hev k
  have ml := mL k hk
  skip
  repeat' (first
    | (refine hI (k + 1) ?_ ?_ ?_; rotate_left 1; (· ((try simp only [nc] at *); omega)); (cbv; clear hI; (try clear hF); (try simp only [nc] at *); (try simp (disch := (first | omega | (simp only [lnS, zA, zM, zG, zP]; omega))) only [nc, nct, w64_of, zT, zZ, zM, rdS, at_agg, bofZ, bof1, bof0, zC, zS, implies_true, and_true, true_and, forall_const])); rotate_left 1; (try ((try simp only [nc] at *); omega)))
    | (refine E.de 8 [2] [] (by decide +kernel) ?_; cbv; (fail_if_success guard_target =~ False))
    | (refine ⟨fun _ h_s => ?_, fun _ h_s => ?_⟩ <;> (cbv; (try simp only [nc] at *); try simp (disch := (first | omega | (simp only [lnS, zA, zM, zG, zP]; omega))) only [nc, nct, w64_of, zT, zZ, zM, rdS, at_agg, bofZ, bof1, bof0, zC, zS, reduceCtorEq, Bool.not_true, Bool.not_false, zD, zE, zB, zF, zN, zO, ne_eq, zQ, zL, zR, beq_iff_eq] at h_s))
    | (refine hF ?_; intro _; clear hF)
    | (refine hF ?_; cbv; clear hF)
    | (refine ⟨fun _ => ?_, ?_⟩; (· ((try simp only [nc] at *); first | done | omega | exact ⟨by omega, rfl⟩ | (simp (disch := (first | omega | (simp only [lnS, zA, zM, zG, zP]; omega))) only [nc, nct, w64_of, zT, zZ, zM, rdS, at_agg, bofZ, bof1, bof0, zC, zS]; first | done | omega | rfl | exact ⟨by omega, rfl⟩ | (simp; done) | (simp; omega)) | (intros; trivial) | exact ⟨by first | trivial | rfl, by first | trivial | rfl | simp, by first | trivial | simp, by simp; omega, by simp; omega, by simp [AV.flat, AV.cells, AV.one]⟩)); (try (simp only [nc] at *)); (try simp (disch := (first | omega | (simp only [lnS, zA, zM, zG, zP]; omega))) only [nc, nct, w64_of, zT, zZ, zM, rdS, at_agg, bofZ, bof1, bof0, zC, zS]); (try cbv))
    | (refine E.d 3 (by decide +kernel) ?_; cbv; (fail_if_success guard_target =~ False))
    | (refine E.d 10 (by decide +kernel) ?_; cbv; (fail_if_success guard_target =~ False))
    | (refine E.d 21 (by decide +kernel) ?_; cbv; (fail_if_success guard_target =~ False))
    | fail
  )
  · obtain ⟨c1, c2, c3, c4, c5, c6, c7⟩ := (hv (by ((try simp only [nc] at *); omega))).resolve_left fun h => h.1 h_s
    have hs := mS k (by ((try simp only [nc] at *); omega))
    (try simp only [id0, ev0] at c1 c2 c3 c4 c5 c6 c7 hs)
    (try simp only [nc] at *)
    refine ⟨by push_cast; rfl, ⟨by rw [hG, hG], by rw [hs]; simp [setAll]⟩, by rw [hG, hG], ?_⟩
    rw [hs, c7]
    generalize (g.th.getD ((Lf.getD k ⟨0, 0⟩).t - 1).toNat []).getD (Lf.getD k ⟨0, 0⟩).i.toNat ⟨0, 0, 0, 0, 0⟩ = e
    show LV.of ((evs (M k)).l ++ (evs [e]).l) = _
    rw [evs_app, evs_of]
  · obtain ⟨c1, c2, c3, c4⟩ := (hv (by ((try simp only [nc] at *); omega))).resolve_right fun h => by ((try simp only [nc] at *); omega)
    have hs := mS k (by ((try simp only [nc] at *); omega))
    (try simp only [id0, ev0] at c1 c2 c3 c4 hs)
    (try simp only [nc] at *)
    refine ⟨by push_cast; rfl, ⟨by rw [hG, hG], by rw [hs]; simp [setAll]⟩, by rw [hG, hG], ?_⟩
    rw [hs, c4]
    show LV.of ((evs (M k)).l ++ (evs [⟨2, (Lf.getD k ⟨0, 0⟩).i, 1, 0, g.init.getD (Lf.getD k ⟨0, 0⟩).i.toNat 0⟩]).l) = _
    rw [evs_app, evs_of]
  · have e : k = n := by ((try simp only [nc] at *); omega)
    subst e
    rw [mE]
    refine ⟨⟨fun _ => rfl, fun _ => rfl, fun _ => rfl, fun _ => rfl, fun _ => rfl, fun _ => ⟨rfl, by simp, by rw [List.drop_zero, List.take_of_length_le (by simp)]⟩, fun _ => rfl, trivial⟩, fun _ => rfl, trivial⟩
end Go.AL.Rl

namespace Go.AL.Rl
open Go Go.AL Go.Proofs
set_option maxRecDepth 100000
set_option maxHeartbeats 1600000
variable {γ : Nat → Option AV}

abbrev pW (g : Gr) : AV := .vp (fun _ => aV15 g (idsG g) (evsG g) (nG g)) 0
theorem ids_pos {g : Gr} {i : Nat} (hi : i < nG g) : 0 ≤ ((idsG g).getD i id0).t := by
  have hm : (idsG g).getD i id0 ∈ idsG g := getD_mem hi
  rw [idsG, List.mem_append, idsI_mem, idsT_mem, ← idsG] at hm
  omega
theorem evsG_l (g : Gr) : (evsG g).length = nG g := (idsG_len g).symm
theorem idsG_l (g : Gr) : (idsG g).length = nG g := rfl
theorem xreads_ok (g : Gr) (L : List EId) (Es : List Ev) (n a : Nat) (h1 : Es.length = n) (ha : a < n) : Pure Tryz.prog γ false 47 [.vp (fun _ => aV15 g L Es n) 0, .i fun _ => (a : Int)] (.b fun _ => readsM (Es.getD a ev0)) := by
  refine Pure.go (ty := ty) ty_eq mo Tryz.func47 rfl Tryz.ntmps47 Tryz.results47 Tryz.call47 (by simp) fun P C CQ D W F E hF => ?_
  cbv
  repeat' (first
    | (refine ⟨fun _ h_s => ?_, fun _ h_s => ?_⟩ <;> (cbv; (try simp only [nc] at *); try simp (disch := (first | omega | (simp only [lnS, zA, zM, zG, zP]; omega))) only [nc, nct, w64_of, zT, zZ, zM, rdS, at_agg, bofZ, bof1, bof0, zC, zS, reduceCtorEq, Bool.not_true, Bool.not_false, zD, zE, zB, zF, zN, zO, ne_eq, zQ, zL, zR, beq_iff_eq] at h_s))
    | (refine hF ?_; intro _; clear hF)
    | (refine hF ?_; cbv; clear hF)
    | (refine ⟨fun _ => ?_, ?_⟩; (· ((try simp only [nc] at *); first | done | omega | exact ⟨by omega, rfl⟩ | (simp (disch := (first | omega | (simp only [lnS, zA, zM, zG, zP]; omega))) only [nc, nct, w64_of, zT, zZ, zM, rdS, at_agg, bofZ, bof1, bof0, zC, zS]; first | done | omega | rfl | exact ⟨by omega, rfl⟩ | (simp; done) | (simp; omega)) | (intros; trivial))); (try (simp only [nc] at *)); (try simp (disch := (first | omega | (simp only [lnS, zA, zM, zG, zP]; omega))) only [nc, nct, w64_of, zT, zZ, zM, rdS, at_agg, bofZ, bof1, bof0, zC, zS]); (try cbv))
    | fail
  )
  all_goals (try simp only [nc] at *)
  all_goals (try simp (disch := (first | omega | (simp only [lnS, zA, zM, zG, zP]; omega))) only [nc, nct, w64_of, zT, zZ, zM, rdS, at_agg, bofZ, bof1, bof0, zC, zS])
  all_goals simp_all [readsM]
theorem wreads_ok (g : Gr) (a : Nat) (ha : a < nG g) : Pure Tryz.prog γ false 47 [pW g, .i fun _ => (a : Int)] (.b fun _ => readsM ((viewG g).ev.getD a ev0)) := xreads_ok g _ _ _ a (evsG_l g) ha
theorem xwrites_ok (g : Gr) (L : List EId) (Es : List Ev) (n a : Nat) (h1 : Es.length = n) (ha : a < n) : Pure Tryz.prog γ false 45 [.vp (fun _ => aV15 g L Es n) 0, .i fun _ => (a : Int)] (.b fun _ => writesM (Es.getD a ev0)) := by
  refine Pure.go (ty := ty) ty_eq mo Tryz.func45 rfl Tryz.ntmps45 Tryz.results45 Tryz.call45 (by simp) fun P C CQ D W F E hF => ?_
  cbv
  repeat' (first
    | (refine ⟨fun _ h_s => ?_, fun _ h_s => ?_⟩ <;> (cbv; (try simp only [nc] at *); try simp (disch := (first | omega | (simp only [lnS, zA, zM, zG, zP]; omega))) only [nc, nct, w64_of, zT, zZ, zM, rdS, at_agg, bofZ, bof1, bof0, zC, zS, reduceCtorEq, Bool.not_true, Bool.not_false, zD, zE, zB, zF, zN, zO, ne_eq, zQ, zL, zR, beq_iff_eq] at h_s))
    | (refine hF ?_; intro _; clear hF)
    | (refine hF ?_; cbv; clear hF)
    | (refine ⟨fun _ => ?_, ?_⟩; (· ((try simp only [nc] at *); first | done | omega | exact ⟨by omega, rfl⟩ | (simp (disch := (first | omega | (simp only [lnS, zA, zM, zG, zP]; omega))) only [nc, nct, w64_of, zT, zZ, zM, rdS, at_agg, bofZ, bof1, bof0, zC, zS]; first | done | omega | rfl | exact ⟨by omega, rfl⟩ | (simp; done) | (simp; omega)) | (intros; trivial))); (try (simp only [nc] at *)); (try simp (disch := (first | omega | (simp only [lnS, zA, zM, zG, zP]; omega))) only [nc, nct, w64_of, zT, zZ, zM, rdS, at_agg, bofZ, bof1, bof0, zC, zS]); (try cbv))
    | fail
  )
  all_goals (try simp only [nc] at *)
  all_goals (try simp (disch := (first | omega | (simp only [lnS, zA, zM, zG, zP]; omega))) only [nc, nct, w64_of, zT, zZ, zM, rdS, at_agg, bofZ, bof1, bof0, zC, zS])
  all_goals simp_all [writesM]
theorem wwrites_ok (g : Gr) (a : Nat) (ha : a < nG g) : Pure Tryz.prog γ false 45 [pW g, .i fun _ => (a : Int)] (.b fun _ => writesM ((viewG g).ev.getD a ev0)) := xwrites_ok g _ _ _ a (evsG_l g) ha
theorem xacq_ok (g : Gr) (L : List EId) (Es : List Ev) (n a : Nat) (h1 : Es.length = n) (ha : a < n) : Pure Tryz.prog γ false 50 [.vp (fun _ => aV15 g L Es n) 0, .i fun _ => (a : Int)] (.b fun _ => acqM (Es.getD a ev0)) := by
  refine Pure.go (ty := ty) ty_eq mo Tryz.func50 rfl Tryz.ntmps50 Tryz.results50 Tryz.call50 (by simp) fun P C CQ D W F E hF => ?_
  cbv
  repeat' (first
    | (refine ⟨fun _ h_s => ?_, fun _ h_s => ?_⟩ <;> (cbv; (try simp only [nc] at *); try simp (disch := (first | omega | (simp only [lnS, zA, zM, zG, zP]; omega))) only [nc, nct, w64_of, zT, zZ, zM, rdS, at_agg, bofZ, bof1, bof0, zC, zS, reduceCtorEq, Bool.not_true, Bool.not_false, zD, zE, zB, zF, zN, zO, ne_eq, zQ, zL, zR, beq_iff_eq] at h_s))
    | (refine hF ?_; intro _; clear hF)
    | (refine hF ?_; cbv; clear hF)
    | (refine ⟨fun _ => ?_, ?_⟩; (· ((try simp only [nc] at *); first | done | omega | exact ⟨by omega, rfl⟩ | (simp (disch := (first | omega | (simp only [lnS, zA, zM, zG, zP]; omega))) only [nc, nct, w64_of, zT, zZ, zM, rdS, at_agg, bofZ, bof1, bof0, zC, zS]; first | done | omega | rfl | exact ⟨by omega, rfl⟩ | (simp; done) | (simp; omega)) | (intros; trivial))); (try (simp only [nc] at *)); (try simp (disch := (first | omega | (simp only [lnS, zA, zM, zG, zP]; omega))) only [nc, nct, w64_of, zT, zZ, zM, rdS, at_agg, bofZ, bof1, bof0, zC, zS]); (try cbv))
    | fail
  )
  all_goals (try simp only [nc] at *)
  all_goals (try simp (disch := (first | omega | (simp only [lnS, zA, zM, zG, zP]; omega))) only [nc, nct, w64_of, zT, zZ, zM, rdS, at_agg, bofZ, bof1, bof0, zC, zS])
  all_goals simp_all [acqM]
theorem wacq_ok (g : Gr) (a : Nat) (ha : a < nG g) : Pure Tryz.prog γ false 50 [pW g, .i fun _ => (a : Int)] (.b fun _ => acqM ((viewG g).ev.getD a ev0)) := xacq_ok g _ _ _ a (evsG_l g) ha
theorem xrel_ok (g : Gr) (L : List EId) (Es : List Ev) (n a : Nat) (h1 : Es.length = n) (ha : a < n) : Pure Tryz.prog γ false 49 [.vp (fun _ => aV15 g L Es n) 0, .i fun _ => (a : Int)] (.b fun _ => relM (Es.getD a ev0)) := by
  refine Pure.go (ty := ty) ty_eq mo Tryz.func49 rfl Tryz.ntmps49 Tryz.results49 Tryz.call49 (by simp) fun P C CQ D W F E hF => ?_
  cbv
  repeat' (first
    | (refine ⟨fun _ h_s => ?_, fun _ h_s => ?_⟩ <;> (cbv; (try simp only [nc] at *); try simp (disch := (first | omega | (simp only [lnS, zA, zM, zG, zP]; omega))) only [nc, nct, w64_of, zT, zZ, zM, rdS, at_agg, bofZ, bof1, bof0, zC, zS, reduceCtorEq, Bool.not_true, Bool.not_false, zD, zE, zB, zF, zN, zO, ne_eq, zQ, zL, zR, beq_iff_eq] at h_s))
    | (refine hF ?_; intro _; clear hF)
    | (refine hF ?_; cbv; clear hF)
    | (refine ⟨fun _ => ?_, ?_⟩; (· ((try simp only [nc] at *); first | done | omega | exact ⟨by omega, rfl⟩ | (simp (disch := (first | omega | (simp only [lnS, zA, zM, zG, zP]; omega))) only [nc, nct, w64_of, zT, zZ, zM, rdS, at_agg, bofZ, bof1, bof0, zC, zS]; first | done | omega | rfl | exact ⟨by omega, rfl⟩ | (simp; done) | (simp; omega)) | (intros; trivial))); (try (simp only [nc] at *)); (try simp (disch := (first | omega | (simp only [lnS, zA, zM, zG, zP]; omega))) only [nc, nct, w64_of, zT, zZ, zM, rdS, at_agg, bofZ, bof1, bof0, zC, zS]); (try cbv))
    | fail
  )
  all_goals (try simp only [nc] at *)
  all_goals (try simp (disch := (first | omega | (simp only [lnS, zA, zM, zG, zP]; omega))) only [nc, nct, w64_of, zT, zZ, zM, rdS, at_agg, bofZ, bof1, bof0, zC, zS])
  all_goals simp_all [relM]
theorem wrel_ok (g : Gr) (a : Nat) (ha : a < nG g) : Pure Tryz.prog γ false 49 [pW g, .i fun _ => (a : Int)] (.b fun _ => relM ((viewG g).ev.getD a ev0)) := xrel_ok g _ _ _ a (evsG_l g) ha
theorem xloc_ok (g : Gr) (L : List EId) (Es : List Ev) (fr pl : List Int) (n a b : Nat) (h1 : Es.length = n) (ha : a < n) (hb : b < n) : Pure Tryz.prog γ false 19 [.vp (fun _ => aV15 g L Es n) 0, .i fun _ => (a : Int), .i fun _ => (b : Int)] (.b fun _ => locM ⟨L, Es, fr, pl⟩ a b) := by
  refine Pure.go (ty := ty) ty_eq mo Tryz.func19 rfl Tryz.ntmps19 Tryz.results19 Tryz.call19 (by simp) fun P C CQ D W F E hF => ?_
  cbv
  repeat' (first
    | (refine ⟨fun _ h_s => ?_, fun _ h_s => ?_⟩ <;> (cbv; (try simp only [nc] at *); try simp (disch := (first | omega | (simp only [lnS, zA, zM, zG, zP]; omega))) only [nc, nct, w64_of, zT, zZ, zM, rdS, at_agg, bofZ, bof1, bof0, zC, zS, reduceCtorEq, Bool.not_true, Bool.not_false, zD, zE, zB, zF, zN, zO, ne_eq, zQ, zL, zR, beq_iff_eq] at h_s))
    | (refine hF ?_; intro _; clear hF)
    | (refine hF ?_; cbv; clear hF)
    | (refine ⟨fun _ => ?_, ?_⟩; (· ((try simp only [nc] at *); first | done | omega | exact ⟨by omega, rfl⟩ | (simp (disch := (first | omega | (simp only [lnS, zA, zM, zG, zP]; omega))) only [nc, nct, w64_of, zT, zZ, zM, rdS, at_agg, bofZ, bof1, bof0, zC, zS]; first | done | omega | rfl | exact ⟨by omega, rfl⟩ | (simp; done) | (simp; omega)) | (intros; trivial))); (try (simp only [nc] at *)); (try simp (disch := (first | omega | (simp only [lnS, zA, zM, zG, zP]; omega))) only [nc, nct, w64_of, zT, zZ, zM, rdS, at_agg, bofZ, bof1, bof0, zC, zS]); (try cbv))
    | (refine E.d 42 (by decide +kernel) ?_; cbv; (fail_if_success guard_target =~ False))
    | fail
  )
  all_goals (try simp only [nc] at *)
  all_goals (try simp (disch := (first | omega | (simp only [lnS, zA, zM, zG, zP]; omega))) only [nc, nct, w64_of, zT, zZ, zM, rdS, at_agg, bofZ, bof1, bof0, zC, zS])
  all_goals (have e : ((a : Int) = b) ↔ a = b := Int.ofNat_inj; simp_all [locM, nearM, fenceM])
theorem wloc_ok (g : Gr) (a b : Nat) (ha : a < nG g) (hb : b < nG g) : Pure Tryz.prog γ false 19 [pW g, .i fun _ => (a : Int), .i fun _ => (b : Int)] (.b fun _ => locM (viewG g) a b) := xloc_ok g _ _ _ _ _ a b (evsG_l g) ha hb
theorem xpo_ok (g : Gr) (L : List EId) (Es : List Ev) (fr pl : List Int) (n a b : Nat) (h1 : L.length = n) (ha : a < n) (hb : b < n) (pa : 0 ≤ (L.getD a id0).t) (pb : 0 ≤ (L.getD b id0).t) : Pure Tryz.prog γ false 37 [.vp (fun _ => aV15 g L Es n) 0, .i fun _ => (a : Int), .i fun _ => (b : Int)] (.b fun _ => poM ⟨L, Es, fr, pl⟩ a b) := by
  refine Pure.go (ty := ty) ty_eq mo Tryz.func37 rfl Tryz.ntmps37 Tryz.results37 Tryz.call37 (by simp) fun P C CQ D W F E hF => ?_
  cbv
  repeat' (first
    | (refine E.de 17 [] [none, none] (by decide +kernel) ?_; cbv; (fail_if_success guard_target =~ False))
    | (refine ⟨fun _ h_s => ?_, fun _ h_s => ?_⟩ <;> (cbv; (try simp only [nc] at *); try simp (disch := (first | omega | (simp only [lnS, zA, zM, zG, zP]; omega))) only [nc, nct, w64_of, zT, zZ, zM, rdS, at_agg, bofZ, bof1, bof0, zC, zS, reduceCtorEq, Bool.not_true, Bool.not_false, zD, zE, zB, zF, zN, zO, ne_eq, zQ, zL, zR, beq_iff_eq] at h_s))
    | (refine hF ?_; intro _; clear hF)
    | (refine hF ?_; cbv; clear hF)
    | (refine ⟨fun _ => ?_, ?_⟩; (· ((try simp only [nc] at *); first | done | omega | exact ⟨by omega, rfl⟩ | (simp (disch := (first | omega | (simp only [lnS, zA, zM, zG, zP]; omega))) only [nc, nct, w64_of, zT, zZ, zM, rdS, at_agg, bofZ, bof1, bof0, zC, zS]; first | done | omega | rfl | exact ⟨by omega, rfl⟩ | (simp; done) | (simp; omega)) | (intros; trivial))); (try (simp only [nc] at *)); (try simp (disch := (first | omega | (simp only [lnS, zA, zM, zG, zP]; omega))) only [nc, nct, w64_of, zT, zZ, zM, rdS, at_agg, bofZ, bof1, bof0, zC, zS]); (try cbv))
    | fail
  )
  all_goals (try simp only [nc] at *)
  all_goals (try simp (disch := (first | omega | (simp only [lnS, zA, zM, zG, zP]; omega))) only [nc, nct, w64_of, zT, zZ, zM, rdS, at_agg, bofZ, bof1, bof0, zC, zS])
  all_goals (try simp only [poM])
  all_goals grind
end Go.AL.Rl

namespace Go.AL.Rl
open Go Go.AL Go.Proofs
set_option maxRecDepth 100000
set_option maxHeartbeats 1600000
variable {γ : Nat → Option AV}

theorem wpo_ok (g : Gr) (a b : Nat) (ha : a < nG g) (hb : b < nG g) : Pure Tryz.prog γ false 37 [pW g, .i fun _ => (a : Int), .i fun _ => (b : Int)] (.b fun _ => poM (viewG g) a b) := xpo_ok g _ _ _ _ _ a b (idsG_l g) ha hb (ids_pos ha) (ids_pos hb)
theorem wfrom_ok (g : Gr) (h : GOk g) (a : Nat) (ha : a < nG g) : Pure Tryz.prog γ false 48 [pW g, .i fun _ => (a : Int)] (.i fun _ => (viewG g).fr.getD a 0) := by
  have kr := wreads_ok (γ := γ) g a ha
  rw [vfr h a ha]
  have hev := vev h a ha
  cases hr : readsM ((viewG g).ev.getD a ev0) with
  | false =>
    rw [hr] at kr
    have e : frOf g ((idsG g).getD a id0) = -1 := by
      unfold frOf
      rw [hev, Option.getD_some, hr]; simp
    rw [e]
    refine Pure.go (ty := ty) ty_eq mo Tryz.func48 rfl Tryz.ntmps48 Tryz.results48 Tryz.call48 (by simp) fun P C CQ D W F E hF => ?_
    cbv
    repeat' (first
      | (refine E.c (SCalls.of_le (kr) ?_ ?_); (· (cbv; (try simp only [nc] at *); first | done | (simp; done) | (simp (disch := (first | omega | (simp only [lnS, zA, zM, zG, zP]; omega))) only [nc, nct, w64_of, zT, zZ, zM, rdS, at_agg, bofZ, bof1, bof0, zC, zS, implies_true, and_true, true_and, forall_const]; first | done | omega | (refine ⟨?_, ?_⟩ <;> omega)) | (simp (disch := (first | omega | (simp only [lnS, zA, zM, zG, zP]; omega))) [nc, nct, w64_of, zT, zZ, zM, rdS, at_agg, bofZ, bof1, bof0, zC, zS]; done))); cbv)
      | (refine ⟨fun _ h_s => ?_, fun _ h_s => ?_⟩ <;> (cbv; (try simp only [nc] at *); try simp (disch := (first | omega | (simp only [lnS, zA, zM, zG, zP]; omega))) only [nc, nct, w64_of, zT, zZ, zM, rdS, at_agg, bofZ, bof1, bof0, zC, zS, reduceCtorEq, Bool.not_true, Bool.not_false, zD, zE, zB, zF, zN, zO, ne_eq, zQ, zL, zR, beq_iff_eq] at h_s))
      | (refine hF ?_; intro _; clear hF)
      | (refine hF ?_; cbv; clear hF)
      | (refine ⟨fun _ => ?_, ?_⟩; (· ((try simp only [nc] at *); first | done | omega | exact ⟨by omega, rfl⟩ | (simp (disch := (first | omega | (simp only [lnS, zA, zM, zG, zP]; omega))) only [nc, nct, w64_of, zT, zZ, zM, rdS, at_agg, bofZ, bof1, bof0, zC, zS]; first | done | omega | rfl | exact ⟨by omega, rfl⟩ | (simp; done) | (simp; omega)) | (intros; trivial))); (try (simp only [nc] at *)); (try simp (disch := (first | omega | (simp only [lnS, zA, zM, zG, zP]; omega))) only [nc, nct, w64_of, zT, zZ, zM, rdS, at_agg, bofZ, bof1, bof0, zC, zS]); (try cbv))
      | (refine E.d 8 (by decide +kernel) ?_; cbv; (fail_if_success guard_target =~ False))
      | fail
    )
    all_goals (try simp only [nc] at *)
    all_goals (try simp (disch := (first | omega | (simp only [lnS, zA, zM, zG, zP]; omega))) only [nc, nct, w64_of, zT, zZ, zM, rdS, at_agg, bofZ, bof1, bof0, zC, zS])
    all_goals first | rfl | (revert h_s; simp)
  | true =>
    rw [hr] at kr
    have h0 : ((idsG g).getD a id0).t ≠ 0 := fun h0 => by rw [init_reads hev h0] at hr; cases hr
    obtain ⟨w1, w2, w3, w4, w5⟩ := ids_where h ha h0
    have hd : (idsG g).getD a id0 ∈ idsG g := getD_mem ha
    obtain ⟨w, hw, _⟩ := source_mem (src_ok h hd h0) (by rw [hev]; exact hr)
    have hm : srcOf g ((idsG g).getD a id0) ∈ idsG g := idsG_mem.2 (by rw [hw]; rfl)
    have e : frOf g ((idsG g).getD a id0) = (numOf (idsG g) (srcOf g ((idsG g).getD a id0)) : Nat) := by
      unfold frOf
      rw [if_neg h0, hev, Option.getD_some, if_pos hr]
    rw [e]
    have hnd := idsG_nodup g
    have hn : nG g ≤ 62 := (viewG_wf h).small
    unfold pW at kr ⊢
    obtain ⟨L, hL⟩ : ∃ L, L = idsG g := ⟨_, rfl⟩
    have hLn : L.length = nG g := by rw [hL]; rfl
    obtain ⟨n, hnn⟩ : ∃ n, n = nG g := ⟨_, rfl⟩
    rw [← hnn] at ha hn hLn kr ⊢
    rw [← hL] at kr w1 w2 w3 w4 w5 hm hnd ⊢
    obtain ⟨s, hs⟩ : ∃ s, s = srcOf g (L.getD a id0) := ⟨_, rfl⟩
    rw [← hs] at hm ⊢
    have hsd : s = (g.fr.getD ((L.getD a ⟨0, 0⟩).t - 1).toNat []).getD (L.getD a ⟨0, 0⟩).i.toNat ⟨0, 0⟩ := hs
    refine Pure.go (ty := ty) ty_eq mo Tryz.func48 rfl Tryz.ntmps48 Tryz.results48 Tryz.call48 (by simp) fun P C CQ D W F E hF => ?_
    cbv
    repeat' (first
      | (refine E.de 27 [] [none] (by decide +kernel) ?_; cbv; (fail_if_success guard_target =~ False))
      | (refine E.c (SCalls.of_le (kr) ?_ ?_); (· (cbv; (try simp only [nc] at *); first | done | (simp; done) | (simp (disch := (first | omega | (simp only [lnS, zA, zM, zG, zP]; omega))) only [nc, nct, w64_of, zT, zZ, zM, rdS, at_agg, bofZ, bof1, bof0, zC, zS, implies_true, and_true, true_and, forall_const]; first | done | omega | (refine ⟨?_, ?_⟩ <;> omega)) | (simp (disch := (first | omega | (simp only [lnS, zA, zM, zG, zP]; omega))) [nc, nct, w64_of, zT, zZ, zM, rdS, at_agg, bofZ, bof1, bof0, zC, zS]; done))); cbv)
      | (refine ⟨fun _ h_s => ?_, fun _ h_s => ?_⟩ <;> (cbv; (try simp only [nc] at *); try simp (disch := (first | omega | (simp only [lnS, zA, zM, zG, zP]; omega))) only [nc, nct, w64_of, zT, zZ, zM, rdS, at_agg, bofZ, bof1, bof0, zC, zS, reduceCtorEq, Bool.not_true, Bool.not_false, zD, zE, zB, zF, zN, zO, ne_eq, zQ, zL, zR, beq_iff_eq] at h_s))
      | (refine hF ?_; intro _; clear hF)
      | (refine hF ?_; cbv; clear hF)
      | (refine ⟨fun _ => ?_, ?_⟩; (· ((try simp only [nc] at *); first | done | omega | exact ⟨by omega, rfl⟩ | (simp (disch := (first | omega | (simp only [lnS, zA, zM, zG, zP]; omega))) only [nc, nct, w64_of, zT, zZ, zM, rdS, at_agg, bofZ, bof1, bof0, zC, zS]; first | done | omega | rfl | exact ⟨by omega, rfl⟩ | (simp; done) | (simp; omega)) | (intros; trivial))); (try (simp only [nc] at *)); (try simp (disch := (first | omega | (simp only [lnS, zA, zM, zG, zP]; omega))) only [nc, nct, w64_of, zT, zZ, zM, rdS, at_agg, bofZ, bof1, bof0, zC, zS]); (try cbv))
      | (refine E.d 8 (by decide +kernel) ?_; cbv; (fail_if_success guard_target =~ False))
      | fail
    )
    skip
    refine E.loopS (ι := Nat) (fun k => k ≤ n ∧ (∀ j < k, L.getD j ⟨0, 0⟩ ≠ s)) (fun k => n - k) (fun k => [(6, .i fun _ => ((k : Nat) : Int))]) (fun k h => h) 0 (fun _ => by first | rfl | simp) ⟨Nat.zero_le _, ?_⟩ ?_ fun k hk I hI => ?_
    · intro j hj; omega
    · cbv; simp
    cbv
    repeat' (first
      | (refine hI (k + 1) ?_ ?_ ?_; rotate_left 1; (· ((try simp only [nc] at *); omega)); (cbv; clear hI; (try clear hF); (try simp only [nc] at *); (try simp (disch := (first | omega | (simp only [lnS, zA, zM, zG, zP]; omega))) only [nc, nct, w64_of, zT, zZ, zM, rdS, at_agg, bofZ, bof1, bof0, zC, zS, ← hsd, implies_true, and_true, true_and, forall_const])); rotate_left 1; (try ((try simp only [nc] at *); omega)))
      | (refine ⟨fun _ h_s => ?_, fun _ h_s => ?_⟩ <;> (cbv; (try simp only [nc] at *); try simp (disch := (first | omega | (simp only [lnS, zA, zM, zG, zP]; omega))) only [nc, nct, w64_of, zT, zZ, zM, rdS, at_agg, bofZ, bof1, bof0, zC, zS, ← hsd, reduceCtorEq, Bool.not_true, Bool.not_false, zD, zE, zB, zF, zN, zO, ne_eq, zQ, zL, zR, beq_iff_eq] at h_s))
      | (refine hF ?_; intro _; clear hF)
      | (refine hF ?_; cbv; clear hF)
      | (refine ⟨fun _ => ?_, ?_⟩; (· ((try simp only [nc] at *); first | done | omega | exact ⟨by omega, rfl⟩ | (simp (disch := (first | omega | (simp only [lnS, zA, zM, zG, zP]; omega))) only [nc, nct, w64_of, zT, zZ, zM, rdS, at_agg, bofZ, bof1, bof0, zC, zS, ← hsd]; first | done | omega | rfl | exact ⟨by omega, rfl⟩ | (simp; done) | (simp; omega)) | (intros; trivial))); (try (simp only [nc] at *)); (try simp (disch := (first | omega | (simp only [lnS, zA, zM, zG, zP]; omega))) only [nc, nct, w64_of, zT, zZ, zM, rdS, at_agg, bofZ, bof1, bof0, zC, zS, ← hsd]); (try cbv))
      | (refine E.d 8 (by decide +kernel) ?_; cbv; (fail_if_success guard_target =~ False))
      | fail
    )
    · simp only [Bool.and_true, Bool.and_eq_true, decide_eq_true_eq] at h_s
      have he : L.getD k id0 = s := EId.ext' h_s.1 h_s.2
      have := numOf_at hnd (k := k) (by ((try simp only [nc] at *); omega))
      rw [he] at this
      show (k : Int) = _
      rw [this]
    · refine ⟨by ((try simp only [nc] at *); omega), fun j hj => ?_⟩
      rcases Nat.lt_or_ge j k with hjk | hjk
      · exact hk.2 j hjk
      · have : j = k := by omega
        subst this
        intro he
        rw [he] at h_s
        simp at h_s
    · push_cast; rfl
    · exfalso
      exact hk.2 _ (by have := numOf_lt hm; ((try simp only [nc] at *); omega)) (numOf_get hm)
end Go.AL.Rl
