import Derived.Test.YtefobdmgflipjaaGreatDoorPk5
set_option linter.unusedVariables false
set_option linter.unusedSimpArgs false
namespace Go.AL.Rl
open Go Go.AL Go.Proofs
set_option maxRecDepth 100000
set_option maxHeartbeats 1600000
variable {γ : Nat → Option AV}

abbrev aDer (n : Int) (po rf co fr eco porf loc sw hb : List (BitVec 64)) : AV :=
 .agg [.i fun _ => n, .vs 1 fun _ => us po, .i fun _ => n, .vs 1 fun _ => us rf, .i fun _ => n, .vs 1 fun _ => us co, .i fun _ => n, .vs 1 fun _ => us fr, .i fun _ => n, .vs 1 fun _ => us eco, .i fun _ => n, .vs 1 fun _ => us porf, .i fun _ => n, .vs 1 fun _ => us loc, .i fun _ => n, .vs 1 fun _ => us sw, .i fun _ => n, .vs 1 fun _ => us hb]
theorem or3 (n : Nat) (a b c : List (BitVec 64)) (ha : Fits n a) (hb : Fits n b) (hc : Fits n c) : Pure Tryz.prog γ false 33 [.vs 2 fun _ => rls [((n : Int), a), ((n : Int), b), ((n : Int), c)]] (encRel n (orM n [((n : Int), a), ((n : Int), b), ((n : Int), c)])) :=
 or_yes _ (by simp) (alike3 n a b c ha hb hc) n rfl
theorem dAll_yes (g : Gr) (hg : Rd g) (h : GOk g) : Pure Tryz.prog γ false 31 [aGr g] (.tup [aDer (nG g : Nat) (poF (viewG g) (nG g)) (rfF (viewG g) (nG g)) (coF (viewG g) (nG g)) (frF (viewG g) (nG g)) (ecoF (viewG g) (nG g)) (porfF (viewG g) (nG g)) (locF (viewG g) (nG g)) (swF (viewG g) (nG g)) (hbF (viewG g) (nG g)), .i fun _ => 0]) := by
 have hV := viewG_wf h
 have a1 := vpoF_ok (γ := γ) (viewG g) hV
 have a2 := vrfF_ok (γ := γ) (viewG g) hV
 have a3 := vcoF_ok (γ := γ) (viewG g) hV
 have a4 := vfrF_ok (γ := γ) (viewG g) hV
 have a5 := vlocF_ok (γ := γ) (viewG g) hV
 have a6 := vswF_ok (γ := γ) (viewG g) hV
 have f1 := fits_poF (viewG g) hV.small
 have f2 := fits_rfF (viewG g) hV.small
 have f3 := fits_coF (viewG g) hV.small
 have f4 := fits_frF (viewG g) hV.small
 have f6 := fits_swF (viewG g) hV.small
 have o1 := or3 (γ := γ) (nG g) _ _ _ f2 f3 f4
 have o2 := or2 (γ := γ) (nG g) _ _ f1 f2
 have o3 := or2 (γ := γ) (nG g) _ _ f1 f6
 have p1 := plus_ok (γ := γ) (nG g) _ (fits_or (by have := hV.small; omega) (l := [((nG g : Int), rfF (viewG g) (nG g)), ((nG g : Int), coF (viewG g) (nG g)), ((nG g : Int), frF (viewG g) (nG g))]) (by simp [f2, f3, f4]))
 have p2 := plus_ok (γ := γ) (nG g) _ (fits_or2 f1 f2)
 have p3 := plus_ok (γ := γ) (nG g) _ (fits_or2 f1 f6)
 refine Pure.go (ty := ty) ty_eq mo Tryz.func31 rfl Tryz.ntmps31 Tryz.results31 Tryz.call31 (by simp) fun P C CQ D W F E hF => ?_
 cbv
 repeat' (first
  | (refine E.c (SCalls.of_le (p3) ?_ ?_); (· (cbv; (try simp only [nc] at *); first | done | (simp; done) | (simp (disch := (first | omega | (simp only [lnS, zA, zM, zG, zP]; omega))) only [nc, nct, w64_of, zT, zZ, zM, rdS, at_agg, bofZ, bof1, bof0, zC, zS, implies_true, and_true, true_and, forall_const]; first | done | omega | (refine ⟨?_, ?_⟩ <;> omega)) | (simp (disch := (first | omega | (simp only [lnS, zA, zM, zG, zP]; omega))) [nc, nct, w64_of, zT, zZ, zM, rdS, at_agg, bofZ, bof1, bof0, zC, zS]; done))); cbv)
  | (refine E.c (SCalls.of_le (p2) ?_ ?_); (· (cbv; (try simp only [nc] at *); first | done | (simp; done) | (simp (disch := (first | omega | (simp only [lnS, zA, zM, zG, zP]; omega))) only [nc, nct, w64_of, zT, zZ, zM, rdS, at_agg, bofZ, bof1, bof0, zC, zS, implies_true, and_true, true_and, forall_const]; first | done | omega | (refine ⟨?_, ?_⟩ <;> omega)) | (simp (disch := (first | omega | (simp only [lnS, zA, zM, zG, zP]; omega))) [nc, nct, w64_of, zT, zZ, zM, rdS, at_agg, bofZ, bof1, bof0, zC, zS]; done))); cbv)
  | (refine E.c (SCalls.of_le (p1) ?_ ?_); (· (cbv; (try simp only [nc] at *); first | done | (simp; done) | (simp (disch := (first | omega | (simp only [lnS, zA, zM, zG, zP]; omega))) only [nc, nct, w64_of, zT, zZ, zM, rdS, at_agg, bofZ, bof1, bof0, zC, zS, implies_true, and_true, true_and, forall_const]; first | done | omega | (refine ⟨?_, ?_⟩ <;> omega)) | (simp (disch := (first | omega | (simp only [lnS, zA, zM, zG, zP]; omega))) [nc, nct, w64_of, zT, zZ, zM, rdS, at_agg, bofZ, bof1, bof0, zC, zS]; done))); cbv)
  | (refine E.c (SCalls.of_bare (o3) rfl ?_ ?_); (· (cbv; simp [rls, ps, us, is, LV.of]; done)); cbv)
  | (refine E.c (SCalls.of_le (o3) ?_ ?_); (· (cbv; simp [rls, ps, us, is, LV.of]; done)); cbv)
  | (refine E.q (QCalls.of_le (o3) ?_ ?_); (· (cbv; simp [rls, ps, us, is, LV.of]; done)); cbv)
  | (refine E.c (SCalls.of_bare (o2) rfl ?_ ?_); (· (cbv; simp [rls, ps, us, is, LV.of]; done)); cbv)
  | (refine E.c (SCalls.of_le (o2) ?_ ?_); (· (cbv; simp [rls, ps, us, is, LV.of]; done)); cbv)
  | (refine E.q (QCalls.of_le (o2) ?_ ?_); (· (cbv; simp [rls, ps, us, is, LV.of]; done)); cbv)
  | (refine E.c (SCalls.of_bare (o1) rfl ?_ ?_); (· (cbv; simp [rls, ps, us, is, LV.of]; done)); cbv)
  | (refine E.c (SCalls.of_le (o1) ?_ ?_); (· (cbv; simp [rls, ps, us, is, LV.of]; done)); cbv)
  | (refine E.q (QCalls.of_le (o1) ?_ ?_); (· (cbv; simp [rls, ps, us, is, LV.of]; done)); cbv)
  | (refine E.c (SCalls.of_le (a6) ?_ ?_); (· (cbv; (try simp only [nc] at *); first | done | (simp; done) | (simp (disch := (first | omega | (simp only [lnS, zA, zM, zG, zP]; omega))) only [nc, nct, w64_of, zT, zZ, zM, rdS, at_agg, bofZ, bof1, bof0, zC, zS, implies_true, and_true, true_and, forall_const]; first | done | omega | (refine ⟨?_, ?_⟩ <;> omega)) | (simp (disch := (first | omega | (simp only [lnS, zA, zM, zG, zP]; omega))) [nc, nct, w64_of, zT, zZ, zM, rdS, at_agg, bofZ, bof1, bof0, zC, zS]; done))); cbv)
  | (refine E.c (SCalls.of_le (a5) ?_ ?_); (· (cbv; (try simp only [nc] at *); first | done | (simp; done) | (simp (disch := (first | omega | (simp only [lnS, zA, zM, zG, zP]; omega))) only [nc, nct, w64_of, zT, zZ, zM, rdS, at_agg, bofZ, bof1, bof0, zC, zS, implies_true, and_true, true_and, forall_const]; first | done | omega | (refine ⟨?_, ?_⟩ <;> omega)) | (simp (disch := (first | omega | (simp only [lnS, zA, zM, zG, zP]; omega))) [nc, nct, w64_of, zT, zZ, zM, rdS, at_agg, bofZ, bof1, bof0, zC, zS]; done))); cbv)
  | (refine E.c (SCalls.of_le (a4) ?_ ?_); (· (cbv; (try simp only [nc] at *); first | done | (simp; done) | (simp (disch := (first | omega | (simp only [lnS, zA, zM, zG, zP]; omega))) only [nc, nct, w64_of, zT, zZ, zM, rdS, at_agg, bofZ, bof1, bof0, zC, zS, implies_true, and_true, true_and, forall_const]; first | done | omega | (refine ⟨?_, ?_⟩ <;> omega)) | (simp (disch := (first | omega | (simp only [lnS, zA, zM, zG, zP]; omega))) [nc, nct, w64_of, zT, zZ, zM, rdS, at_agg, bofZ, bof1, bof0, zC, zS]; done))); cbv)
  | (refine E.c (SCalls.of_le (a3) ?_ ?_); (· (cbv; (try simp only [nc] at *); first | done | (simp; done) | (simp (disch := (first | omega | (simp only [lnS, zA, zM, zG, zP]; omega))) only [nc, nct, w64_of, zT, zZ, zM, rdS, at_agg, bofZ, bof1, bof0, zC, zS, implies_true, and_true, true_and, forall_const]; first | done | omega | (refine ⟨?_, ?_⟩ <;> omega)) | (simp (disch := (first | omega | (simp only [lnS, zA, zM, zG, zP]; omega))) [nc, nct, w64_of, zT, zZ, zM, rdS, at_agg, bofZ, bof1, bof0, zC, zS]; done))); cbv)
  | (refine E.c (SCalls.of_le (a2) ?_ ?_); (· (cbv; (try simp only [nc] at *); first | done | (simp; done) | (simp (disch := (first | omega | (simp only [lnS, zA, zM, zG, zP]; omega))) only [nc, nct, w64_of, zT, zZ, zM, rdS, at_agg, bofZ, bof1, bof0, zC, zS, implies_true, and_true, true_and, forall_const]; first | done | omega | (refine ⟨?_, ?_⟩ <;> omega)) | (simp (disch := (first | omega | (simp only [lnS, zA, zM, zG, zP]; omega))) [nc, nct, w64_of, zT, zZ, zM, rdS, at_agg, bofZ, bof1, bof0, zC, zS]; done))); cbv)
  | (refine E.c (SCalls.of_le (a1) ?_ ?_); (· (cbv; (try simp only [nc] at *); first | done | (simp; done) | (simp (disch := (first | omega | (simp only [lnS, zA, zM, zG, zP]; omega))) only [nc, nct, w64_of, zT, zZ, zM, rdS, at_agg, bofZ, bof1, bof0, zC, zS, implies_true, and_true, true_and, forall_const]; first | done | omega | (refine ⟨?_, ?_⟩ <;> omega)) | (simp (disch := (first | omega | (simp only [lnS, zA, zM, zG, zP]; omega))) [nc, nct, w64_of, zT, zZ, zM, rdS, at_agg, bofZ, bof1, bof0, zC, zS]; done))); cbv)
  | (refine E.c (SCalls.of_le (viewOf_ok g hg h) ?_ ?_); (· (cbv; (try simp only [nc] at *); first | done | (simp; done) | (simp (disch := (first | omega | (simp only [lnS, zA, zM, zG, zP]; omega))) only [nc, nct, w64_of, zT, zZ, zM, rdS, at_agg, bofZ, bof1, bof0, zC, zS, implies_true, and_true, true_and, forall_const]; first | done | omega | (refine ⟨?_, ?_⟩ <;> omega)) | (simp (disch := (first | omega | (simp only [lnS, zA, zM, zG, zP]; omega))) [nc, nct, w64_of, zT, zZ, zM, rdS, at_agg, bofZ, bof1, bof0, zC, zS]; done))); cbv)
  | (refine ⟨fun _ h_s => ?_, fun _ h_s => ?_⟩ <;> (cbv; (try simp only [nc] at *); try simp (disch := (first | omega | (simp only [lnS, zA, zM, zG, zP]; omega))) only [nc, nct, w64_of, zT, zZ, zM, rdS, at_agg, bofZ, bof1, bof0, zC, zS, reduceCtorEq, Bool.not_true, Bool.not_false, zD, zE, zB, zF, zN, zO, ne_eq, zQ, zL, zR, beq_iff_eq] at h_s))
  | (refine hF ?_; intro _; clear hF)
  | (refine hF ?_; cbv; clear hF)
  | (refine ⟨fun _ => ?_, ?_⟩; (· ((try simp only [nc] at *); first | done | omega | exact ⟨by omega, rfl⟩ | (simp (disch := (first | omega | (simp only [lnS, zA, zM, zG, zP]; omega))) only [nc, nct, w64_of, zT, zZ, zM, rdS, at_agg, bofZ, bof1, bof0, zC, zS]; first | done | omega | rfl | exact ⟨by omega, rfl⟩ | (simp; done) | (simp; omega)) | (intros; trivial))); try cbv)
  | fail
 )
 all_goals (try simp only [nc] at *)
 all_goals (try simp (disch := (first | omega | (simp only [lnS, zA, zM, zG, zP]; omega))) only [nc, nct, w64_of, zT, zZ, zM, rdS, at_agg, bofZ, bof1, bof0, zC, zS])
 simp [ecoF, porfF, hbF]
theorem dAll_no (g : Gr) (hg : Rd g) (h : ¬ GOk g) : Pure Tryz.prog γ false 31 [aGr g] (.tup [aDer 0 [] [] [] [] [] [] [] [] [], .i fun _ => 2]) := by
 refine Pure.go (ty := ty) ty_eq mo Tryz.func31 rfl Tryz.ntmps31 Tryz.results31 Tryz.call31 (by simp) fun P C CQ D W F E hF => ?_
 cbv
 repeat' (first
  | (refine E.c (SCalls.of_le (viewOf_no g hg h) ?_ ?_); (· (cbv; (try simp only [nc] at *); first | done | (simp; done) | (simp (disch := (first | omega | (simp only [lnS, zA, zM, zG, zP]; omega))) only [nc, nct, w64_of, zT, zZ, zM, rdS, at_agg, bofZ, bof1, bof0, zC, zS, implies_true, and_true, true_and, forall_const]; first | done | omega | (refine ⟨?_, ?_⟩ <;> omega)) | (simp (disch := (first | omega | (simp only [lnS, zA, zM, zG, zP]; omega))) [nc, nct, w64_of, zT, zZ, zM, rdS, at_agg, bofZ, bof1, bof0, zC, zS]; done))); cbv)
  | (refine ⟨fun _ h_s => ?_, fun _ h_s => ?_⟩ <;> (cbv; (try simp only [nc] at *); try simp (disch := (first | omega | (simp only [lnS, zA, zM, zG, zP]; omega))) only [nc, nct, w64_of, zT, zZ, zM, rdS, at_agg, bofZ, bof1, bof0, zC, zS, reduceCtorEq, Bool.not_true, Bool.not_false, zD, zE, zB, zF, zN, zO, ne_eq, zQ, zL, zR, beq_iff_eq] at h_s))
  | (refine hF ?_; intro _; clear hF)
  | (refine hF ?_; cbv; clear hF)
  | (refine ⟨fun _ => ?_, ?_⟩; (· ((try simp only [nc] at *); first | done | omega | exact ⟨by omega, rfl⟩ | (simp (disch := (first | omega | (simp only [lnS, zA, zM, zG, zP]; omega))) only [nc, nct, w64_of, zT, zZ, zM, rdS, at_agg, bofZ, bof1, bof0, zC, zS]; first | done | omega | rfl | exact ⟨by omega, rfl⟩ | (simp; done) | (simp; omega)) | (intros; trivial))); try cbv)
  | fail
 )
 all_goals (try simp only [nc] at *)
 all_goals (try simp (disch := (first | omega | (simp only [lnS, zA, zM, zG, zP]; omega))) only [nc, nct, w64_of, zT, zZ, zM, rdS, at_agg, bofZ, bof1, bof0, zC, zS])
 all_goals simp [us, LV.of, LV.l]
end Go.AL.Rl

namespace Go.AL.Rl
open Go Go.AL Go.Proofs
set_option maxRecDepth 100000
set_option maxHeartbeats 1600000
variable {γ : Nat → Option AV}

def runL (mx cap : Int) : List Nat → Int → Int
 | [], s => s
 | n :: r, s => if s ≤ cap then runL mx cap r (s + min (mx + 1) n) else s
def sumL (mx : Int) (l : List Nat) (s : Int) (k : Nat) : Int := (l.take k).foldl (fun (a : Int) (n : Nat) => a + min (mx + 1) (n : Int)) s
theorem sumL_zero (mx : Int) (l : List Nat) (s : Int) : sumL mx l s 0 = s := rfl
theorem sumL_succ (mx : Int) (l : List Nat) (s : Int) (k : Nat) (h : k < l.length) : sumL mx l s (k + 1) = sumL mx l s k + min (mx + 1) (l.getD k 0) := by
 simp only [sumL]
 rw [List.take_succ_eq_append_getElem h, List.foldl_append]
 simp [h]
theorem runL_step {mx cap : Int} {l : List Nat} {s : Int} {k : Nat} (h : k < l.length) (hs : sumL mx l s k ≤ cap) (hr : runL mx cap (l.drop k) (sumL mx l s k) = runL mx cap l s) :
  runL mx cap (l.drop (k + 1)) (sumL mx l s (k + 1)) = runL mx cap l s := by
 rw [← hr, List.drop_eq_getElem_cons h, runL, if_pos hs, sumL_succ _ _ _ _ h]
 simp [h]
theorem runL_end {mx cap : Int} {l : List Nat} {s : Int} {k : Nat} (h : l.length ≤ k ∨ ¬ sumL mx l s k ≤ cap) (hr : runL mx cap (l.drop k) (sumL mx l s k) = runL mx cap l s) : sumL mx l s k = runL mx cap l s := by
 rw [← hr]
 by_cases hk : l.length ≤ k
 ·rw [List.drop_eq_nil_of_le hk, runL]
 ·rw [List.drop_eq_getElem_cons (by omega), runL, if_neg (by rcases h with h | h; omega; exact h)]
theorem runL_bd {mx cap B : Int} (h0 : 0 ≤ mx) (hB : cap + mx + 1 ≤ B) : ∀ (l : List Nat) (s : Int), 0 ≤ s → s ≤ B → 0 ≤ runL mx cap l s ∧ runL mx cap l s ≤ B
 | [], s, h1, h2 => ⟨h1, h2⟩
 | n :: r, s, h1, h2 => by
  rw [runL]
  split
  ·exact runL_bd h0 hB r _ (by omega) (by omega)
  ·exact ⟨h1, h2⟩
theorem ths_le {g : Gr} (hg : Rd g) (x : Nat) : ((g.th.getD x []).length : Int) ≤ 9223372036854775807 := by
 rcases Nat.lt_or_ge x g.th.length with h1 | h1
 ·exact hg.ths _ (getD_mem h1)
 ·simp [List.getElem?_eq_none h1]
theorem frs_le {g : Gr} (hg : Rd g) (x : Nat) : ((g.fr.getD x []).length : Int) ≤ 9223372036854775807 := by
 rcases Nat.lt_or_ge x g.fr.length with h1 | h1
 ·exact hg.frs _ (getD_mem h1)
 ·simp [List.getElem?_eq_none h1]
def lensT (g : Gr) : List Nat := g.th.map (·.length)
def lensF (g : Gr) : List Nat := g.fr.map (·.length)
def lensO (g : Gr) : List Nat := g.ord.map (·.length)
def light0 (mx : Int) (g : Gr) : Int := min (mx + 1) g.init.length + min (mx + 1) g.th.length + min (mx + 1) g.fr.length + min (mx + 1) g.ord.length
def lightM (mx : Int) (g : Gr) : Bool := decide (runL mx (3 * mx) (lensO g) (runL mx (2 * mx) (lensF g) (runL mx mx (lensT g) (light0 mx g))) ≤ 3 * mx)
theorem lensT_get (g : Gr) (k : Nat) (h : k < g.th.length) : (lensT g).getD k 0 = (g.th.getD k []).length := by simp [lensT, h]
theorem lensF_get (g : Gr) (k : Nat) (h : k < g.fr.length) : (lensF g).getD k 0 = (g.fr.getD k []).length := by simp [lensF, h]
theorem lensO_get (g : Gr) (k : Nat) (h : k < g.ord.length) : (lensO g).getD k 0 = (g.ord.getD k []).length := by simp [lensO, h]
theorem light_ok (g : Gr) (hg : Rd g) (mx : Int) (h0 : 0 ≤ mx) (h1 : mx ≤ 1000) : Pure Tryz.prog γ false 5 [aGr g, .i fun _ => mx] (.b fun _ => lightM mx g) := by
 have b1 := hg.init
 have b2 := hg.th
 have b3 := hg.fr
 have b4 := hg.ord
 have hs0 : 0 ≤ light0 mx g ∧ light0 mx g ≤ 4 * mx + 4 := by unfold light0; omega
 obtain ⟨s0, hs⟩ : ∃ s, s = light0 mx g := ⟨_, rfl⟩
 rw [← hs] at hs0
 unfold lightM
 rw [← hs]
 have hlT : (lensT g).length = g.th.length := by simp [lensT]
 have hlF : (lensF g).length = g.fr.length := by simp [lensF]
 have hlO : (lensO g).length = g.ord.length := by simp [lensO]
 obtain ⟨r1, hr1⟩ : ∃ r, r = runL mx mx (lensT g) s0 := ⟨_, rfl⟩
 obtain ⟨r2, hr2⟩ : ∃ r, r = runL mx (2 * mx) (lensF g) r1 := ⟨_, rfl⟩
 obtain ⟨r3, hr3⟩ : ∃ r, r = runL mx (3 * mx) (lensO g) r2 := ⟨_, rfl⟩
 obtain ⟨S1, hS1⟩ : ∃ S : Nat → Int, ∀ k, S k = sumL mx (lensT g) s0 k := ⟨_, fun _ => rfl⟩
 obtain ⟨S2, hS2⟩ : ∃ S : Nat → Int, ∀ k, S k = sumL mx (lensF g) r1 k := ⟨_, fun _ => rfl⟩
 obtain ⟨S3, hS3⟩ : ∃ S : Nat → Int, ∀ k, S k = sumL mx (lensO g) r2 k := ⟨_, fun _ => rfl⟩
 have z1 : S1 0 = s0 := by rw [hS1, sumL_zero]
 have z2 : S2 0 = r1 := by rw [hS2, sumL_zero]
 have z3 : S3 0 = r2 := by rw [hS3, sumL_zero]
 have n1 : ∀ k, k < g.th.length → S1 (k + 1) = S1 k + min (mx + 1) (g.th.getD k []).length := fun k hk => by rw [hS1, hS1, sumL_succ _ _ _ _ (by omega), lensT_get _ _ hk]
 have n2 : ∀ k, k < g.fr.length → S2 (k + 1) = S2 k + min (mx + 1) (g.fr.getD k []).length := fun k hk => by rw [hS2, hS2, sumL_succ _ _ _ _ (by omega), lensF_get _ _ hk]
 have n3 : ∀ k, k < g.ord.length → S3 (k + 1) = S3 k + min (mx + 1) (g.ord.getD k []).length := fun k hk => by rw [hS3, hS3, sumL_succ _ _ _ _ (by omega), lensO_get _ _ hk]
 rw [← hr1, ← hr2, ← hr3]
 have q1 := runL_bd (mx := mx) (cap := mx) (B := 4 * mx + 4) h0 (by omega) (lensT g) s0 (by omega) (by omega)
 rw [← hr1] at q1
 have q2 := runL_bd (mx := mx) (cap := 2 * mx) (B := 4 * mx + 4) h0 (by omega) (lensF g) r1 (by omega) (by omega)
 rw [← hr2] at q2
 have q3 := runL_bd (mx := mx) (cap := 3 * mx) (B := 4 * mx + 4) h0 (by omega) (lensO g) r2 (by omega) (by omega)
 rw [← hr3] at q3
 refine Pure.goL (ty := ty) ty_eq mo Tryz.func5 rfl Tryz.ntmps5 Tryz.results5 Tryz.call5 (by simp) fun P C CQ D W F E hF => ?_
 refine E.cut 4 (told 111 [(1, .i fun _ => mx), (2, .ptr 0 0), (5, .i fun _ => r1)] [.box (aGr g)]) (by kernel_rfl) (Nat.zero_le _) (fun I hI => ?_) ?_
 ·cbv
  repeat' (first
   | (refine ⟨fun _ h_s => ?_, fun _ h_s => ?_⟩ <;> (cbv; (try simp only [nc] at *); try simp (disch := (first | omega | (simp only [lnS, zA, zM, zG, zP]; omega))) only [nc, nct, w64_of, zT, zZ, zM, rdS, at_agg, bofZ, bof1, bof0, zC, zS, reduceCtorEq, Bool.not_true, Bool.not_false, zD, zE, zB, zF, zN, zO, ne_eq, zQ, zL, zR, beq_iff_eq] at h_s))
   | (refine hF ?_; intro _; clear hF)
   | (refine hF ?_; cbv; clear hF)
   | (refine ⟨fun _ => ?_, ?_⟩; (· ((try simp only [nc] at *); first | done | omega | exact ⟨by omega, rfl⟩ | (simp (disch := (first | omega | (simp only [lnS, zA, zM, zG, zP]; omega))) only [nc, nct, w64_of, zT, zZ, zM, rdS, at_agg, bofZ, bof1, bof0, zC, zS]; first | done | omega | rfl | exact ⟨by omega, rfl⟩ | (simp; done) | (simp; omega)) | (intros; trivial))); (try (simp only [nc] at *)); (try simp (disch := (first | omega | (simp only [lnS, zA, zM, zG, zP]; omega))) only [nc, nct, w64_of, zT, zZ, zM, rdS, at_agg, bofZ, bof1, bof0, zC, zS]); (try cbv))
   | fail
  )
  refine E.loopS (ι := Nat) (fun k => k ≤ g.th.length ∧ (runL mx mx ((lensT g).drop k) (S1 k) = r1 ∧ 0 ≤ S1 k ∧ S1 k ≤ 4 * mx + 4)) (fun k => g.th.length - k) (fun k => [(6, .i fun _ => ((k : Nat) : Int)), (5, .i fun _ => S1 k)]) (fun k h => h) 0 (fun _ => by first | rfl | simp) ⟨Nat.zero_le _, ?_⟩ ?_ fun k hk I2 hI2 => ?_
  ·rw [z1, List.drop_zero]; exact ⟨hr1.symm, by omega⟩
  ·cbv
   rw [z1, hs]
   simp (disch := omega) [light0, w64_of]
   repeat' split
   all_goals omega
  cbv
  have hgt := ths_le hg k
  have nk := n1 k
  have ek := fun h1 h2 => runL_step (mx := mx) (cap := mx) (l := lensT g) (s := s0) (k := k) h1 h2
  have fk := fun h1 => runL_end (mx := mx) (cap := mx) (l := lensT g) (s := s0) (k := k) h1
  rw [← hS1, ← hS1, ← hr1] at ek
  rw [← hS1, ← hr1] at fk
  repeat' (first
   | (refine hI2 (k + 1) ?_ ?_ ?_; rotate_left 1; (· ((try simp only [nc] at *); omega)); (cbv; clear hI2; (try clear hF); (try simp only [nc] at *); (try simp (disch := (first | omega | (simp only [lnS, zA, zM, zG, zP]; omega))) only [nc, nct, w64_of, zT, zZ, zM, rdS, at_agg, bofZ, bof1, bof0, zC, zS, implies_true, and_true, true_and, forall_const])); rotate_left 1; (try ((try simp only [nc] at *); omega)))
   | (refine ⟨fun _ h_s => ?_, fun _ h_s => ?_⟩ <;> (cbv; (try simp only [nc] at *); try simp (disch := (first | omega | (simp only [lnS, zA, zM, zG, zP]; omega))) only [nc, nct, w64_of, zT, zZ, zM, rdS, at_agg, bofZ, bof1, bof0, zC, zS, reduceCtorEq, Bool.not_true, Bool.not_false, zD, zE, zB, zF, zN, zO, ne_eq, zQ, zL, zR, beq_iff_eq] at h_s))
   | (refine hF ?_; intro _; clear hF)
   | (refine hF ?_; cbv; clear hF)
   | (refine ⟨fun _ => ?_, ?_⟩; (· ((try simp only [nc] at *); first | done | omega | exact ⟨by omega, rfl⟩ | (simp (disch := (first | omega | (simp only [lnS, zA, zM, zG, zP]; omega))) only [nc, nct, w64_of, zT, zZ, zM, rdS, at_agg, bofZ, bof1, bof0, zC, zS]; first | done | omega | rfl | exact ⟨by omega, rfl⟩ | (simp; done) | (simp; omega)) | (intros; trivial))); (try (simp only [nc] at *)); (try simp (disch := (first | omega | (simp only [lnS, zA, zM, zG, zP]; omega))) only [nc, nct, w64_of, zT, zZ, zM, rdS, at_agg, bofZ, bof1, bof0, zC, zS]); (try cbv))
   | fail
  )
  ·refine ⟨?_, ?_⟩ <;> first | omega | (rw [nk (by ((try simp only [nc] at *); omega))]; split <;> omega)
  all_goals
   have hfk := fk (by ((try simp only [nc] at *); omega)) hk.2.1
   refine hI ?_
   cbv
   clear hI hI2 ek fk nk
   simp [hfk]
 refine E.cut 2 (told 111 [(1, .i fun _ => mx), (2, .ptr 0 0), (5, .i fun _ => r2)] [.box (aGr g)]) (by kernel_rfl) (Nat.zero_le _) (fun I hI => ?_) ?_
 ·cbv
  repeat' (first
   | (refine ⟨fun _ h_s => ?_, fun _ h_s => ?_⟩ <;> (cbv; (try simp only [nc] at *); try simp (disch := (first | omega | (simp only [lnS, zA, zM, zG, zP]; omega))) only [nc, nct, w64_of, zT, zZ, zM, rdS, at_agg, bofZ, bof1, bof0, zC, zS, reduceCtorEq, Bool.not_true, Bool.not_false, zD, zE, zB, zF, zN, zO, ne_eq, zQ, zL, zR, beq_iff_eq] at h_s))
   | (refine hF ?_; intro _; clear hF)
   | (refine hF ?_; cbv; clear hF)
   | (refine ⟨fun _ => ?_, ?_⟩; (· ((try simp only [nc] at *); first | done | omega | exact ⟨by omega, rfl⟩ | (simp (disch := (first | omega | (simp only [lnS, zA, zM, zG, zP]; omega))) only [nc, nct, w64_of, zT, zZ, zM, rdS, at_agg, bofZ, bof1, bof0, zC, zS]; first | done | omega | rfl | exact ⟨by omega, rfl⟩ | (simp; done) | (simp; omega)) | (intros; trivial))); (try (simp only [nc] at *)); (try simp (disch := (first | omega | (simp only [lnS, zA, zM, zG, zP]; omega))) only [nc, nct, w64_of, zT, zZ, zM, rdS, at_agg, bofZ, bof1, bof0, zC, zS]); (try cbv))
   | fail
  )
  refine E.loopS (ι := Nat) (fun k => k ≤ g.fr.length ∧ (runL mx (2 * mx) ((lensF g).drop k) (S2 k) = r2 ∧ 0 ≤ S2 k ∧ S2 k ≤ 4 * mx + 4)) (fun k => g.fr.length - k) (fun k => [(7, .i fun _ => ((k : Nat) : Int)), (5, .i fun _ => S2 k)]) (fun k h => h) 0 (fun _ => by first | rfl | simp) ⟨Nat.zero_le _, ?_⟩ ?_ fun k hk I2 hI2 => ?_
  ·rw [z2, List.drop_zero]; exact ⟨hr2.symm, by omega⟩
  ·cbv
   rw [z2]
   simp
  cbv
  have hgt := frs_le hg k
  have nk := n2 k
  have ek := fun h1 h2 => runL_step (mx := mx) (cap := (2 * mx)) (l := lensF g) (s := r1) (k := k) h1 h2
  have fk := fun h1 => runL_end (mx := mx) (cap := (2 * mx)) (l := lensF g) (s := r1) (k := k) h1
  rw [← hS2, ← hS2, ← hr2] at ek
  rw [← hS2, ← hr2] at fk
  repeat' (first
   | (refine hI2 (k + 1) ?_ ?_ ?_; rotate_left 1; (· ((try simp only [nc] at *); omega)); (cbv; clear hI2; (try clear hF); (try simp only [nc] at *); (try simp (disch := (first | omega | (simp only [lnS, zA, zM, zG, zP]; omega))) only [nc, nct, w64_of, zT, zZ, zM, rdS, at_agg, bofZ, bof1, bof0, zC, zS, implies_true, and_true, true_and, forall_const])); rotate_left 1; (try ((try simp only [nc] at *); omega)))
   | (refine ⟨fun _ h_s => ?_, fun _ h_s => ?_⟩ <;> (cbv; (try simp only [nc] at *); try simp (disch := (first | omega | (simp only [lnS, zA, zM, zG, zP]; omega))) only [nc, nct, w64_of, zT, zZ, zM, rdS, at_agg, bofZ, bof1, bof0, zC, zS, reduceCtorEq, Bool.not_true, Bool.not_false, zD, zE, zB, zF, zN, zO, ne_eq, zQ, zL, zR, beq_iff_eq] at h_s))
   | (refine hF ?_; intro _; clear hF)
   | (refine hF ?_; cbv; clear hF)
   | (refine ⟨fun _ => ?_, ?_⟩; (· ((try simp only [nc] at *); first | done | omega | exact ⟨by omega, rfl⟩ | (simp (disch := (first | omega | (simp only [lnS, zA, zM, zG, zP]; omega))) only [nc, nct, w64_of, zT, zZ, zM, rdS, at_agg, bofZ, bof1, bof0, zC, zS]; first | done | omega | rfl | exact ⟨by omega, rfl⟩ | (simp; done) | (simp; omega)) | (intros; trivial))); (try (simp only [nc] at *)); (try simp (disch := (first | omega | (simp only [lnS, zA, zM, zG, zP]; omega))) only [nc, nct, w64_of, zT, zZ, zM, rdS, at_agg, bofZ, bof1, bof0, zC, zS]); (try cbv))
   | fail
  )
  ·refine ⟨?_, ?_⟩ <;> first | omega | (rw [nk (by ((try simp only [nc] at *); omega))]; split <;> omega)
  all_goals
   have hfk := fk (by ((try simp only [nc] at *); omega)) hk.2.1
   refine hI ?_
   cbv
   clear hI hI2 ek fk nk
   simp [hfk]
 refine E.cut 2 (told 111 [(1, .i fun _ => mx), (2, .ptr 0 0), (5, .i fun _ => r3)] [.box (aGr g)]) (by kernel_rfl) (Nat.zero_le _) (fun I hI => ?_) (E.bl ?_)
 ·cbv
  repeat' (first
   | (refine ⟨fun _ h_s => ?_, fun _ h_s => ?_⟩ <;> (cbv; (try simp only [nc] at *); try simp (disch := (first | omega | (simp only [lnS, zA, zM, zG, zP]; omega))) only [nc, nct, w64_of, zT, zZ, zM, rdS, at_agg, bofZ, bof1, bof0, zC, zS, reduceCtorEq, Bool.not_true, Bool.not_false, zD, zE, zB, zF, zN, zO, ne_eq, zQ, zL, zR, beq_iff_eq] at h_s))
   | (refine hF ?_; intro _; clear hF)
   | (refine hF ?_; cbv; clear hF)
   | (refine ⟨fun _ => ?_, ?_⟩; (· ((try simp only [nc] at *); first | done | omega | exact ⟨by omega, rfl⟩ | (simp (disch := (first | omega | (simp only [lnS, zA, zM, zG, zP]; omega))) only [nc, nct, w64_of, zT, zZ, zM, rdS, at_agg, bofZ, bof1, bof0, zC, zS]; first | done | omega | rfl | exact ⟨by omega, rfl⟩ | (simp; done) | (simp; omega)) | (intros; trivial))); (try (simp only [nc] at *)); (try simp (disch := (first | omega | (simp only [lnS, zA, zM, zG, zP]; omega))) only [nc, nct, w64_of, zT, zZ, zM, rdS, at_agg, bofZ, bof1, bof0, zC, zS]); (try cbv))
   | fail
  )
  refine E.loopS (ι := Nat) (fun k => k ≤ g.ord.length ∧ (runL mx (3 * mx) ((lensO g).drop k) (S3 k) = r3 ∧ 0 ≤ S3 k ∧ S3 k ≤ 4 * mx + 4)) (fun k => g.ord.length - k) (fun k => [(8, .i fun _ => ((k : Nat) : Int)), (5, .i fun _ => S3 k)]) (fun k h => h) 0 (fun _ => by first | rfl | simp) ⟨Nat.zero_le _, ?_⟩ ?_ fun k hk I2 hI2 => ?_
  ·rw [z3, List.drop_zero]; exact ⟨hr3.symm, by omega⟩
  ·cbv
   rw [z3]
   simp
  cbv
  have hgt := ordsAt hg k
  have nk := n3 k
  have ek := fun h1 h2 => runL_step (mx := mx) (cap := (3 * mx)) (l := lensO g) (s := r2) (k := k) h1 h2
  have fk := fun h1 => runL_end (mx := mx) (cap := (3 * mx)) (l := lensO g) (s := r2) (k := k) h1
  rw [← hS3, ← hS3, ← hr3] at ek
  rw [← hS3, ← hr3] at fk
  repeat' (first
   | (refine hI2 (k + 1) ?_ ?_ ?_; rotate_left 1; (· ((try simp only [nc] at *); omega)); (cbv; clear hI2; (try clear hF); (try simp only [nc] at *); (try simp (disch := (first | omega | (simp only [lnS, zA, zM, zG, zP]; omega))) only [nc, nct, w64_of, zT, zZ, zM, rdS, at_agg, bofZ, bof1, bof0, zC, zS, implies_true, and_true, true_and, forall_const])); rotate_left 1; (try ((try simp only [nc] at *); omega)))
   | (refine ⟨fun _ h_s => ?_, fun _ h_s => ?_⟩ <;> (cbv; (try simp only [nc] at *); try simp (disch := (first | omega | (simp only [lnS, zA, zM, zG, zP]; omega))) only [nc, nct, w64_of, zT, zZ, zM, rdS, at_agg, bofZ, bof1, bof0, zC, zS, reduceCtorEq, Bool.not_true, Bool.not_false, zD, zE, zB, zF, zN, zO, ne_eq, zQ, zL, zR, beq_iff_eq] at h_s))
   | (refine hF ?_; intro _; clear hF)
   | (refine hF ?_; cbv; clear hF)
   | (refine ⟨fun _ => ?_, ?_⟩; (· ((try simp only [nc] at *); first | done | omega | exact ⟨by omega, rfl⟩ | (simp (disch := (first | omega | (simp only [lnS, zA, zM, zG, zP]; omega))) only [nc, nct, w64_of, zT, zZ, zM, rdS, at_agg, bofZ, bof1, bof0, zC, zS]; first | done | omega | rfl | exact ⟨by omega, rfl⟩ | (simp; done) | (simp; omega)) | (intros; trivial))); (try (simp only [nc] at *)); (try simp (disch := (first | omega | (simp only [lnS, zA, zM, zG, zP]; omega))) only [nc, nct, w64_of, zT, zZ, zM, rdS, at_agg, bofZ, bof1, bof0, zC, zS]); (try cbv))
   | fail
  )
  ·refine ⟨?_, ?_⟩ <;> first | omega | (rw [nk (by ((try simp only [nc] at *); omega))]; split <;> omega)
  all_goals
   have hfk := fk (by ((try simp only [nc] at *); omega)) hk.2.1
   refine hI ?_
   cbv
   clear hI hI2 ek fk nk
   simp [hfk]
 ·cbv
  repeat' (first
   | (refine ⟨fun _ h_s => ?_, fun _ h_s => ?_⟩ <;> (cbv; (try simp only [nc] at *); try simp (disch := (first | omega | (simp only [lnS, zA, zM, zG, zP]; omega))) only [nc, nct, w64_of, zT, zZ, zM, rdS, at_agg, bofZ, bof1, bof0, zC, zS, reduceCtorEq, Bool.not_true, Bool.not_false, zD, zE, zB, zF, zN, zO, ne_eq, zQ, zL, zR, beq_iff_eq] at h_s))
   | (refine hF ?_; intro _; clear hF)
   | (refine hF ?_; cbv; clear hF)
   | (refine ⟨fun _ => ?_, ?_⟩; (· ((try simp only [nc] at *); first | done | omega | exact ⟨by omega, rfl⟩ | (simp (disch := (first | omega | (simp only [lnS, zA, zM, zG, zP]; omega))) only [nc, nct, w64_of, zT, zZ, zM, rdS, at_agg, bofZ, bof1, bof0, zC, zS]; first | done | omega | rfl | exact ⟨by omega, rfl⟩ | (simp; done) | (simp; omega)) | (intros; trivial))); (try (simp only [nc] at *)); (try simp (disch := (first | omega | (simp only [lnS, zA, zM, zG, zP]; omega))) only [nc, nct, w64_of, zT, zZ, zM, rdS, at_agg, bofZ, bof1, bof0, zC, zS]); (try cbv))
   | fail
  )
  rw [w64_of (by omega) (by omega)]
end Go.AL.Rl

namespace Go.AL.Rl
open Go Go.AL Go.Proofs
set_option maxRecDepth 100000
set_option maxHeartbeats 1600000
variable {γ : Nat → Option AV}

theorem count_ok (g : Gr) (hg : Rd g) : Pure Tryz.prog γ false 10 [aGr g] (.i fun _ => NG g) := by
 by_cases h : GOk g
 ·unfold NG
  rw [if_pos h]
  have hc := gcheck0 h
  have hsh := h.short
  have hin := hsh.init
  have hth := hsh.th
  obtain ⟨S, hS⟩ : ∃ S : Nat → Nat, ∀ t, S t = g.init.length + (evsT g t).length := ⟨_, fun _ => rfl⟩
  have z : S 0 = g.init.length := by rw [hS]; simp [evsT]
  have st : ∀ t, S (t + 1) = S t + (g.th.getD t []).length := fun t => by rw [hS, hS, evsT_succ, List.length_append]; omega
  have bd : ∀ t, S t ≤ 6 + 14 * t := fun t => by rw [hS]; have := evsT_len hsh t; omega
  have en : S g.th.length = nG g := by rw [hS, nG, idsG_len, evsG, List.length_append, evsI_len]
  refine Pure.go (ty := ty) ty_eq mo Tryz.func10 rfl Tryz.ntmps10 Tryz.results10 Tryz.call10 (by simp) fun P C CQ D W F E hF => ?_
  cbv
  repeat' (first
   | (refine E.c (SCalls.of_le (check14_ok g hg) ?_ ?_); (· (cbv; (try simp only [nc] at *); first | done | (simp; done) | (simp (disch := (first | omega | (simp only [lnS, zA, zM, zG, zP]; omega))) only [nc, nct, w64_of, zT, zZ, zM, rdS, at_agg, bofZ, bof1, bof0, zC, zS, implies_true, and_true, true_and, forall_const]; first | done | omega | (refine ⟨?_, ?_⟩ <;> omega)) | (simp (disch := (first | omega | (simp only [lnS, zA, zM, zG, zP]; omega))) [nc, nct, w64_of, zT, zZ, zM, rdS, at_agg, bofZ, bof1, bof0, zC, zS]; done))); cbv)
   | (refine ⟨fun _ h_s => ?_, fun _ h_s => ?_⟩ <;> (cbv; (try simp only [nc] at *); try simp (disch := (first | omega | (simp only [lnS, zA, zM, zG, zP]; omega))) only [nc, nct, w64_of, zT, zZ, zM, rdS, at_agg, bofZ, bof1, bof0, zC, zS, reduceCtorEq, Bool.not_true, Bool.not_false, zD, zE, zB, zF, zN, zO, ne_eq, zQ, zL, zR, beq_iff_eq] at h_s))
   | (refine hF ?_; intro _; clear hF)
   | (refine hF ?_; cbv; clear hF)
   | (refine ⟨fun _ => ?_, ?_⟩; (· ((try simp only [nc] at *); first | done | omega | exact ⟨by omega, rfl⟩ | (simp (disch := (first | omega | (simp only [lnS, zA, zM, zG, zP]; omega))) only [nc, nct, w64_of, zT, zZ, zM, rdS, at_agg, bofZ, bof1, bof0, zC, zS]; first | done | omega | rfl | exact ⟨by omega, rfl⟩ | (simp; done) | (simp; omega)) | (intros; trivial))); (try (simp only [nc] at *)); (try simp (disch := (first | omega | (simp only [lnS, zA, zM, zG, zP]; omega))) only [nc, nct, w64_of, zT, zZ, zM, rdS, at_agg, bofZ, bof1, bof0, zC, zS]); (try cbv))
   | fail
  )
  ·simp [hc] at *
  refine E.loopS (ι := Nat) (fun k => k ≤ g.th.length) (fun k => g.th.length - k) (fun k => [(4, .i fun _ => ((k : Nat) : Int)), (3, .i fun _ => (S k : Int))]) (fun k h => h) 0 (fun _ => by first | rfl | simp) (Nat.zero_le _) ?_ fun k hk I2 hI2 => ?_
  ·cbv; simp [z]
  cbv
  have hgt := hsh.at k
  have bk := bd k
  have sk := st k
  repeat' (first
   | (refine hI2 (k + 1) ?_ ?_ ?_; rotate_left 1; (· ((try simp only [nc] at *); omega)); (cbv; clear hI2; (try clear hF); (try simp only [nc] at *); (try simp (disch := (first | omega | (simp only [lnS, zA, zM, zG, zP]; omega))) only [nc, nct, w64_of, zT, zZ, zM, rdS, at_agg, bofZ, bof1, bof0, zC, zS, implies_true, and_true, true_and, forall_const])); rotate_left 1; (try ((try simp only [nc] at *); omega)))
   | (refine ⟨fun _ h_s => ?_, fun _ h_s => ?_⟩ <;> (cbv; (try simp only [nc] at *); try simp (disch := (first | omega | (simp only [lnS, zA, zM, zG, zP]; omega))) only [nc, nct, w64_of, zT, zZ, zM, rdS, at_agg, bofZ, bof1, bof0, zC, zS, reduceCtorEq, Bool.not_true, Bool.not_false, zD, zE, zB, zF, zN, zO, ne_eq, zQ, zL, zR, beq_iff_eq] at h_s))
   | (refine hF ?_; intro _; clear hF)
   | (refine hF ?_; cbv; clear hF)
   | (refine ⟨fun _ => ?_, ?_⟩; (· ((try simp only [nc] at *); first | done | omega | exact ⟨by omega, rfl⟩ | (simp (disch := (first | omega | (simp only [lnS, zA, zM, zG, zP]; omega))) only [nc, nct, w64_of, zT, zZ, zM, rdS, at_agg, bofZ, bof1, bof0, zC, zS]; first | done | omega | rfl | exact ⟨by omega, rfl⟩ | (simp; done) | (simp; omega)) | (intros; trivial))); (try (simp only [nc] at *)); (try simp (disch := (first | omega | (simp only [lnS, zA, zM, zG, zP]; omega))) only [nc, nct, w64_of, zT, zZ, zM, rdS, at_agg, bofZ, bof1, bof0, zC, zS]); (try cbv))
   | fail
  )
  ·refine ⟨?_, ?_⟩ <;> omega
  ·have e : k = g.th.length := by ((try simp only [nc] at *); omega)
   rw [e, en]
 ·have hc : gcheckM g ≠ 0 := by unfold gcheckM; split <;> simp [h]
  unfold NG
  rw [if_neg h]
  refine Pure.go (ty := ty) ty_eq mo Tryz.func10 rfl Tryz.ntmps10 Tryz.results10 Tryz.call10 (by simp) fun P C CQ D W F E hF => ?_
  cbv
  refine E.c (SCalls.of_le (check14_ok g hg) ?_ ?_)
  ·(cbv; (try simp only [nc] at *); first | done | (simp; done) | (simp (disch := (first | omega | (simp only [lnS, zA, zM, zG, zP]; omega))) only [nc, nct, w64_of, zT, zZ, zM, rdS, at_agg, bofZ, bof1, bof0, zC, zS, implies_true, and_true, true_and, forall_const]; first | done | omega | (refine ⟨?_, ?_⟩ <;> omega)) | (simp (disch := (first | omega | (simp only [lnS, zA, zM, zG, zP]; omega))) [nc, nct, w64_of, zT, zZ, zM, rdS, at_agg, bofZ, bof1, bof0, zC, zS]; done))
  cbv
  refine br_t (by simpa using hc) ?_
  cbv
  refine hF ?_
  cbv
  simp
end Go.AL.Rl

namespace Go.AL.Rl
open Go Go.AL Go.Proofs
set_option maxRecDepth 100000

theorem plus_self {n : Nat} {rows : List (BitVec 64)} (hf : Fits n rows) (h : ∀ i k j, bit rows i k = true → bit rows k j = true → bit rows i j = true) : plusM n rows = rows :=
 fits_ext (fits_plus hf) hf fun i j => ⟨fun hb => plus_least (fun i j => bit rows i j = true) (fun _ _ h => h) h hb, plus_edge⟩
theorem plus_idem {n : Nat} {rows : List (BitVec 64)} (hf : Fits n rows) : plusM n (plusM n rows) = plusM n rows :=
 plus_self (fits_plus hf) fun _ _ _ h1 h2 => plus_trans hf h1 h2
theorem bit_orM {n : Nat} {l : List RelV} (i j : Nat) : bit (orM n l) i j = true ↔ i < n ∧ ∃ r ∈ l, bit r.2 i j = true := by
 rw [orM, bit_tab, Bool.and_eq_true, decide_eq_true_eq, or_bit]
theorem bit_relI {n : Nat} (hn : n ≤ 62) (p : Nat → Nat → Bool) (i j : Nat) : bit (relRows n p) i j = true ↔ i < n ∧ j < n ∧ p i j = true := by
 rw [bit_rel (by omega)]; simp
theorem fits_orP (V : Vw) {n : Nat} (hn : n ≤ 62) : Fits n (orM n [((n : Int), rfF V n), ((n : Int), coF V n), ((n : Int), frF V n)]) :=
 fits_or (by omega) (by simp [fits_rfF V hn, fits_coF V hn, fits_frF V hn])
theorem plus_porf (V : Vw) {n : Nat} (hn : n ≤ 62) : plusM n (porfF V n) = porfF V n := plus_idem (fits_or2 (fits_poF V hn) (fits_rfF V hn))
theorem plus_hb (V : Vw) {n : Nat} (hn : n ≤ 62) : plusM n (hbF V n) = hbF V n := plus_idem (fits_or2 (fits_poF V hn) (fits_swF V hn))
end Go.AL.Rl

namespace Go.AL.Rl
open Go Go.AL Go.Proofs
set_option maxRecDepth 100000

theorem notFence_w {e : Ev} (h : writesM e = true) : fenceM e = false := by
 unfold writesM at h; unfold fenceM
 simp only [Bool.or_eq_true, decide_eq_true_eq, decide_eq_false_iff_not] at *
 omega
theorem near_of {V : Vw} {a b : Nat} (h1 : fenceM (V.ev.getD a ev0) = false) (h2 : fenceM (V.ev.getD b ev0) = false) (h : (V.ev.getD a ev0).loc = (V.ev.getD b ev0).loc) : nearM V a b = true := by
 unfold nearM
 simp only [h1, h2, Bool.not_false, Bool.true_and, decide_eq_true_eq]
 exact h
theorem event_init {g : Gr} {d : EId} {e : Ev} (h : eventM g d = some e) (h0 : d.t = 0) : e.kind = 2 ∧ e.loc = d.i ∧ 0 ≤ d.i := by
 unfold eventM at h
 rw [if_pos h0] at h
 split at h
 ·rename_i hc
  cases h
  exact ⟨rfl, rfl, hc.1⟩
 ·cases h
theorem event_fine {g : Gr} (hg : GOk g) {d : EId} {e : Ev} (h : eventM g d = some e) (h0 : d.t ≠ 0) : fineM g.init.length e = true := by
 unfold eventM at h
 rw [if_neg h0] at h
 split at h
 ·rename_i hc
  cases h
  exact (hg.events (d.t - 1).toNat (by omega)).2 d.i.toNat (by omega)
 ·cases h
theorem fine_loc {n : Int} {e : Ev} (h : fineM n e = true) (hk : fenceM e = false) : 0 ≤ e.loc ∧ e.loc < n := by
 unfold fineM at h; unfold fenceM at hk
 simp only [Bool.and_eq_true, decide_eq_true_eq, decide_eq_false_iff_not] at *
 have := h.2
 rw [if_neg hk] at this
 simpa using this
/-- each write of a thread stands in its location's order -/
theorem ord_has {g : Gr} (hg : GOk g) {x : Nat} {d : EId} (h : isW g x d = true) : d ∈ g.ord.getD x [] := by
 have hp := (orders_perm hg.lord hg.events).1 hg.orders
 have := hp.symm.subset ((isW_mem g x d).1 h)
 unfold qsT at this
 simp only [List.mem_flatMap, List.mem_range, List.mem_map] at this
 obtain ⟨k, hk, d', hd, he⟩ := this
 obtain ⟨rfl, h2⟩ := Prod.mk.inj he
 have : k = x := by omega
 subst this
 exact hd
theorem isW_of {g : Gr} {d : EId} {e : Ev} (h : eventM g d = some e) (h0 : d.t ≠ 0) (hw : writesM e = true) (x : Int) (hx : e.loc = x) : isW g x d = true := by
 unfold isW
 rw [h]
 simp [h0, hw, hx]
theorem pl_write {g : Gr} (hg : GOk g) {d : EId} {e : Ev} (h : eventM g d = some e) (hw : writesM e = true) :
  d.t = 0 ∧ plOf g d = 0 ∨ d.t ≠ 0 ∧ ∃ k : Nat, plOf g d = k + 1 ∧ k < (g.ord.getD e.loc.toNat []).length ∧ (g.ord.getD e.loc.toNat []).getD k id0 = d := by
 by_cases h0 : d.t = 0
 ·exact .inl ⟨h0, by unfold plOf; rw [if_pos h0]⟩
 ·refine .inr ⟨h0, ?_⟩
  have hl := fine_loc (event_fine hg h h0) (notFence_w hw)
  have hm := ord_has hg (x := e.loc.toNat) (isW_of h h0 hw _ (by omega))
  have hf := numOf_find hm
  refine ⟨numOf (g.ord.getD e.loc.toNat []) d, ?_, numOf_lt hm, numOf_get hm⟩
  unfold plOf
  rw [if_neg h0, h, Option.getD_some, hf]
theorem pl_other {g : Gr} (hg : GOk g) {d : EId} {e : Ev} (h : eventM g d = some e) (hw : writesM e = false) : plOf g d = -1 := by
 have h0 : d.t ≠ 0 := fun h0 => by
  obtain ⟨hk, _⟩ := event_init h h0
  unfold writesM at hw
  simp [hk] at hw
 unfold plOf
 rw [if_neg h0, h, Option.getD_some]
 split
 ·rename_i k hk
  exfalso
  rw [List.findIdx?_eq_some_iff_getElem] at hk
  obtain ⟨h1, h2, _⟩ := hk
  have hm := List.getElem_mem h1
  simp only [decide_eq_true_eq] at h2
  rw [h2] at hm
  have hx : e.loc.toNat < g.init.length := by
   rcases Nat.lt_or_ge e.loc.toNat g.ord.length with hc | hc
   ·rw [← hg.lord]; exact hc
   ·rw [List.getD_eq_getElem?_getD, List.getElem?_eq_none hc] at hm; simp at hm
  obtain ⟨_, q2, _⟩ := (ordered_iff g e.loc.toNat).1 (hg.orders _ hx)
  obtain ⟨e', he', _, hw', _⟩ := isW_event (q2 _ hm)
  rw [h] at he'
  cases he'
  rw [hw] at hw'; cases hw'
 ·rfl
theorem vev {g : Gr} (_ : GOk g) (i : Nat) (hi : i < nG g) : eventM g ((idsG g).getD i id0) = some ((viewG g).ev.getD i ev0) := evsG_get g i hi
theorem vpl {g : Gr} (_ : GOk g) (i : Nat) (hi : i < nG g) : (viewG g).pl.getD i 0 = plOf g ((idsG g).getD i id0) := tabI_get _ _ _ hi
theorem vfr {g : Gr} (_ : GOk g) (i : Nat) (hi : i < nG g) : (viewG g).fr.getD i 0 = frOf g ((idsG g).getD i id0) := tabI_get _ _ _ hi
theorem init_reads {g : Gr} {d : EId} {e : Ev} (h : eventM g d = some e) (h0 : d.t = 0) : readsM e = false := by
 obtain ⟨hk, _⟩ := event_init h h0
 unfold readsM; rw [hk]; rfl
section
variable {g : Gr} (hg : GOk g)
include hg
theorem pl_iff (i : Nat) (hi : i < nG g) : 0 ≤ (viewG g).pl.getD i 0 ↔ writesM ((viewG g).ev.getD i ev0) = true := by
 rw [vpl hg i hi]
 constructor
 ·intro h
  cases hw : writesM ((viewG g).ev.getD i ev0) with
  | true => rfl
  | false => rw [pl_other hg (vev hg i hi) hw] at h; omega
 ·intro h
  rcases pl_write hg (vev hg i hi) h with ⟨_, h2⟩ | ⟨_, k, h2, _⟩ <;> omega
theorem fr_iff (i : Nat) (hi : i < nG g) : 0 ≤ (viewG g).fr.getD i 0 ↔ readsM ((viewG g).ev.getD i ev0) = true := by
 rw [vfr hg i hi]
 have he := vev hg i hi
 unfold frOf
 split
 ·rename_i h0
  rw [init_reads he h0]
  constructor
  ·intro h; omega
  ·intro h; cases h
 ·rw [he, Option.getD_some]
  split
  ·rename_i h; simp only [h, iff_true]; omega
  ·rename_i h; simp only [h, Bool.false_eq_true, iff_false]; omega
end
theorem mod2_bit (x : BitVec 64) (i : Nat) : (x >>> i) % BitVec.ofInt 64 2 = 1#64 ↔ x.getLsbD i = true := by
 rw [← BitVec.toNat_inj, BitVec.toNat_umod, BitVec.toNat_ushiftRight, BitVec.getLsbD, Nat.testBit_eq_decide_div_mod_eq, decide_eq_true_eq, Nat.shiftRight_eq_div_pow]
 rfl
end Go.AL.Rl

namespace Go.AL.Rl
open Go Go.AL Go.Proofs
set_option maxRecDepth 100000
set_option maxHeartbeats 1600000

theorem low_bit (m : BitVec 64) (c : Nat) (h1 : m.getLsbD c = true) (h2 : ∀ j < c, m.getLsbD j = false) (j : Nat) : (m &&& (m - 1#64)).getLsbD j = (m.getLsbD j && decide (j ≠ c)) := by
 rw [BitVec.getLsbD_and]
 have hN : m.toNat < 2 ^ 64 := m.isLt
 have hmod : m.toNat % 2 ^ c = 0 := by
  apply Nat.eq_of_testBit_eq
  intro i
  rw [Nat.testBit_mod_two_pow, Nat.zero_testBit]
  by_cases hi : i < c
  ·have := h2 i hi
   unfold BitVec.getLsbD at this
   simp [this]
  ·simp [hi]
 obtain ⟨a, ha⟩ : ∃ a, m.toNat = 2 ^ c * a := ⟨m.toNat / 2 ^ c, by have := Nat.div_add_mod m.toNat (2 ^ c); omega⟩
 have hp : 0 < 2 ^ c := Nat.pos_of_ne_zero (by simp)
 have ha1 : a.testBit 0 = true := by
  have : m.toNat.testBit c = true := h1
  rw [ha, Nat.testBit_two_pow_mul] at this
  simpa using this
 have hodd : a % 2 = 1 := by simpa using ha1
 have hpos : 1 ≤ a := by omega
 have hm1 : (m - 1#64).toNat = 2 ^ c * (a - 1) + (2 ^ c - 1) := by
  have e1 : 1 ≤ m.toNat := by rw [ha]; exact Nat.le_trans hp (Nat.le_mul_of_pos_right _ hpos)
  have e2 : (m - 1#64).toNat = m.toNat - 1 := by
   rw [BitVec.toNat_sub]
   simp only [BitVec.toNat_ofNat]
   omega
  rw [e2, ha]
  have e3 : 2 ^ c * a = 2 ^ c * (a - 1) + 2 ^ c := by
   conv => lhs; rw [show a = (a - 1) + 1 by omega]
   rw [Nat.mul_add, Nat.mul_one]
  omega
 have hb : (m - 1#64).getLsbD j = if j < c then true else (a - 1).testBit (j - c) := by
  unfold BitVec.getLsbD
  rw [hm1, Nat.testBit_two_pow_mul_add _ (by omega)]
  by_cases hj : j < c
  ·rw [if_pos hj, if_pos hj, Nat.testBit_two_pow_sub_one]; simp [hj]
  ·rw [if_neg hj, if_neg hj]
 have hmb : m.getLsbD j = if j < c then false else a.testBit (j - c) := by
  unfold BitVec.getLsbD
  rw [ha, Nat.testBit_two_pow_mul]
  by_cases hj : j < c
  ·simp [hj]; omega
  ·simp [hj]; omega
 rw [hb, hmb]
 by_cases hj : j < c
 ·simp [hj]
 ·rw [if_neg hj, if_neg hj]
  by_cases e : j = c
  ·subst e; simp; omega
  ·have hd : a / 2 = (a - 1) / 2 := by omega
   have e3 : (a - 1).testBit (j - c) = a.testBit (j - c) := by
    obtain ⟨q, hq⟩ : ∃ q, j - c = q + 1 := ⟨j - c - 1, by omega⟩
    rw [hq, Nat.testBit_succ, Nat.testBit_succ, hd]
   rw [e3]
   simp [e]
/-- what is ahead of a mask, with it -/
def growM (n : Nat) (rows : List (BitVec 64)) (m : BitVec 64) : BitVec 64 := m ||| imageM n (plusM n rows) m
theorem grow_bit {n : Nat} {rows : List (BitVec 64)} (hf : Fits n rows) (m : BitVec 64) (j : Nat) : (growM n rows m).getLsbD j = true ↔ m.getLsbD j = true ∨ ∃ p, m.getLsbD p = true ∧ bit (plusM n rows) p j = true := by
 unfold growM
 rw [BitVec.getLsbD_or, Bool.or_eq_true, bit_image (fits_plus hf)]
theorem grow_closed {n : Nat} {rows : List (BitVec 64)} (hf : Fits n rows) (m : BitVec 64) {p j : Nat} (h1 : (growM n rows m).getLsbD p = true) (h2 : bit rows p j = true) : (growM n rows m).getLsbD j = true := by
 rw [grow_bit hf] at h1 ⊢
 rcases h1 with h1 | ⟨q, h3, h4⟩
 ·exact .inr ⟨p, h1, plus_edge h2⟩
 ·exact .inr ⟨q, h3, plus_trans hf h4 (plus_edge h2)⟩
theorem grow_least {n : Nat} {rows : List (BitVec 64)} (hf : Fits n rows) {m s : BitVec 64} (h1 : ∀ j, m.getLsbD j = true → s.getLsbD j = true) (h2 : ∀ p j, s.getLsbD p = true → bit rows p j = true → s.getLsbD j = true) {j : Nat} (h : (growM n rows m).getLsbD j = true) : s.getLsbD j = true := by
 rw [grow_bit hf] at h
 rcases h with h | ⟨p, h3, h4⟩
 ·exact h1 j h
 ·exact plus_least (fun a b => s.getLsbD a = true → s.getLsbD b = true) (fun a b hab ha => h2 a b ha hab) (fun a b c hab hbc ha => hbc (hab ha)) h4 (h1 p h3)
theorem grow_unique {n : Nat} {rows : List (BitVec 64)} (hf : Fits n rows) {m s : BitVec 64} (h0 : ∀ j, m.getLsbD j = true → s.getLsbD j = true) (h1 : ∀ j, s.getLsbD j = true → (growM n rows m).getLsbD j = true) (h2 : s ||| imageM n rows s = s) : s = growM n rows m := by
 apply BitVec.eq_of_getLsbD_eq
 intro j _
 rw [Bool.eq_iff_iff]
 refine ⟨h1 j, grow_least hf h0 fun p j hp hb => ?_⟩
 rw [← h2, BitVec.getLsbD_or, Bool.or_eq_true]
 exact .inr ((bit_image hf _ _).2 ⟨p, hp, hb⟩)
theorem grow_step {n : Nat} {rows : List (BitVec 64)} (hf : Fits n rows) {m s : BitVec 64} (h1 : ∀ j, s.getLsbD j = true → (growM n rows m).getLsbD j = true) : ∀ j, (s ||| imageM n rows s).getLsbD j = true → (growM n rows m).getLsbD j = true := fun j hj => by
 rw [BitVec.getLsbD_or, Bool.or_eq_true] at hj
 rcases hj with hj | hj
 ·exact h1 j hj
 ·obtain ⟨p, hp, hb⟩ := (bit_image hf _ _).1 hj
  exact grow_closed hf m (h1 p hp) hb
/-- what a mask tells, in order -/
def tellM (L : List EId) (m : BitVec 64) : List EId := ((List.range 64).filter fun k => m.getLsbD k).map fun k => L.getD k id0
theorem filter_low (p q : Nat → Bool) (c N : Nat) (hc : c < N) (h1 : p c = true) (h2 : ∀ j < c, p j = false) (h3 : ∀ j, q j = (p j && decide (j ≠ c))) : (List.range N).filter p = c :: (List.range N).filter q := by
 obtain ⟨d, rfl⟩ : ∃ d, N = c + 1 + d := ⟨N - (c + 1), by omega⟩
 have e1 : List.range (c + 1 + d) = List.range c ++ c :: (List.range d).map (fun x => c + 1 + x) := by
  rw [List.range_add, List.range_succ, List.append_assoc]; rfl
 rw [e1, List.filter_append, List.filter_append]
 have hz : ∀ r : Nat → Bool, (∀ j < c, r j = false) → (List.range c).filter r = [] := fun r hr => by
  rw [List.filter_eq_nil_iff]
  intro j hj
  rw [hr j (by simpa using hj)]; simp
 rw [hz p h2, hz q fun j hj => by rw [h3, h2 j hj]; rfl, List.nil_append, List.nil_append, List.filter_cons_of_pos h1, List.filter_cons_of_neg (by rw [h3]; simp)]
 congr 1
 apply List.filter_congr
 intro j hj
 obtain ⟨x, _, rfl⟩ := List.mem_map.1 hj
 rw [h3]
 simp
 omega
theorem tell_step (L : List EId) (m : BitVec 64) (c : Nat) (hc : c < 64) (h1 : m.getLsbD c = true) (h2 : ∀ j < c, m.getLsbD j = false) : tellM L m = L.getD c id0 :: tellM L (m &&& (m - 1#64)) := by
 unfold tellM
 rw [filter_low (fun k => m.getLsbD k) (fun k => (m &&& (m - 1#64)).getLsbD k) c 64 hc h1 h2 fun j => low_bit m c h1 h2 j]
 rfl
theorem tell_zero (L : List EId) : tellM L 0#64 = [] := by unfold tellM; simp
theorem tell_len (L : List EId) (m : BitVec 64) : (tellM L m).length ≤ 64 := by
 unfold tellM
 rw [List.length_map]
 exact Nat.le_trans (List.length_filter_le _ _) (by simp)
end Go.AL.Rl

namespace Go.AL.Rl
open Go Go.AL Go.Proofs
set_option maxRecDepth 100000
set_option maxHeartbeats 1600000
variable {γ : Nat → Option AV}

def backF (V : Vw) (n : Nat) : List (BitVec 64) := turnM (orM n [((n : Int), poF V n), ((n : Int), rfF V n)])
theorem backF_fits (V : Vw) {n : Nat} (hn : n ≤ 62) : Fits n (backF V n) := fits_turn (fits_or2 (fits_poF V hn) (fits_rfF V hn))
abbrev aPv (g : Gr) (L : List EId) (n : Int) (rows : List (BitVec 64)) : AV := .agg [.vs 1 fun _ => is g.init, .vs 1 fun _ => evss g.th, .vs 1 fun _ => idss g.fr, .vs 1 fun _ => idss g.ord, .vs 2 fun _ => ids L, .i fun _ => n, .vs 1 fun _ => us rows]
def numI (l : List EId) (d : EId) : Int := match l.findIdx? (fun x => decide (x = d)) with | some k => (k : Nat) | none => -1
theorem numI_at {l : List EId} {d : EId} {k : Nat} (hk : k < l.length) (h : l.getD k id0 = d) (hb : ∀ j < k, l.getD j id0 ≠ d) : numI l d = k := by
 have e : l.findIdx? (fun x => decide (x = d)) = some k := by
  rw [List.findIdx?_eq_some_iff_getElem]
  refine ⟨hk, by simpa [hk] using h, fun j hj => ?_⟩
  have := hb j hj
  have hj' : j < l.length := by omega
  simpa [hj'] using this
 unfold numI; rw [e]
theorem numI_no {l : List EId} {d : EId} (hb : ∀ j < l.length, l.getD j id0 ≠ d) : numI l d = -1 := by
 have e : l.findIdx? (fun x => decide (x = d)) = none := by
  rw [List.findIdx?_eq_none_iff]
  intro x hx
  obtain ⟨j, hj, rfl⟩ := List.getElem_of_mem hx
  have := hb j hj
  simpa [hj] using this
 unfold numI; rw [e]
theorem numI_lt (l : List EId) (d : EId) : -1 ≤ numI l d ∧ numI l d < l.length := by
 unfold numI
 cases h : l.findIdx? (fun x => decide (x = d)) with
 | none => simp; omega
 | some k =>
  have := (List.findIdx?_eq_some_iff_getElem.1 h).1
  simp only; omega
theorem index_ok (l : List EId) (d : EId) (hl : (l.length : Int) ≤ 9223372036854775807) : Pure Tryz.prog γ false 34 [.vs 2 fun _ => ids l, aId d] (.i fun _ => numI l d) := by
 refine Pure.go (ty := ty) ty_eq mo Tryz.func34 rfl Tryz.ntmps34 Tryz.results34 Tryz.call34 (by simp) fun P C CQ D W F E hF => ?_
 cbv
 repeat' (first
  | (refine ⟨fun _ h_s => ?_, fun _ h_s => ?_⟩ <;> (cbv; (try simp only [nc] at *); try simp (disch := (first | omega | (simp only [lnS, zA, zM, zG, zP]; omega))) only [nc, nct, w64_of, zT, zZ, zM, rdS, at_agg, bofZ, bof1, bof0, zC, zS, reduceCtorEq, Bool.not_true, Bool.not_false, zD, zE, zB, zF, zN, zO, ne_eq, zQ, zL, zR, beq_iff_eq] at h_s))
  | (refine hF ?_; intro _; clear hF)
  | (refine hF ?_; cbv; clear hF)
  | (refine ⟨fun _ => ?_, ?_⟩; (· ((try simp only [nc] at *); first | done | omega | exact ⟨by omega, rfl⟩ | (simp (disch := (first | omega | (simp only [lnS, zA, zM, zG, zP]; omega))) only [nc, nct, w64_of, zT, zZ, zM, rdS, at_agg, bofZ, bof1, bof0, zC, zS]; first | done | omega | rfl | exact ⟨by omega, rfl⟩ | (simp; done) | (simp; omega)) | (intros; trivial))); (try (simp only [nc] at *)); (try simp (disch := (first | omega | (simp only [lnS, zA, zM, zG, zP]; omega))) only [nc, nct, w64_of, zT, zZ, zM, rdS, at_agg, bofZ, bof1, bof0, zC, zS]); (try cbv))
  | (refine E.d 5 (by decide +kernel) ?_; cbv; (fail_if_success guard_target =~ False))
  | fail
 )
 refine E.loopS (ι := Nat) (fun i => i ≤ l.length ∧ (∀ k < i, l.getD k id0 ≠ d)) (fun i => l.length - i) (fun i => [(8, .i fun _ => ((i : Nat) : Int))]) (fun i h => h) 0 (fun _ => by first | rfl | simp) ⟨Nat.zero_le _, ?_⟩ ?_ fun i hi I hI => ?_
 ·intro k hk; omega
 ·cbv; simp
 cbv
 obtain ⟨hi, hp⟩ := hi
 repeat' (first
  | (refine hI (i + 1) ?_ ?_ ?_; rotate_left 1; (· ((try simp only [nc] at *); omega)); (cbv; clear hI; (try clear hF); (try simp only [nc] at *); (try simp (disch := (first | omega | (simp only [lnS, zA, zM, zG, zP]; omega))) only [nc, nct, w64_of, zT, zZ, zM, rdS, at_agg, bofZ, bof1, bof0, zC, zS, implies_true, and_true, true_and, forall_const])); rotate_left 1; (try ((try simp only [nc] at *); omega)))
  | (refine ⟨fun _ h_s => ?_, fun _ h_s => ?_⟩ <;> (cbv; (try simp only [nc] at *); try simp (disch := (first | omega | (simp only [lnS, zA, zM, zG, zP]; omega))) only [nc, nct, w64_of, zT, zZ, zM, rdS, at_agg, bofZ, bof1, bof0, zC, zS, reduceCtorEq, Bool.not_true, Bool.not_false, zD, zE, zB, zF, zN, zO, ne_eq, zQ, zL, zR, beq_iff_eq] at h_s))
  | (refine hF ?_; intro _; clear hF)
  | (refine hF ?_; cbv; clear hF)
  | (refine ⟨fun _ => ?_, ?_⟩; (· ((try simp only [nc] at *); first | done | omega | exact ⟨by omega, rfl⟩ | (simp (disch := (first | omega | (simp only [lnS, zA, zM, zG, zP]; omega))) only [nc, nct, w64_of, zT, zZ, zM, rdS, at_agg, bofZ, bof1, bof0, zC, zS]; first | done | omega | rfl | exact ⟨by omega, rfl⟩ | (simp; done) | (simp; omega)) | (intros; trivial))); (try (simp only [nc] at *)); (try simp (disch := (first | omega | (simp only [lnS, zA, zM, zG, zP]; omega))) only [nc, nct, w64_of, zT, zZ, zM, rdS, at_agg, bofZ, bof1, bof0, zC, zS]); (try cbv))
  | (refine E.d 5 (by decide +kernel) ?_; cbv; (fail_if_success guard_target =~ False))
  | fail
 )
 ·simp only [Bool.and_true, Bool.and_eq_true, decide_eq_true_eq] at h_s
  have he : l.getD i id0 = d := (EId.ext' h_s.1 h_s.2).symm
  exact (numI_at (by ((try simp only [nc] at *); omega)) he hp).symm
 ·refine ⟨by ((try simp only [nc] at *); omega), fun k hk => ?_⟩
  rcases Nat.lt_or_ge k i with h1 | h1
  ·exact hp k h1
  ·obtain rfl : k = i := by omega
   intro e
   rw [← e] at h_s
   simp at h_s
 ·push_cast; rfl
 ·have e : i = l.length := by ((try simp only [nc] at *); omega)
  subst e
  exact (numI_no hp).symm
def bitP (L : List EId) (x : Nat) (d : EId) : BitVec 64 := if numI L d < x then 0#64 else 1#64 <<< (numI L d).toNat
theorem pbit_ok (g : Gr) (L : List EId) (n : Int) (rows : List (BitVec 64)) (d : EId) (hL : L.length ≤ 62) : Pure Tryz.prog γ false 19 [aPv g L n rows, aId d] (.u fun _ => bitP L g.init.length d) := by
 have kx := index_ok (γ := γ) L d (by omega)
 have hb := numI_lt L d
 unfold bitP
 generalize numI L d = k at *
 refine Pure.go (ty := ty) ty_eq mo Tryz.func19 rfl Tryz.ntmps19 Tryz.results19 Tryz.call19 (by simp) fun P C CQ D W F E hF => ?_
 cbv
 repeat' (first
  | (refine E.c (SCalls.of_le (kx) ?_ ?_); (· (cbv; (try simp only [nc] at *); first | done | (simp; done) | (simp (disch := (first | omega | (simp only [lnS, zA, zM, zG, zP]; omega))) only [nc, nct, w64_of, zT, zZ, zM, rdS, at_agg, bofZ, bof1, bof0, zC, zS, implies_true, and_true, true_and, forall_const]; first | done | omega | (refine ⟨?_, ?_⟩ <;> omega)) | (simp (disch := (first | omega | (simp only [lnS, zA, zM, zG, zP]; omega))) [nc, nct, w64_of, zT, zZ, zM, rdS, at_agg, bofZ, bof1, bof0, zC, zS]; done))); cbv)
  | (refine ⟨fun _ h_s => ?_, fun _ h_s => ?_⟩ <;> (cbv; (try simp only [nc] at *); try simp (disch := (first | omega | (simp only [lnS, zA, zM, zG, zP]; omega))) only [nc, nct, w64_of, zT, zZ, zM, rdS, at_agg, bofZ, bof1, bof0, zC, zS, reduceCtorEq, Bool.not_true, Bool.not_false, zD, zE, zB, zF, zN, zO, ne_eq, zQ, zL, zR, beq_iff_eq] at h_s))
  | (refine hF ?_; intro _; clear hF)
  | (refine hF ?_; cbv; clear hF)
  | (refine ⟨fun _ => ?_, ?_⟩; (· ((try simp only [nc] at *); first | done | omega | exact ⟨by omega, rfl⟩ | (simp (disch := (first | omega | (simp only [lnS, zA, zM, zG, zP]; omega))) only [nc, nct, w64_of, zT, zZ, zM, rdS, at_agg, bofZ, bof1, bof0, zC, zS]; first | done | omega | rfl | exact ⟨by omega, rfl⟩ | (simp; done) | (simp; omega)) | (intros; trivial))); (try (simp only [nc] at *)); (try simp (disch := (first | omega | (simp only [lnS, zA, zM, zG, zP]; omega))) only [nc, nct, w64_of, zT, zZ, zM, rdS, at_agg, bofZ, bof1, bof0, zC, zS]); (try cbv))
  | fail
 )
 ·rw [if_pos (by assumption)]
  rfl
 ·rw [if_neg (by ((try simp only [nc] at *); omega))]
def evP (x : Nat) (m : BitVec 64) : BitVec 64 := (m >>> x) <<< x
theorem ev_bit (x : Nat) (m : BitVec 64) (j : Nat) : (evP x m).getLsbD j = (decide (x ≤ j) && m.getLsbD j) := by
 unfold evP
 rw [BitVec.getLsbD_shiftLeft, BitVec.getLsbD_ushiftRight]
 rw [Bool.eq_iff_iff]
 simp only [Bool.and_eq_true, decide_eq_true_eq, Bool.not_eq_true', decide_eq_false_iff_not]
 constructor
 ·rintro ⟨⟨h1, h2⟩, h3⟩
  rw [show x + (j - x) = j by omega] at h3
  exact ⟨by omega, h3⟩
 ·rintro ⟨h1, h2⟩
  rw [show x + (j - x) = j by omega]
  refine ⟨⟨?_, by omega⟩, h2⟩
  rcases Nat.lt_or_ge j 64 with h3 | h3
  ·exact h3
  ·rw [BitVec.getLsbD_of_ge m j h3] at h2; cases h2
theorem pevents_ok (g : Gr) (L : List EId) (n : Int) (rows : List (BitVec 64)) (m : BitVec 64) (hx : g.init.length ≤ 6) : Pure Tryz.prog γ false 35 [aPv g L n rows, .u fun _ => m] (.u fun _ => evP g.init.length m) := by
 have hbx := bofInt (k := g.init.length) (by omega)
 refine Pure.go (ty := ty) ty_eq mo Tryz.func35 rfl Tryz.ntmps35 Tryz.results35 Tryz.call35 (by simp) fun P C CQ D W F E hF => ?_
 cbv
 repeat' (first
  | (refine ⟨fun _ h_s => ?_, fun _ h_s => ?_⟩ <;> (cbv; (try simp only [nc] at *); try simp (disch := (first | omega | (simp only [lnS, zA, zM, zG, zP]; omega))) only [nc, nct, w64_of, zT, zZ, zM, rdS, at_agg, bofZ, bof1, bof0, zC, zS, reduceCtorEq, Bool.not_true, Bool.not_false, zD, zE, zB, zF, zN, zO, ne_eq, zQ, zL, zR, beq_iff_eq] at h_s))
  | (refine hF ?_; intro _; clear hF)
  | (refine hF ?_; cbv; clear hF)
  | (refine ⟨fun _ => ?_, ?_⟩; (· ((try simp only [nc] at *); first | done | omega | exact ⟨by omega, rfl⟩ | (simp (disch := (first | omega | (simp only [lnS, zA, zM, zG, zP]; omega))) only [nc, nct, w64_of, zT, zZ, zM, rdS, at_agg, bofZ, bof1, bof0, zC, zS]; first | done | omega | rfl | exact ⟨by omega, rfl⟩ | (simp; done) | (simp; omega)) | (intros; trivial))); (try (simp only [nc] at *)); (try simp (disch := (first | omega | (simp only [lnS, zA, zM, zG, zP]; omega))) only [nc, nct, w64_of, zT, zZ, zM, rdS, at_agg, bofZ, bof1, bof0, zC, zS]); (try cbv))
  | (refine E.d 10 (by decide +kernel) ?_; cbv; (fail_if_success guard_target =~ False))
  | fail
 )
 all_goals rfl
theorem pgrow_ok (hγ : γ 0 = some tabAV) (g : Gr) (L : List EId) (n : Nat) (rows : List (BitVec 64)) (m : BitVec 64) (hf : Fits n rows) : Pure Tryz.prog γ false 21 [aPv g L (n : Int) rows, .u fun _ => m] (.u fun _ => growM n rows m) := by
 have ki := fun s => image_ok (γ := γ) hγ (n : Int) rows s
 have hst := fun s => grow_step (m := m) (s := s) hf
 have hun := fun s => grow_unique (m := m) (s := s) hf
 have hg0 : ∀ j, m.getLsbD j = true → (growM n rows m).getLsbD j = true := fun j hj => (grow_bit hf m j).2 (.inl hj)
 generalize growM n rows m = G at *
 refine Pure.go (ty := ty) ty_eq mo Tryz.func21 rfl Tryz.ntmps21 Tryz.results21 Tryz.call21 (by simp) fun P C CQ D W F E hF => ?_
 cbv
 repeat' (first
  | (refine ⟨fun _ h_s => ?_, fun _ h_s => ?_⟩ <;> (cbv; (try simp only [nc] at *); try simp (disch := (first | omega | (simp only [lnS, zA, zM, zG, zP]; omega))) only [nc, nct, w64_of, zT, zZ, zM, rdS, at_agg, bofZ, bof1, bof0, zC, zS, reduceCtorEq, Bool.not_true, Bool.not_false, zD, zE, zB, zF, zN, zO, ne_eq, zQ, zL, zR, beq_iff_eq] at h_s))
  | (refine hF ?_; intro _; clear hF)
  | (refine hF ?_; cbv; clear hF)
  | (refine ⟨fun _ => ?_, ?_⟩; (· ((try simp only [nc] at *); first | done | omega | exact ⟨by omega, rfl⟩ | (simp (disch := (first | omega | (simp only [lnS, zA, zM, zG, zP]; omega))) only [nc, nct, w64_of, zT, zZ, zM, rdS, at_agg, bofZ, bof1, bof0, zC, zS]; first | done | omega | rfl | exact ⟨by omega, rfl⟩ | (simp; done) | (simp; omega)) | (intros; trivial))); (try (simp only [nc] at *)); (try simp (disch := (first | omega | (simp only [lnS, zA, zM, zG, zP]; omega))) only [nc, nct, w64_of, zT, zZ, zM, rdS, at_agg, bofZ, bof1, bof0, zC, zS]); (try cbv))
  | fail
 )
 refine E.loopS (ι := BitVec 64) (fun s => (∀ j, m.getLsbD j = true → s.getLsbD j = true) ∧ ∀ j, s.getLsbD j = true → G.getLsbD j = true) (fun s => 64 - cntB 64 s) (fun s => [(1, .u fun _ => s)]) (fun s h => h) m (fun _ => rfl) ⟨fun _ h => h, hg0⟩ ?_ fun s hs I hI => ?_
 ·cbv; simp
 cbv
 obtain ⟨hs1, hs2⟩ := hs
 have ks := ki s
 repeat' (first
  | (refine E.c (SCalls.of_le (ks) ?_ ?_); (· (cbv; (try simp only [nc] at *); first | done | (simp; done) | (simp (disch := (first | omega | (simp only [lnS, zA, zM, zG, zP]; omega))) only [nc, nct, w64_of, zT, zZ, zM, rdS, at_agg, bofZ, bof1, bof0, zC, zS, implies_true, and_true, true_and, forall_const]; first | done | omega | (refine ⟨?_, ?_⟩ <;> omega)) | (simp (disch := (first | omega | (simp only [lnS, zA, zM, zG, zP]; omega))) [nc, nct, w64_of, zT, zZ, zM, rdS, at_agg, bofZ, bof1, bof0, zC, zS]; done))); cbv)
  | (refine ⟨fun _ h_s => ?_, fun _ h_s => ?_⟩ <;> (cbv; (try simp only [nc] at *); try simp (disch := (first | omega | (simp only [lnS, zA, zM, zG, zP]; omega))) only [nc, nct, w64_of, zT, zZ, zM, rdS, at_agg, bofZ, bof1, bof0, zC, zS, reduceCtorEq, Bool.not_true, Bool.not_false, zD, zE, zB, zF, zN, zO, ne_eq, zQ, zL, zR, beq_iff_eq] at h_s))
  | (refine hF ?_; intro _; clear hF)
  | (refine hF ?_; cbv; clear hF)
  | (refine ⟨fun _ => ?_, ?_⟩; (· ((try simp only [nc] at *); first | done | omega | exact ⟨by omega, rfl⟩ | (simp (disch := (first | omega | (simp only [lnS, zA, zM, zG, zP]; omega))) only [nc, nct, w64_of, zT, zZ, zM, rdS, at_agg, bofZ, bof1, bof0, zC, zS]; first | done | omega | rfl | exact ⟨by omega, rfl⟩ | (simp; done) | (simp; omega)) | (intros; trivial))); (try (simp only [nc] at *)); (try simp (disch := (first | omega | (simp only [lnS, zA, zM, zG, zP]; omega))) only [nc, nct, w64_of, zT, zZ, zM, rdS, at_agg, bofZ, bof1, bof0, zC, zS]); (try cbv))
  | fail
 )
 ·exact hun s hs1 hs2 h_s
 ·have hsub : ∀ j, s.getLsbD j = true → (s ||| imageM n rows s).getLsbD j = true := fun j hj => by rw [BitVec.getLsbD_or, hj]; rfl
  have hne : s ≠ s ||| imageM n rows s := fun e => h_s e.symm
  have h1 := cntB_ne hsub hne
  have h2 := cntB_le (s ||| imageM n rows s) 64
  refine hI (s ||| imageM n rows s) ⟨fun j hj => hsub j (hs1 j hj), hst s hs2⟩ (by omega) ?_
  cbv
  simp
end Go.AL.Rl

namespace Go.AL.Rl
open Go Go.AL Go.Proofs
set_option maxRecDepth 100000
set_option maxHeartbeats 3200000
variable {γ : Nat → Option AV}

theorem ptell_ok (hγ : γ 0 = some tabAV) (g : Gr) (L : List EId) (n : Int) (rows : List (BitVec 64)) (mask : BitVec 64) (hL : L.length ≤ 62) (hx : g.init.length ≤ 6) (hb : ∀ j, (evP g.init.length mask).getLsbD j = true → j < L.length) :
  Pure Tryz.prog γ false 20 [aPv g L n rows, .u fun _ => mask] (.vs 2 fun _ => ids (tellM L (evP g.init.length mask))) := by
 have ke := pevents_ok (γ := γ) g L n rows mask hx
 generalize evP g.init.length mask = m0 at *
 have ktz := fun m => tz_ok (γ := γ) hγ m
 obtain ⟨T, hT⟩ : ∃ T, T = tellM L m0 := ⟨_, rfl⟩
 have hTl : T.length ≤ 64 := by rw [hT]; exact tell_len L m0
 rw [← hT]
 obtain ⟨G, hG⟩ : ∃ G : List EId → Nat, ∀ l, G l = l.length := ⟨_, fun _ => rfl⟩
 have hG0 : G [] = 0 := by rw [hG]; rfl
 refine Pure.go (ty := ty) ty_eq mo Tryz.func20 rfl Tryz.ntmps20 Tryz.results20 Tryz.call20 (by simp) fun P C CQ D W F E hF => ?_
 cbv
 repeat' (first
  | (refine E.c (SCalls.of_le (ke) ?_ ?_); (· (cbv; (try simp only [nc] at *); first | done | (simp; done) | (simp (disch := (first | omega | (simp only [lnS, zA, zM, zG, zP]; omega))) only [nc, nct, w64_of, zT, zZ, zM, rdS, at_agg, bofZ, bof1, bof0, zC, zS, implies_true, and_true, true_and, forall_const]; first | done | omega | (refine ⟨?_, ?_⟩ <;> omega)) | (simp (disch := (first | omega | (simp only [lnS, zA, zM, zG, zP]; omega))) [nc, nct, w64_of, zT, zZ, zM, rdS, at_agg, bofZ, bof1, bof0, zC, zS]; done))); cbv)
  | (refine ⟨fun _ h_s => ?_, fun _ h_s => ?_⟩ <;> (cbv; (try simp only [nc] at *); try simp (disch := (first | omega | (simp only [lnS, zA, zM, zG, zP]; omega))) only [nc, nct, w64_of, zT, zZ, zM, rdS, at_agg, bofZ, bof1, bof0, zC, zS, reduceCtorEq, Bool.not_true, Bool.not_false, zD, zE, zB, zF, zN, zO, ne_eq, zQ, zL, zR, beq_iff_eq] at h_s))
  | (refine hF ?_; intro _; clear hF)
  | (refine hF ?_; cbv; clear hF)
  | (refine ⟨fun _ => ?_, ?_⟩; (· ((try simp only [nc] at *); first | done | omega | exact ⟨by omega, rfl⟩ | (simp (disch := (first | omega | (simp only [lnS, zA, zM, zG, zP]; omega))) only [nc, nct, w64_of, zT, zZ, zM, rdS, at_agg, bofZ, bof1, bof0, zC, zS]; first | done | omega | rfl | exact ⟨by omega, rfl⟩ | (simp; done) | (simp; omega)) | (intros; trivial))); (try (simp only [nc] at *)); (try simp (disch := (first | omega | (simp only [lnS, zA, zM, zG, zP]; omega))) only [nc, nct, w64_of, zT, zZ, zM, rdS, at_agg, bofZ, bof1, bof0, zC, zS]); (try cbv))
  | (refine E.d 8 (by decide +kernel) ?_; cbv; (fail_if_success guard_target =~ False))
  | fail
 )
 refine E.w (AWP.ghostSlot 5 2 rfl (by omega) (E.loopSA (ι := BitVec 64 × List EId) (fun q => q.2 ++ tellM L q.1 = T ∧ ∀ j, q.1.getLsbD j = true → j < L.length) (fun q => cntB 64 q.1) (fun q => [(6, .u fun _ => q.1), (5, .sl 1 (G q.2) 2 (fun _ => 0) fun _ => q.2.length)]) (fun q h => h.set 1 (.run (G q.2) 2 fun _ => ids q.2)) (m0, []) (fun _ => by first | rfl | simp) ⟨by rw [hT]; rfl, hb⟩ ?_ fun q hq I hI => ?_))
 ·cbv; simp [hG0, ids, LV.of]
 obtain ⟨m, acc⟩ := q
 obtain ⟨hq1, hq2⟩ := hq
 simp only at hq1 hq2
 have hal : acc.length ≤ 64 := by have := congrArg List.length hq1; rw [List.length_append] at this; omega
 cbv
 skip
 have km := ktz m
 have hc := ctz_at m
 generalize Lib.ctz 64 m.toNat = c at *
 repeat' (first
  | (refine ⟨fun _ h_s => ?_, fun _ h_s => ?_⟩ <;> (cbv; (try simp only [nc] at *); try simp (disch := (first | omega | (simp only [lnS, zA, zM, zG, zP]; omega))) only [nc, nct, w64_of, zT, zZ, zM, rdS, at_agg, bofZ, bof1, bof0, zC, zS, reduceCtorEq, Bool.not_true, Bool.not_false, zD, zE, zB, zF, zN, zO, ne_eq, zQ, zL, zR, beq_iff_eq] at h_s))
  | (refine hF ?_; intro _; clear hF)
  | (refine hF ?_; cbv; clear hF)
  | (refine ⟨fun _ => ?_, ?_⟩; (· ((try simp only [nc] at *); first | done | omega | exact ⟨by omega, rfl⟩ | (simp (disch := (first | omega | (simp only [lnS, zA, zM, zG, zP]; omega))) only [nc, nct, w64_of, zT, zZ, zM, rdS, at_agg, bofZ, bof1, bof0, zC, zS]; first | done | omega | rfl | exact ⟨by omega, rfl⟩ | (simp; done) | (simp; omega)) | (intros; trivial) | exact ⟨by first | trivial | rfl, by first | trivial | rfl | simp, by first | trivial | simp, by simp; omega, by simp; omega, by simp [AV.flat, AV.cells, AV.one]⟩)); (try (simp only [nc] at *)); (try simp (disch := (first | omega | (simp only [lnS, zA, zM, zG, zP]; omega))) only [nc, nct, w64_of, zT, zZ, zM, rdS, at_agg, bofZ, bof1, bof0, zC, zS]); (try cbv))
  | (refine E.d 8 (by decide +kernel) ?_; cbv; (fail_if_success guard_target =~ False))
  | fail
 )
 ·have hm : m ≠ 0#64 := by simpa using h_s
  obtain ⟨c1, c2, c3⟩ := hc hm
  have hcL := hq2 c c2
  have hst := tell_step L m c c1 c2 c3
  have hlow := low_bit m c c2 c3
  repeat' (first
   | (refine E.c (SCalls.of_le (km) ?_ ?_); (· (cbv; (try simp only [nc] at *); first | done | (simp; done) | (simp (disch := (first | omega | (simp only [lnS, zA, zM, zG, zP]; omega))) only [nc, nct, w64_of, zT, zZ, zM, rdS, at_agg, bofZ, bof1, bof0, zC, zS, implies_true, and_true, true_and, forall_const]; first | done | omega | (refine ⟨?_, ?_⟩ <;> omega)) | (simp (disch := (first | omega | (simp only [lnS, zA, zM, zG, zP]; omega))) [nc, nct, w64_of, zT, zZ, zM, rdS, at_agg, bofZ, bof1, bof0, zC, zS]; done))); cbv)
   | (refine E.q (QCalls.of_le (km) ?_ ?_); (· (cbv; (try simp only [nc] at *); first | done | (simp; done) | (simp (disch := (first | omega | (simp only [lnS, zA, zM, zG, zP]; omega))) only [nc, nct, w64_of, zT, zZ, zM, rdS, at_agg, bofZ, bof1, bof0, zC, zS, implies_true, and_true, true_and, forall_const]; first | done | omega | (refine ⟨?_, ?_⟩ <;> omega)) | (simp (disch := (first | omega | (simp only [lnS, zA, zM, zG, zP]; omega))) [nc, nct, w64_of, zT, zZ, zM, rdS, at_agg, bofZ, bof1, bof0, zC, zS]; done))); cbv)
   | (refine ⟨fun _ h_s => ?_, fun _ h_s => ?_⟩ <;> (cbv; (try simp only [nc] at *); try simp (disch := (first | omega | (simp only [lnS, zA, zM, zG, zP]; omega))) only [nc, nct, w64_of, zT, zZ, zM, rdS, at_agg, bofZ, bof1, bof0, zC, zS, reduceCtorEq, Bool.not_true, Bool.not_false, zD, zE, zB, zF, zN, zO, ne_eq, zQ, zL, zR, beq_iff_eq] at h_s))
   | (refine hF ?_; intro _; clear hF)
   | (refine hF ?_; cbv; clear hF)
   | (refine ⟨fun _ => ?_, ?_⟩; (· ((try simp only [nc] at *); first | done | omega | exact ⟨by omega, rfl⟩ | (simp (disch := (first | omega | (simp only [lnS, zA, zM, zG, zP]; omega))) only [nc, nct, w64_of, zT, zZ, zM, rdS, at_agg, bofZ, bof1, bof0, zC, zS]; first | done | omega | rfl | exact ⟨by omega, rfl⟩ | (simp; done) | (simp; omega)) | (intros; trivial) | exact ⟨by first | trivial | rfl, by first | trivial | rfl | simp, by first | trivial | simp, by simp; omega, by simp; omega, by simp [AV.flat, AV.cells, AV.one]⟩)); (try (simp only [nc] at *)); (try simp (disch := (first | omega | (simp only [lnS, zA, zM, zG, zP]; omega))) only [nc, nct, w64_of, zT, zZ, zM, rdS, at_agg, bofZ, bof1, bof0, zC, zS]); (try cbv))
   | (refine E.d 8 (by decide +kernel) ?_; cbv; (fail_if_success guard_target =~ False))
   | fail
  )
  have hsub : ∀ j, (m &&& (m - 1#64)).getLsbD j = true → m.getLsbD j = true := fun j hj => by rw [hlow, Bool.and_eq_true] at hj; exact hj.1
  have hcl := cntB_lt hsub (i := c) (by rw [hlow]; simp) c2 64 c1
  refine hI (m &&& (m - 1#64), acc ++ [L.getD c id0]) ⟨by rw [List.append_assoc, ← hq1, hst]; rfl, fun j hj => hq2 j (hsub j hj)⟩ hcl ?_
  cbv
  clear hI hst hlow hq1 hq2 hc ktz km
  simp [hG, ids, setAll, AV.nrm]
 ·have hm : m = 0#64 := by simpa using h_s
  subst hm
  rw [tell_zero, List.append_nil] at hq1
  subst hq1
  intro _
  refine ⟨rfl, by simp, ?_⟩
  rw [List.drop_zero, List.take_of_length_le (by simp)]
def maskT (b : EId → BitVec 64) (l : List EId) : Nat → BitVec 64
 | 0 => 0#64
 | k + 1 => maskT b l k ||| b (l.getD k id0)
def okP (b : EId → BitVec 64) (l : List EId) (k : Nat) : Bool := decide (b (l.getD k id0) ≠ 0#64) && decide (maskT b l k &&& b (l.getD k id0) = 0#64)
def closedP (g : Gr) (L : List EId) (n : Nat) (rows : List (BitVec 64)) (l : List EId) : Bool :=
 decide (∀ k < l.length, okP (bitP L g.init.length) l k = true) && decide (evP g.init.length (growM n rows (maskT (bitP L g.init.length) l l.length)) = maskT (bitP L g.init.length) l l.length)
theorem pclosed_ok (hγ : γ 0 = some tabAV) (g : Gr) (L : List EId) (n : Nat) (rows : List (BitVec 64)) (l : List EId) (hL : L.length ≤ 62) (hx : g.init.length ≤ 6) (hf : Fits n rows) (hl : (l.length : Int) ≤ 9223372036854775807) :
  Pure Tryz.prog γ false 24 [aPv g L n rows, .vs 2 fun _ => ids l] (.b fun _ => closedP g L n rows l) := by
 have kb := fun d => pbit_ok (γ := γ) g L n rows d hL
 have ke := fun m => pevents_ok (γ := γ) g L n rows m hx
 have kg := fun m => pgrow_ok (γ := γ) hγ g L n rows m hf
 unfold closedP
 generalize bitP L g.init.length = b at *
 have h0 : maskT b l 0 = 0#64 := rfl
 have hS : ∀ k, maskT b l (k + 1) = maskT b l k ||| b (l.getD k id0) := fun _ => rfl
 have hok : ∀ k, okP b l k = (decide (b (l.getD k id0) ≠ 0#64) && decide (maskT b l k &&& b (l.getD k id0) = 0#64)) := fun _ => rfl
 generalize okP b l = ok at *
 generalize maskT b l = M at *
 refine Pure.go (ty := ty) ty_eq mo Tryz.func24 rfl Tryz.ntmps24 Tryz.results24 Tryz.call24 (by simp) fun P C CQ D W F E hF => ?_
 cbv
 repeat' (first
  | (refine ⟨fun _ h_s => ?_, fun _ h_s => ?_⟩ <;> (cbv; (try simp only [nc] at *); try simp (disch := (first | omega | (simp only [lnS, zA, zM, zG, zP]; omega))) only [nc, nct, w64_of, zT, zZ, zM, rdS, at_agg, bofZ, bof1, bof0, zC, zS, reduceCtorEq, Bool.not_true, Bool.not_false, zD, zE, zB, zF, zN, zO, ne_eq, zQ, zL, zR, beq_iff_eq] at h_s))
  | (refine hF ?_; intro _; clear hF)
  | (refine hF ?_; cbv; clear hF)
  | (refine ⟨fun _ => ?_, ?_⟩; (· ((try simp only [nc] at *); first | done | omega | exact ⟨by omega, rfl⟩ | (simp (disch := (first | omega | (simp only [lnS, zA, zM, zG, zP]; omega))) only [nc, nct, w64_of, zT, zZ, zM, rdS, at_agg, bofZ, bof1, bof0, zC, zS]; first | done | omega | rfl | exact ⟨by omega, rfl⟩ | (simp; done) | (simp; omega)) | (intros; trivial) | exact ⟨by first | trivial | rfl, by first | trivial | rfl | simp, by first | trivial | simp, by simp; omega, by simp; omega, by simp [AV.flat, AV.cells, AV.one]⟩)); (try (simp only [nc] at *)); (try simp (disch := (first | omega | (simp only [lnS, zA, zM, zG, zP]; omega))) only [nc, nct, w64_of, zT, zZ, zM, rdS, at_agg, bofZ, bof1, bof0, zC, zS]); (try cbv))
  | (refine E.d 6 (by decide +kernel) ?_; cbv; (fail_if_success guard_target =~ False))
  | fail
 )
 refine E.loopS (ι := Nat) (fun i => i ≤ l.length ∧ (∀ k < i, ok k = true)) (fun i => l.length - i) (fun i => [(11, .i fun _ => ((i : Nat) : Int)), (5, .u fun _ => M i)]) (fun i h => h) 0 (fun _ => by first | rfl | simp) ⟨Nat.zero_le _, ?_⟩ ?_ fun i hi I hI => ?_
 ·intro k hk; omega
 ·cbv; simp [h0]
 cbv
 obtain ⟨hi, hp⟩ := hi
 have kbi := kb (l.getD i id0)
 have hoki := hok i
 have hSi := hS i
 have kgi := kg (M i)
 have kei := ke (growM n rows (M i))
 repeat' (first
  | (refine E.c (SCalls.of_le (kei) ?_ ?_); (· (cbv; (try simp only [nc] at *); first | done | (simp; done) | (simp (disch := (first | omega | (simp only [lnS, zA, zM, zG, zP]; omega))) only [nc, nct, w64_of, zT, zZ, zM, rdS, at_agg, bofZ, bof1, bof0, zC, zS, implies_true, and_true, true_and, forall_const]; first | done | omega | (refine ⟨?_, ?_⟩ <;> omega)) | (simp (disch := (first | omega | (simp only [lnS, zA, zM, zG, zP]; omega))) [nc, nct, w64_of, zT, zZ, zM, rdS, at_agg, bofZ, bof1, bof0, zC, zS]; done))); cbv)
  | (refine E.q (QCalls.of_le (kei) ?_ ?_); (· (cbv; (try simp only [nc] at *); first | done | (simp; done) | (simp (disch := (first | omega | (simp only [lnS, zA, zM, zG, zP]; omega))) only [nc, nct, w64_of, zT, zZ, zM, rdS, at_agg, bofZ, bof1, bof0, zC, zS, implies_true, and_true, true_and, forall_const]; first | done | omega | (refine ⟨?_, ?_⟩ <;> omega)) | (simp (disch := (first | omega | (simp only [lnS, zA, zM, zG, zP]; omega))) [nc, nct, w64_of, zT, zZ, zM, rdS, at_agg, bofZ, bof1, bof0, zC, zS]; done))); cbv)
  | (refine E.c (SCalls.of_le (kgi) ?_ ?_); (· (cbv; (try simp only [nc] at *); first | done | (simp; done) | (simp (disch := (first | omega | (simp only [lnS, zA, zM, zG, zP]; omega))) only [nc, nct, w64_of, zT, zZ, zM, rdS, at_agg, bofZ, bof1, bof0, zC, zS, implies_true, and_true, true_and, forall_const]; first | done | omega | (refine ⟨?_, ?_⟩ <;> omega)) | (simp (disch := (first | omega | (simp only [lnS, zA, zM, zG, zP]; omega))) [nc, nct, w64_of, zT, zZ, zM, rdS, at_agg, bofZ, bof1, bof0, zC, zS]; done))); cbv)
  | (refine E.q (QCalls.of_le (kgi) ?_ ?_); (· (cbv; (try simp only [nc] at *); first | done | (simp; done) | (simp (disch := (first | omega | (simp only [lnS, zA, zM, zG, zP]; omega))) only [nc, nct, w64_of, zT, zZ, zM, rdS, at_agg, bofZ, bof1, bof0, zC, zS, implies_true, and_true, true_and, forall_const]; first | done | omega | (refine ⟨?_, ?_⟩ <;> omega)) | (simp (disch := (first | omega | (simp only [lnS, zA, zM, zG, zP]; omega))) [nc, nct, w64_of, zT, zZ, zM, rdS, at_agg, bofZ, bof1, bof0, zC, zS]; done))); cbv)
  | (refine hI (i + 1) ?_ ?_ ?_; rotate_left 1; (· ((try simp only [nc] at *); omega)); (cbv; clear hI; (try clear hF); (try simp only [nc] at *); (try simp (disch := (first | omega | (simp only [lnS, zA, zM, zG, zP]; omega))) only [nc, nct, w64_of, zT, zZ, zM, rdS, at_agg, bofZ, bof1, bof0, zC, zS, implies_true, and_true, true_and, forall_const])); rotate_left 1; (try ((try simp only [nc] at *); omega)))
  | (refine E.c (SCalls.of_le (kbi) ?_ ?_); (· (cbv; (try simp only [nc] at *); first | done | (simp; done) | (simp (disch := (first | omega | (simp only [lnS, zA, zM, zG, zP]; omega))) only [nc, nct, w64_of, zT, zZ, zM, rdS, at_agg, bofZ, bof1, bof0, zC, zS, implies_true, and_true, true_and, forall_const]; first | done | omega | (refine ⟨?_, ?_⟩ <;> omega)) | (simp (disch := (first | omega | (simp only [lnS, zA, zM, zG, zP]; omega))) [nc, nct, w64_of, zT, zZ, zM, rdS, at_agg, bofZ, bof1, bof0, zC, zS]; done))); cbv)
  | (refine ⟨fun _ h_s => ?_, fun _ h_s => ?_⟩ <;> (cbv; (try simp only [nc] at *); try simp (disch := (first | omega | (simp only [lnS, zA, zM, zG, zP]; omega))) only [nc, nct, w64_of, zT, zZ, zM, rdS, at_agg, bofZ, bof1, bof0, zC, zS, reduceCtorEq, Bool.not_true, Bool.not_false, zD, zE, zB, zF, zN, zO, ne_eq, zQ, zL, zR, beq_iff_eq] at h_s))
  | (refine hF ?_; intro _; clear hF)
  | (refine hF ?_; cbv; clear hF)
  | (refine ⟨fun _ => ?_, ?_⟩; (· ((try simp only [nc] at *); first | done | omega | exact ⟨by omega, rfl⟩ | (simp (disch := (first | omega | (simp only [lnS, zA, zM, zG, zP]; omega))) only [nc, nct, w64_of, zT, zZ, zM, rdS, at_agg, bofZ, bof1, bof0, zC, zS]; first | done | omega | rfl | exact ⟨by omega, rfl⟩ | (simp; done) | (simp; omega)) | (intros; trivial) | exact ⟨by first | trivial | rfl, by first | trivial | rfl | simp, by first | trivial | simp, by simp; omega, by simp; omega, by simp [AV.flat, AV.cells, AV.one]⟩)); (try (simp only [nc] at *)); (try simp (disch := (first | omega | (simp only [lnS, zA, zM, zG, zP]; omega))) only [nc, nct, w64_of, zT, zZ, zM, rdS, at_agg, bofZ, bof1, bof0, zC, zS]); (try cbv))
  | (refine E.d 6 (by decide +kernel) ?_; cbv; (fail_if_success guard_target =~ False))
  | fail
 )
 iterate 2
  ·have hf' : ¬ ok i = true := by rw [hoki]; simp_all
   have hil : i < l.length := by ((try simp only [nc] at *); omega)
   rw [decide_eq_false fun hall => hf' (hall i hil)]; rfl
 ·refine ⟨by ((try simp only [nc] at *); omega), fun k hk => ?_⟩
  rcases Nat.lt_or_ge k i with h1 | h1
  ·exact hp k h1
  ·obtain rfl : k = i := by omega
   rw [hoki]; simp_all
 ·exact ⟨by push_cast; rfl, hSi.symm⟩
 ·have e : i = l.length := by ((try simp only [nc] at *); omega)
  subst e
  rw [decide_eq_true hp]; rfl
end Go.AL.Rl

namespace Go.AL.Rl
open Go Go.AL Go.Proofs
set_option maxRecDepth 100000
set_option maxHeartbeats 3200000
variable {γ : Nat → Option AV}

theorem plook_no (g : Gr) (hg : Rd g) (h : ¬ GOk g) : Pure Tryz.prog γ false 18 [aGr g] (.tup [aPv ⟨[], [], [], []⟩ [] 0 [], .b fun _ => false]) := by
 have kd := dAll_no (γ := γ) g hg h
 refine Pure.go (ty := ty) ty_eq mo Tryz.func18 rfl Tryz.ntmps18 Tryz.results18 Tryz.call18 (by simp) fun P C CQ D W F E hF => ?_
 cbv
 repeat' (first
  | (refine E.c (SCalls.of_le (kd) ?_ ?_); (· (cbv; (try simp only [nc] at *); first | done | (simp; done) | (simp (disch := (first | omega | (simp only [lnS, zA, zM, zG, zP]; omega))) only [nc, nct, w64_of, zT, zZ, zM, rdS, at_agg, bofZ, bof1, bof0, zC, zS, implies_true, and_true, true_and, forall_const]; first | done | omega | (refine ⟨?_, ?_⟩ <;> omega)) | (simp (disch := (first | omega | (simp only [lnS, zA, zM, zG, zP]; omega))) [nc, nct, w64_of, zT, zZ, zM, rdS, at_agg, bofZ, bof1, bof0, zC, zS]; done))); cbv)
  | (refine ⟨fun _ h_s => ?_, fun _ h_s => ?_⟩ <;> (cbv; (try simp only [nc] at *); try simp (disch := (first | omega | (simp only [lnS, zA, zM, zG, zP]; omega))) only [nc, nct, w64_of, zT, zZ, zM, rdS, at_agg, bofZ, bof1, bof0, zC, zS, reduceCtorEq, Bool.not_true, Bool.not_false, zD, zE, zB, zF, zN, zO, ne_eq, zQ, zL, zR, beq_iff_eq] at h_s))
  | (refine hF ?_; intro _; clear hF)
  | (refine hF ?_; cbv; clear hF)
  | (refine ⟨fun _ => ?_, ?_⟩; (· ((try simp only [nc] at *); first | done | omega | exact ⟨by omega, rfl⟩ | (simp (disch := (first | omega | (simp only [lnS, zA, zM, zG, zP]; omega))) only [nc, nct, w64_of, zT, zZ, zM, rdS, at_agg, bofZ, bof1, bof0, zC, zS]; first | done | omega | rfl | exact ⟨by omega, rfl⟩ | (simp; done) | (simp; omega)) | (intros; trivial))); (try (simp only [nc] at *)); (try simp (disch := (first | omega | (simp only [lnS, zA, zM, zG, zP]; omega))) only [nc, nct, w64_of, zT, zZ, zM, rdS, at_agg, bofZ, bof1, bof0, zC, zS]); (try cbv))
  | fail
 )
 all_goals first
  | (exfalso; revert h_s; simp; done)
  | (simp [is, us, ids, evss, idss, LV.of, LV.l]; done)
theorem plook_yes (hγ : γ 0 = some tabAV) (g : Gr) (hg : Rd g) (h : GOk g) : Pure Tryz.prog γ false 18 [aGr g] (.tup [aPv g (idsG g) (nG g : Nat) (backF (viewG g) (nG g)), .b fun _ => true]) := by
 have kd := dAll_yes (γ := γ) g hg h
 have hn := (viewG_wf h).small
 have hin := h.short.init
 have hth := h.short.th
 have hs := h.short
 have hle : ∀ t, (g.th.getD t []).length ≤ 14 := hs.at
 have ko := or2 (γ := γ) (nG g) _ _ (fits_poF (viewG g) hn) (fits_rfF (viewG g) hn)
 have kt := turn_ok (γ := γ) hγ (nG g) _ (fits_or2 (fits_poF (viewG g) hn) (fits_rfF (viewG g) hn))
 have eb : backF (viewG g) (nG g) = turnM (orM (nG g) [((nG g : Int), poF (viewG g) (nG g)), ((nG g : Int), rfF (viewG g) (nG g))]) := rfl
 rw [← eb] at kt
 clear eb
 generalize orM (nG g) [((nG g : Int), poF (viewG g) (nG g)), ((nG g : Int), rfF (viewG g) (nG g))] = q0 at *
 generalize backF (viewG g) (nG g) = bk at *
 generalize poF (viewG g) (nG g) = q1 at *
 generalize rfF (viewG g) (nG g) = q2 at *
 generalize coF (viewG g) (nG g) = q3 at *
 generalize frF (viewG g) (nG g) = q4 at *
 generalize swF (viewG g) (nG g) = q5 at *
 generalize ecoF (viewG g) (nG g) = q6 at *
 generalize porfF (viewG g) (nG g) = q7 at *
 generalize hbF (viewG g) (nG g) = q8 at *
 generalize locF (viewG g) (nG g) = q9 at *
 obtain ⟨L, hL⟩ : ∃ L : Nat → List EId, ∀ x, L x = idsI x := ⟨_, fun _ => rfl⟩
 obtain ⟨L2, hL2⟩ : ∃ L2 : Nat → Nat → List EId, ∀ t i, L2 t i = idsI g.init.length ++ idsT g t ++ idsE t i := ⟨_, fun _ _ => rfl⟩
 have l0 : L 0 = [] := by rw [hL]; rfl
 have lS : ∀ x, L (x + 1) = L x ++ [⟨0, x⟩] := fun x => by rw [hL, hL, idsI_succ]
 have lL : ∀ x, (L x).length = x := fun x => by rw [hL, idsI_len]
 have lE : L g.init.length = L2 0 0 := by rw [hL, hL2]; simp [idsT, idsE]
 have mS : ∀ t i, L2 t (i + 1) = L2 t i ++ [⟨t + 1, i⟩] := fun t i => by rw [hL2, hL2, idsE_succ]; simp only [List.append_assoc]
 have mE : ∀ t, L2 t (g.th.getD t []).length = L2 (t + 1) 0 := fun t => by rw [hL2, hL2, idsT_succ]; simp [idsE]
 have mF : L2 g.th.length 0 = idsG g := by rw [hL2]; simp [idsE, idsG]
 have mL : ∀ t i, (L2 t i).length ≤ 6 + 14 * t + i := fun t i => by
  have := evsT_len hs t
  rw [hL2]; simp only [List.length_append, idsI_len, idsE_len, idsT_len]; omega
 obtain ⟨G, hG⟩ : ∃ G : List EId → Nat, ∀ l, G l = l.length := ⟨_, fun _ => rfl⟩
 have hG0 : G [] = 0 := by rw [hG]; rfl
 rw [← mF]
 generalize nG g = n at *
 refine Pure.go (ty := ty) ty_eq mo Tryz.func18 rfl Tryz.ntmps18 Tryz.results18 Tryz.call18 (by simp) fun P C CQ D W F E hF => ?_
 cbv
 repeat' (first
  | (refine E.c (SCalls.of_le (kt) ?_ ?_); (· (cbv; (try simp only [nc] at *); first | done | (simp; done) | (simp (disch := (first | omega | (simp only [lnS, zA, zM, zG, zP]; omega))) only [nc, nct, w64_of, zT, zZ, zM, rdS, at_agg, bofZ, bof1, bof0, zC, zS, implies_true, and_true, true_and, forall_const]; first | done | omega | (refine ⟨?_, ?_⟩ <;> omega)) | (simp (disch := (first | omega | (simp only [lnS, zA, zM, zG, zP]; omega))) [nc, nct, w64_of, zT, zZ, zM, rdS, at_agg, bofZ, bof1, bof0, zC, zS]; done))); cbv)
  | (refine E.q (QCalls.of_le (kt) ?_ ?_); (· (cbv; (try simp only [nc] at *); first | done | (simp; done) | (simp (disch := (first | omega | (simp only [lnS, zA, zM, zG, zP]; omega))) only [nc, nct, w64_of, zT, zZ, zM, rdS, at_agg, bofZ, bof1, bof0, zC, zS, implies_true, and_true, true_and, forall_const]; first | done | omega | (refine ⟨?_, ?_⟩ <;> omega)) | (simp (disch := (first | omega | (simp only [lnS, zA, zM, zG, zP]; omega))) [nc, nct, w64_of, zT, zZ, zM, rdS, at_agg, bofZ, bof1, bof0, zC, zS]; done))); cbv)
  | (refine E.c (SCalls.of_bare (ko) rfl ?_ ?_); (· (cbv; simp [rls, ps, us, is, LV.of]; done)); cbv)
  | (refine E.c (SCalls.of_le (ko) ?_ ?_); (· (cbv; simp [rls, ps, us, is, LV.of]; done)); cbv)
  | (refine E.q (QCalls.of_le (ko) ?_ ?_); (· (cbv; simp [rls, ps, us, is, LV.of]; done)); cbv)
  | (refine E.de 12 [] [none] (by decide +kernel) ?_; cbv; (fail_if_success guard_target =~ False))
  | (refine E.c (SCalls.of_le (kd) ?_ ?_); (· (cbv; (try simp only [nc] at *); first | done | (simp; done) | (simp (disch := (first | omega | (simp only [lnS, zA, zM, zG, zP]; omega))) only [nc, nct, w64_of, zT, zZ, zM, rdS, at_agg, bofZ, bof1, bof0, zC, zS, implies_true, and_true, true_and, forall_const]; first | done | omega | (refine ⟨?_, ?_⟩ <;> omega)) | (simp (disch := (first | omega | (simp only [lnS, zA, zM, zG, zP]; omega))) [nc, nct, w64_of, zT, zZ, zM, rdS, at_agg, bofZ, bof1, bof0, zC, zS]; done))); cbv)
  | (refine ⟨fun _ h_s => ?_, fun _ h_s => ?_⟩ <;> (cbv; (try simp only [nc] at *); try simp (disch := (first | omega | (simp only [lnS, zA, zM, zG, zP]; omega))) only [nc, nct, w64_of, zT, zZ, zM, rdS, at_agg, bofZ, bof1, bof0, zC, zS, reduceCtorEq, Bool.not_true, Bool.not_false, zD, zE, zB, zF, zN, zO, ne_eq, zQ, zL, zR, beq_iff_eq] at h_s))
  | (refine hF ?_; intro _; clear hF)
  | (refine hF ?_; cbv; clear hF)
  | (refine ⟨fun _ => ?_, ?_⟩; (· ((try simp only [nc] at *); first | done | omega | exact ⟨by omega, rfl⟩ | (simp (disch := (first | omega | (simp only [lnS, zA, zM, zG, zP]; omega))) only [nc, nct, w64_of, zT, zZ, zM, rdS, at_agg, bofZ, bof1, bof0, zC, zS]; first | done | omega | rfl | exact ⟨by omega, rfl⟩ | (simp; done) | (simp; omega)) | (intros; trivial))); (try (simp only [nc] at *)); (try simp (disch := (first | omega | (simp only [lnS, zA, zM, zG, zP]; omega))) only [nc, nct, w64_of, zT, zZ, zM, rdS, at_agg, bofZ, bof1, bof0, zC, zS]); (try cbv))
  | fail
 )
 ·exact absurd trivial h_s
 clear kd ko kt
 refine E.w (AWP.ghostField 3 4 2 rfl rfl ?_)
 refine E.loopSA (ι := Nat) (fun x => x ≤ g.init.length) (fun x => g.init.length - x) (fun x => [(33, .i fun _ => ((x : Nat) : Int))]) (fun x h => (h.set 3 (.box (.agg [.vs 1 fun _ => is g.init, .vs 1 fun _ => evss g.th, .vs 1 fun _ => idss g.fr, .vs 1 fun _ => idss g.ord, .sl 4 (G (L x)) 2 (fun _ => 0) fun _ => (L x).length, .i fun _ => (n : Int), .vs 1 fun _ => us bk]))).set 4 (.run (G (L x)) 2 fun _ => ids (L x))) 0 (fun _ => by first | rfl | simp) (Nat.zero_le _) ?_ fun x hx I hI => ?_
 ·cbv; simp [l0, hG0, ids, LV.of]
 cbv
 have e1 := lS x
 have e2 := lL x
 skip
 repeat' (first
  | (refine hI (x + 1) ?_ ?_ ?_; rotate_left 1; (· ((try simp only [nc] at *); omega)); (cbv; clear hI; (try clear hF); (try simp only [nc] at *); (try simp (disch := (first | omega | (simp only [lnS, zA, zM, zG, zP]; omega))) only [nc, nct, w64_of, zT, zZ, zM, rdS, at_agg, bofZ, bof1, bof0, zC, zS, implies_true, and_true, true_and, forall_const])); rotate_left 1; (try ((try simp only [nc] at *); omega)))
  | (refine ⟨fun _ h_s => ?_, fun _ h_s => ?_⟩ <;> (cbv; (try simp only [nc] at *); try simp (disch := (first | omega | (simp only [lnS, zA, zM, zG, zP]; omega))) only [nc, nct, w64_of, zT, zZ, zM, rdS, at_agg, bofZ, bof1, bof0, zC, zS, reduceCtorEq, Bool.not_true, Bool.not_false, zD, zE, zB, zF, zN, zO, ne_eq, zQ, zL, zR, beq_iff_eq] at h_s))
  | (refine hF ?_; intro _; clear hF)
  | (refine hF ?_; cbv; clear hF)
  | (refine ⟨fun _ => ?_, ?_⟩; (· ((try simp only [nc] at *); first | done | omega | exact ⟨by omega, rfl⟩ | (simp (disch := (first | omega | (simp only [lnS, zA, zM, zG, zP]; omega))) only [nc, nct, w64_of, zT, zZ, zM, rdS, at_agg, bofZ, bof1, bof0, zC, zS]; first | done | omega | rfl | exact ⟨by omega, rfl⟩ | (simp; done) | (simp; omega)) | (intros; trivial) | exact ⟨by first | trivial | rfl, by first | trivial | rfl | simp, by first | trivial | simp, by simp; omega, by simp; omega, by simp [AV.flat, AV.cells, AV.one]⟩)); (try (simp only [nc] at *)); (try simp (disch := (first | omega | (simp only [lnS, zA, zM, zG, zP]; omega))) only [nc, nct, w64_of, zT, zZ, zM, rdS, at_agg, bofZ, bof1, bof0, zC, zS]); (try cbv))
  | fail
 )
 ·simp [hG, e1, ids, setAll, AV.nrm, nrms, nrm1]
 clear hI
 have ex : x = g.init.length := by ((try simp only [nc] at *); omega)
 subst ex
 rw [lE]
 refine E.loopS (ι := Nat) (fun t => t ≤ g.th.length) (fun t => g.th.length - t) (fun t => [(47, .i fun _ => ((t : Nat) : Int))]) (fun t h => (h.set 3 (.box (.agg [.vs 1 fun _ => is g.init, .vs 1 fun _ => evss g.th, .vs 1 fun _ => idss g.fr, .vs 1 fun _ => idss g.ord, .sl 4 (G (L2 t 0)) 2 (fun _ => 0) fun _ => (L2 t 0).length, .i fun _ => (n : Int), .vs 1 fun _ => us bk]))).set 4 (.run (G (L2 t 0)) 2 fun _ => ids (L2 t 0))) 0 (fun _ => by first | rfl | simp) (Nat.zero_le _) ?_ fun t ht I1 hI1 => ?_
 ·cbv; simp
 cbv
 have hgt := hle t
 repeat' (first
  | (refine ⟨fun _ h_s => ?_, fun _ h_s => ?_⟩ <;> (cbv; (try simp only [nc] at *); try simp (disch := (first | omega | (simp only [lnS, zA, zM, zG, zP]; omega))) only [nc, nct, w64_of, zT, zZ, zM, rdS, at_agg, bofZ, bof1, bof0, zC, zS, reduceCtorEq, Bool.not_true, Bool.not_false, zD, zE, zB, zF, zN, zO, ne_eq, zQ, zL, zR, beq_iff_eq] at h_s))
  | (refine hF ?_; intro _; clear hF)
  | (refine hF ?_; cbv; clear hF)
  | (refine ⟨fun _ => ?_, ?_⟩; (· ((try simp only [nc] at *); first | done | omega | exact ⟨by omega, rfl⟩ | (simp (disch := (first | omega | (simp only [lnS, zA, zM, zG, zP]; omega))) only [nc, nct, w64_of, zT, zZ, zM, rdS, at_agg, bofZ, bof1, bof0, zC, zS]; first | done | omega | rfl | exact ⟨by omega, rfl⟩ | (simp; done) | (simp; omega)) | (intros; trivial) | exact ⟨by first | trivial | rfl, by first | trivial | rfl | simp, by first | trivial | simp, by simp; omega, by simp; omega, by simp [AV.flat, AV.cells, AV.one]⟩)); (try (simp only [nc] at *)); (try simp (disch := (first | omega | (simp only [lnS, zA, zM, zG, zP]; omega))) only [nc, nct, w64_of, zT, zZ, zM, rdS, at_agg, bofZ, bof1, bof0, zC, zS]); (try cbv))
  | fail
 )
 ·refine E.loopS (ι := Nat) (fun i => i ≤ (g.th.getD t []).length) (fun i => (g.th.getD t []).length - i) (fun i => [(54, .i fun _ => ((i : Nat) : Int))]) (fun i h => (h.set 3 (.box (.agg [.vs 1 fun _ => is g.init, .vs 1 fun _ => evss g.th, .vs 1 fun _ => idss g.fr, .vs 1 fun _ => idss g.ord, .sl 4 (G (L2 t i)) 2 (fun _ => 0) fun _ => (L2 t i).length, .i fun _ => (n : Int), .vs 1 fun _ => us bk]))).set 4 (.run (G (L2 t i)) 2 fun _ => ids (L2 t i))) 0 (fun _ => by first | rfl | simp) (Nat.zero_le _) ?_ fun i hi I2 hI2 => ?_
  ·cbv; simp
  cbv
  have f1 := mS t i
  have f2 := mL t i
  have f3 := mE t
  repeat' (first
   | (refine hI1 (t + 1) ?_ ?_ ?_; rotate_left 1; (· ((try simp only [nc] at *); omega)); (cbv; clear hI1; (try clear hF); (try simp only [nc] at *); (try simp (disch := (first | omega | (simp only [lnS, zA, zM, zG, zP]; omega))) only [nc, nct, w64_of, zT, zZ, zM, rdS, at_agg, bofZ, bof1, bof0, zC, zS, implies_true, and_true, true_and, forall_const])); rotate_left 1; (try ((try simp only [nc] at *); omega)))
   | (refine hI2 (i + 1) ?_ ?_ ?_; rotate_left 1; (· ((try simp only [nc] at *); omega)); (cbv; clear hI2; (try clear hF); (try simp only [nc] at *); (try simp (disch := (first | omega | (simp only [lnS, zA, zM, zG, zP]; omega))) only [nc, nct, w64_of, zT, zZ, zM, rdS, at_agg, bofZ, bof1, bof0, zC, zS, implies_true, and_true, true_and, forall_const])); rotate_left 1; (try ((try simp only [nc] at *); omega)))
   | (refine ⟨fun _ h_s => ?_, fun _ h_s => ?_⟩ <;> (cbv; (try simp only [nc] at *); try simp (disch := (first | omega | (simp only [lnS, zA, zM, zG, zP]; omega))) only [nc, nct, w64_of, zT, zZ, zM, rdS, at_agg, bofZ, bof1, bof0, zC, zS, reduceCtorEq, Bool.not_true, Bool.not_false, zD, zE, zB, zF, zN, zO, ne_eq, zQ, zL, zR, beq_iff_eq] at h_s))
   | (refine hF ?_; intro _; clear hF)
   | (refine hF ?_; cbv; clear hF)
   | (refine ⟨fun _ => ?_, ?_⟩; (· ((try simp only [nc] at *); first | done | omega | exact ⟨by omega, rfl⟩ | (simp (disch := (first | omega | (simp only [lnS, zA, zM, zG, zP]; omega))) only [nc, nct, w64_of, zT, zZ, zM, rdS, at_agg, bofZ, bof1, bof0, zC, zS]; first | done | omega | rfl | exact ⟨by omega, rfl⟩ | (simp; done) | (simp; omega)) | (intros; trivial) | exact ⟨by first | trivial | rfl, by first | trivial | rfl | simp, by first | trivial | simp, by simp; omega, by simp; omega, by simp [AV.flat, AV.cells, AV.one]⟩)); (try (simp only [nc] at *)); (try simp (disch := (first | omega | (simp only [lnS, zA, zM, zG, zP]; omega))) only [nc, nct, w64_of, zT, zZ, zM, rdS, at_agg, bofZ, bof1, bof0, zC, zS]); (try cbv))
   | fail
  )
  ·simp [hG, f1, ids, setAll, AV.nrm, nrms, nrm1]
  ·have e : i = (g.th.getD t []).length := by ((try simp only [nc] at *); omega)
   subst e
   rw [f3]
   exact ⟨by push_cast; rfl, ⟨rfl, rfl⟩, rfl, rfl⟩
 ·have et : t = g.th.length := by ((try simp only [nc] at *); omega)
  subst et
  simp
  exact List.take_of_length_le (by simp)
theorem bitP_lt {L : List EId} {x : Nat} {d : EId} {j : Nat} (h : (bitP L x d).getLsbD j = true) : j < L.length := by
 have hb := numI_lt L d
 unfold bitP at h
 by_cases h1 : numI L d < x
 ·rw [if_pos h1] at h; simp at h
 ·rw [if_neg h1] at h
  have hj : j < 64 := by
   rcases Nat.lt_or_ge j 64 with h3 | h3
   ·exact h3
   ·rw [BitVec.getLsbD_of_ge _ j h3] at h; cases h
  rw [one_shl_bit _ j hj, decide_eq_true_eq] at h
  omega
theorem maskT_lt {b : EId → BitVec 64} {n : Nat} (hb : ∀ d j, (b d).getLsbD j = true → j < n) (l : List EId) : ∀ k j, (maskT b l k).getLsbD j = true → j < n
 | 0, j, h => by simp [maskT] at h
 | k + 1, j, h => by
  unfold maskT at h
  rw [BitVec.getLsbD_or, Bool.or_eq_true] at h
  exact h.elim (maskT_lt hb l k j) (hb _ j)
theorem grow_lt {n : Nat} {rows : List (BitVec 64)} (hf : Fits n rows) {m : BitVec 64} (hm : ∀ j, m.getLsbD j = true → j < n) {j : Nat} (h : (growM n rows m).getLsbD j = true) : j < n := by
 rw [grow_bit hf] at h
 rcases h with h | ⟨p, _, h⟩
 ·exact hm j h
 ·have := (fits_bits (fits_plus hf) h).2
  have e := (fits_plus hf).2.2.1
  omega
theorem image_lt {n : Nat} {rows : List (BitVec 64)} (hf : Fits n rows) {m : BitVec 64} {j : Nat} (h : (imageM n rows m).getLsbD j = true) : j < n := by
 obtain ⟨p, _, h⟩ := (bit_image hf _ _).1 h
 have := (fits_bits hf h).2
 have e := hf.2.2.1
 omega
def leansM (g : Gr) (d : EId) : List EId := if GOk g then tellM (idsG g) (evP g.init.length (growM (nG g) (backF (viewG g) (nG g)) (imageM (nG g) (backF (viewG g) (nG g)) (bitP (idsG g) g.init.length d)))) else []
def closeM (g : Gr) (l : List EId) : List EId := if GOk g then tellM (idsG g) (evP g.init.length (growM (nG g) (backF (viewG g) (nG g)) (maskT (bitP (idsG g) g.init.length) l l.length))) else []
def closedG (g : Gr) (l : List EId) : Bool := decide (GOk g) && closedP g (idsG g) (nG g) (backF (viewG g) (nG g)) l
theorem pleans_ok (hγ : γ 0 = some tabAV) (g : Gr) (hg : Rd g) (d : EId) : Pure Tryz.prog γ false 12 [aGr g, aId d] (.vs 2 fun _ => ids (leansM g d)) := by
 unfold leansM
 by_cases h : GOk g
 ·rw [if_pos h]
  have hn := (viewG_wf h).small
  have hx := h.short.init
  have hf := backF_fits (viewG g) hn
  have kl := plook_yes (γ := γ) hγ g hg h
  have kb := pbit_ok (γ := γ) g (idsG g) (nG g : Nat) (backF (viewG g) (nG g)) d (by show nG g ≤ 62; exact hn)
  have ki := image_ok (γ := γ) hγ (nG g : Nat) (backF (viewG g) (nG g)) (bitP (idsG g) g.init.length d)
  have kg := pgrow_ok (γ := γ) hγ g (idsG g) (nG g) (backF (viewG g) (nG g)) (imageM (nG g) (backF (viewG g) (nG g)) (bitP (idsG g) g.init.length d)) hf
  have kt := ptell_ok (γ := γ) hγ g (idsG g) (nG g : Nat) (backF (viewG g) (nG g)) (growM (nG g) (backF (viewG g) (nG g)) (imageM (nG g) (backF (viewG g) (nG g)) (bitP (idsG g) g.init.length d))) (by show nG g ≤ 62; exact hn) hx (fun j hj => by
   rw [ev_bit, Bool.and_eq_true] at hj
   exact grow_lt hf (fun j hj => image_lt hf hj) hj.2)
  generalize tellM _ _ = T at *
  generalize growM _ _ _ = m2 at *
  generalize imageM _ _ _ = m1 at *
  generalize bitP _ _ _ = m0 at *
  generalize backF (viewG g) (nG g) = bk at *
  refine Pure.go (ty := ty) ty_eq mo Tryz.func12 rfl Tryz.ntmps12 Tryz.results12 Tryz.call12 (by simp) fun P C CQ D W F E hF => ?_
  cbv
  repeat' (first
   | (refine E.c (SCalls.of_le (kt) ?_ ?_); (· (cbv; (try simp only [nc] at *); first | done | (simp; done) | (simp (disch := (first | omega | (simp only [lnS, zA, zM, zG, zP]; omega))) only [nc, nct, w64_of, zT, zZ, zM, rdS, at_agg, bofZ, bof1, bof0, zC, zS, implies_true, and_true, true_and, forall_const]; first | done | omega | (refine ⟨?_, ?_⟩ <;> omega)) | (simp (disch := (first | omega | (simp only [lnS, zA, zM, zG, zP]; omega))) [nc, nct, w64_of, zT, zZ, zM, rdS, at_agg, bofZ, bof1, bof0, zC, zS]; done))); cbv)
   | (refine E.q (QCalls.of_le (kt) ?_ ?_); (· (cbv; (try simp only [nc] at *); first | done | (simp; done) | (simp (disch := (first | omega | (simp only [lnS, zA, zM, zG, zP]; omega))) only [nc, nct, w64_of, zT, zZ, zM, rdS, at_agg, bofZ, bof1, bof0, zC, zS, implies_true, and_true, true_and, forall_const]; first | done | omega | (refine ⟨?_, ?_⟩ <;> omega)) | (simp (disch := (first | omega | (simp only [lnS, zA, zM, zG, zP]; omega))) [nc, nct, w64_of, zT, zZ, zM, rdS, at_agg, bofZ, bof1, bof0, zC, zS]; done))); cbv)
   | (refine E.c (SCalls.of_le (kg) ?_ ?_); (· (cbv; (try simp only [nc] at *); first | done | (simp; done) | (simp (disch := (first | omega | (simp only [lnS, zA, zM, zG, zP]; omega))) only [nc, nct, w64_of, zT, zZ, zM, rdS, at_agg, bofZ, bof1, bof0, zC, zS, implies_true, and_true, true_and, forall_const]; first | done | omega | (refine ⟨?_, ?_⟩ <;> omega)) | (simp (disch := (first | omega | (simp only [lnS, zA, zM, zG, zP]; omega))) [nc, nct, w64_of, zT, zZ, zM, rdS, at_agg, bofZ, bof1, bof0, zC, zS]; done))); cbv)
   | (refine E.q (QCalls.of_le (kg) ?_ ?_); (· (cbv; (try simp only [nc] at *); first | done | (simp; done) | (simp (disch := (first | omega | (simp only [lnS, zA, zM, zG, zP]; omega))) only [nc, nct, w64_of, zT, zZ, zM, rdS, at_agg, bofZ, bof1, bof0, zC, zS, implies_true, and_true, true_and, forall_const]; first | done | omega | (refine ⟨?_, ?_⟩ <;> omega)) | (simp (disch := (first | omega | (simp only [lnS, zA, zM, zG, zP]; omega))) [nc, nct, w64_of, zT, zZ, zM, rdS, at_agg, bofZ, bof1, bof0, zC, zS]; done))); cbv)
   | (refine E.c (SCalls.of_le (ki) ?_ ?_); (· (cbv; (try simp only [nc] at *); first | done | (simp; done) | (simp (disch := (first | omega | (simp only [lnS, zA, zM, zG, zP]; omega))) only [nc, nct, w64_of, zT, zZ, zM, rdS, at_agg, bofZ, bof1, bof0, zC, zS, implies_true, and_true, true_and, forall_const]; first | done | omega | (refine ⟨?_, ?_⟩ <;> omega)) | (simp (disch := (first | omega | (simp only [lnS, zA, zM, zG, zP]; omega))) [nc, nct, w64_of, zT, zZ, zM, rdS, at_agg, bofZ, bof1, bof0, zC, zS]; done))); cbv)
   | (refine E.q (QCalls.of_le (ki) ?_ ?_); (· (cbv; (try simp only [nc] at *); first | done | (simp; done) | (simp (disch := (first | omega | (simp only [lnS, zA, zM, zG, zP]; omega))) only [nc, nct, w64_of, zT, zZ, zM, rdS, at_agg, bofZ, bof1, bof0, zC, zS, implies_true, and_true, true_and, forall_const]; first | done | omega | (refine ⟨?_, ?_⟩ <;> omega)) | (simp (disch := (first | omega | (simp only [lnS, zA, zM, zG, zP]; omega))) [nc, nct, w64_of, zT, zZ, zM, rdS, at_agg, bofZ, bof1, bof0, zC, zS]; done))); cbv)
   | (refine E.c (SCalls.of_le (kb) ?_ ?_); (· (cbv; (try simp only [nc] at *); first | done | (simp; done) | (simp (disch := (first | omega | (simp only [lnS, zA, zM, zG, zP]; omega))) only [nc, nct, w64_of, zT, zZ, zM, rdS, at_agg, bofZ, bof1, bof0, zC, zS, implies_true, and_true, true_and, forall_const]; first | done | omega | (refine ⟨?_, ?_⟩ <;> omega)) | (simp (disch := (first | omega | (simp only [lnS, zA, zM, zG, zP]; omega))) [nc, nct, w64_of, zT, zZ, zM, rdS, at_agg, bofZ, bof1, bof0, zC, zS]; done))); cbv)
   | (refine E.q (QCalls.of_le (kb) ?_ ?_); (· (cbv; (try simp only [nc] at *); first | done | (simp; done) | (simp (disch := (first | omega | (simp only [lnS, zA, zM, zG, zP]; omega))) only [nc, nct, w64_of, zT, zZ, zM, rdS, at_agg, bofZ, bof1, bof0, zC, zS, implies_true, and_true, true_and, forall_const]; first | done | omega | (refine ⟨?_, ?_⟩ <;> omega)) | (simp (disch := (first | omega | (simp only [lnS, zA, zM, zG, zP]; omega))) [nc, nct, w64_of, zT, zZ, zM, rdS, at_agg, bofZ, bof1, bof0, zC, zS]; done))); cbv)
   | (refine E.c (SCalls.of_le (kl) ?_ ?_); (· (cbv; (try simp only [nc] at *); first | done | (simp; done) | (simp (disch := (first | omega | (simp only [lnS, zA, zM, zG, zP]; omega))) only [nc, nct, w64_of, zT, zZ, zM, rdS, at_agg, bofZ, bof1, bof0, zC, zS, implies_true, and_true, true_and, forall_const]; first | done | omega | (refine ⟨?_, ?_⟩ <;> omega)) | (simp (disch := (first | omega | (simp only [lnS, zA, zM, zG, zP]; omega))) [nc, nct, w64_of, zT, zZ, zM, rdS, at_agg, bofZ, bof1, bof0, zC, zS]; done))); cbv)
   | (refine ⟨fun _ h_s => ?_, fun _ h_s => ?_⟩ <;> (cbv; (try simp only [nc] at *); try simp (disch := (first | omega | (simp only [lnS, zA, zM, zG, zP]; omega))) only [nc, nct, w64_of, zT, zZ, zM, rdS, at_agg, bofZ, bof1, bof0, zC, zS, reduceCtorEq, Bool.not_true, Bool.not_false, zD, zE, zB, zF, zN, zO, ne_eq, zQ, zL, zR, beq_iff_eq] at h_s))
   | (refine hF ?_; intro _; clear hF)
   | (refine hF ?_; cbv; clear hF)
   | (refine ⟨fun _ => ?_, ?_⟩; (· ((try simp only [nc] at *); first | done | omega | exact ⟨by omega, rfl⟩ | (simp (disch := (first | omega | (simp only [lnS, zA, zM, zG, zP]; omega))) only [nc, nct, w64_of, zT, zZ, zM, rdS, at_agg, bofZ, bof1, bof0, zC, zS]; first | done | omega | rfl | exact ⟨by omega, rfl⟩ | (simp; done) | (simp; omega)) | (intros; trivial) | exact ⟨by first | trivial | rfl, by first | trivial | rfl | simp, by first | trivial | simp, by simp; omega, by simp; omega, by simp [AV.flat, AV.cells, AV.one]⟩)); (try (simp only [nc] at *)); (try simp (disch := (first | omega | (simp only [lnS, zA, zM, zG, zP]; omega))) only [nc, nct, w64_of, zT, zZ, zM, rdS, at_agg, bofZ, bof1, bof0, zC, zS]); (try cbv))
   | (refine E.d 9 (by decide +kernel) ?_; cbv; (fail_if_success guard_target =~ False))
   | fail
  )
  all_goals (intro _; rfl)
 ·rw [if_neg h]
  have kl := plook_no (γ := γ) g hg h
  refine Pure.go (ty := ty) ty_eq mo Tryz.func12 rfl Tryz.ntmps12 Tryz.results12 Tryz.call12 (by simp) fun P C CQ D W F E hF => ?_
  cbv
  repeat' (first
   | (refine E.c (SCalls.of_le (kl) ?_ ?_); (· (cbv; (try simp only [nc] at *); first | done | (simp; done) | (simp (disch := (first | omega | (simp only [lnS, zA, zM, zG, zP]; omega))) only [nc, nct, w64_of, zT, zZ, zM, rdS, at_agg, bofZ, bof1, bof0, zC, zS, implies_true, and_true, true_and, forall_const]; first | done | omega | (refine ⟨?_, ?_⟩ <;> omega)) | (simp (disch := (first | omega | (simp only [lnS, zA, zM, zG, zP]; omega))) [nc, nct, w64_of, zT, zZ, zM, rdS, at_agg, bofZ, bof1, bof0, zC, zS]; done))); cbv)
   | (refine ⟨fun _ h_s => ?_, fun _ h_s => ?_⟩ <;> (cbv; (try simp only [nc] at *); try simp (disch := (first | omega | (simp only [lnS, zA, zM, zG, zP]; omega))) only [nc, nct, w64_of, zT, zZ, zM, rdS, at_agg, bofZ, bof1, bof0, zC, zS, reduceCtorEq, Bool.not_true, Bool.not_false, zD, zE, zB, zF, zN, zO, ne_eq, zQ, zL, zR, beq_iff_eq] at h_s))
   | (refine hF ?_; intro _; clear hF)
   | (refine hF ?_; cbv; clear hF)
   | (refine ⟨fun _ => ?_, ?_⟩; (· ((try simp only [nc] at *); first | done | omega | exact ⟨by omega, rfl⟩ | (simp (disch := (first | omega | (simp only [lnS, zA, zM, zG, zP]; omega))) only [nc, nct, w64_of, zT, zZ, zM, rdS, at_agg, bofZ, bof1, bof0, zC, zS]; first | done | omega | rfl | exact ⟨by omega, rfl⟩ | (simp; done) | (simp; omega)) | (intros; trivial) | exact ⟨by first | trivial | rfl, by first | trivial | rfl | simp, by first | trivial | simp, by simp; omega, by simp; omega, by simp [AV.flat, AV.cells, AV.one]⟩)); (try (simp only [nc] at *)); (try simp (disch := (first | omega | (simp only [lnS, zA, zM, zG, zP]; omega))) only [nc, nct, w64_of, zT, zZ, zM, rdS, at_agg, bofZ, bof1, bof0, zC, zS]); (try cbv))
   | (refine E.d 9 (by decide +kernel) ?_; cbv; (fail_if_success guard_target =~ False))
   | fail
  )
  all_goals simp [ids, LV.of, LV.l]
theorem pclosedG_ok (hγ : γ 0 = some tabAV) (g : Gr) (hg : Rd g) (l : List EId) (hl : (l.length : Int) ≤ 9223372036854775807) : Pure Tryz.prog γ false 9 [aGr g, .vs 2 fun _ => ids l] (.b fun _ => closedG g l) := by
 unfold closedG
 by_cases h : GOk g
 ·rw [decide_eq_true h]
  have hn := (viewG_wf h).small
  have hx := h.short.init
  have kl := plook_yes (γ := γ) hγ g hg h
  have kc := pclosed_ok (γ := γ) hγ g (idsG g) (nG g) (backF (viewG g) (nG g)) l (by show nG g ≤ 62; exact hn) hx (backF_fits (viewG g) hn) hl
  generalize closedP g _ _ _ l = cc at *
  generalize backF (viewG g) (nG g) = bk at *
  refine Pure.go (ty := ty) ty_eq mo Tryz.func9 rfl Tryz.ntmps9 Tryz.results9 Tryz.call9 (by simp) fun P C CQ D W F E hF => ?_
  cbv
  repeat' (first
   | (refine E.c (SCalls.of_le (kc) ?_ ?_); (· (cbv; (try simp only [nc] at *); first | done | (simp; done) | (simp (disch := (first | omega | (simp only [lnS, zA, zM, zG, zP]; omega))) only [nc, nct, w64_of, zT, zZ, zM, rdS, at_agg, bofZ, bof1, bof0, zC, zS, implies_true, and_true, true_and, forall_const]; first | done | omega | (refine ⟨?_, ?_⟩ <;> omega)) | (simp (disch := (first | omega | (simp only [lnS, zA, zM, zG, zP]; omega))) [nc, nct, w64_of, zT, zZ, zM, rdS, at_agg, bofZ, bof1, bof0, zC, zS]; done))); cbv)
   | (refine E.c (SCalls.of_le (kl) ?_ ?_); (· (cbv; (try simp only [nc] at *); first | done | (simp; done) | (simp (disch := (first | omega | (simp only [lnS, zA, zM, zG, zP]; omega))) only [nc, nct, w64_of, zT, zZ, zM, rdS, at_agg, bofZ, bof1, bof0, zC, zS, implies_true, and_true, true_and, forall_const]; first | done | omega | (refine ⟨?_, ?_⟩ <;> omega)) | (simp (disch := (first | omega | (simp only [lnS, zA, zM, zG, zP]; omega))) [nc, nct, w64_of, zT, zZ, zM, rdS, at_agg, bofZ, bof1, bof0, zC, zS]; done))); cbv)
   | (refine ⟨fun _ h_s => ?_, fun _ h_s => ?_⟩ <;> (cbv; (try simp only [nc] at *); try simp (disch := (first | omega | (simp only [lnS, zA, zM, zG, zP]; omega))) only [nc, nct, w64_of, zT, zZ, zM, rdS, at_agg, bofZ, bof1, bof0, zC, zS, reduceCtorEq, Bool.not_true, Bool.not_false, zD, zE, zB, zF, zN, zO, ne_eq, zQ, zL, zR, beq_iff_eq] at h_s))
   | (refine hF ?_; intro _; clear hF)
   | (refine hF ?_; cbv; clear hF)
   | (refine ⟨fun _ => ?_, ?_⟩; (· ((try simp only [nc] at *); first | done | omega | exact ⟨by omega, rfl⟩ | (simp (disch := (first | omega | (simp only [lnS, zA, zM, zG, zP]; omega))) only [nc, nct, w64_of, zT, zZ, zM, rdS, at_agg, bofZ, bof1, bof0, zC, zS]; first | done | omega | rfl | exact ⟨by omega, rfl⟩ | (simp; done) | (simp; omega)) | (intros; trivial) | exact ⟨by first | trivial | rfl, by first | trivial | rfl | simp, by first | trivial | simp, by simp; omega, by simp; omega, by simp [AV.flat, AV.cells, AV.one]⟩)); (try (simp only [nc] at *)); (try simp (disch := (first | omega | (simp only [lnS, zA, zM, zG, zP]; omega))) only [nc, nct, w64_of, zT, zZ, zM, rdS, at_agg, bofZ, bof1, bof0, zC, zS]); (try cbv))
   | fail
  )
  all_goals rfl
 ·rw [decide_eq_false h]
  have kl := plook_no (γ := γ) g hg h
  refine Pure.go (ty := ty) ty_eq mo Tryz.func9 rfl Tryz.ntmps9 Tryz.results9 Tryz.call9 (by simp) fun P C CQ D W F E hF => ?_
  cbv
  repeat' (first
   | (refine E.c (SCalls.of_le (kl) ?_ ?_); (· (cbv; (try simp only [nc] at *); first | done | (simp; done) | (simp (disch := (first | omega | (simp only [lnS, zA, zM, zG, zP]; omega))) only [nc, nct, w64_of, zT, zZ, zM, rdS, at_agg, bofZ, bof1, bof0, zC, zS, implies_true, and_true, true_and, forall_const]; first | done | omega | (refine ⟨?_, ?_⟩ <;> omega)) | (simp (disch := (first | omega | (simp only [lnS, zA, zM, zG, zP]; omega))) [nc, nct, w64_of, zT, zZ, zM, rdS, at_agg, bofZ, bof1, bof0, zC, zS]; done))); cbv)
   | (refine ⟨fun _ h_s => ?_, fun _ h_s => ?_⟩ <;> (cbv; (try simp only [nc] at *); try simp (disch := (first | omega | (simp only [lnS, zA, zM, zG, zP]; omega))) only [nc, nct, w64_of, zT, zZ, zM, rdS, at_agg, bofZ, bof1, bof0, zC, zS, reduceCtorEq, Bool.not_true, Bool.not_false, zD, zE, zB, zF, zN, zO, ne_eq, zQ, zL, zR, beq_iff_eq] at h_s))
   | (refine hF ?_; intro _; clear hF)
   | (refine hF ?_; cbv; clear hF)
   | (refine ⟨fun _ => ?_, ?_⟩; (· ((try simp only [nc] at *); first | done | omega | exact ⟨by omega, rfl⟩ | (simp (disch := (first | omega | (simp only [lnS, zA, zM, zG, zP]; omega))) only [nc, nct, w64_of, zT, zZ, zM, rdS, at_agg, bofZ, bof1, bof0, zC, zS]; first | done | omega | rfl | exact ⟨by omega, rfl⟩ | (simp; done) | (simp; omega)) | (intros; trivial) | exact ⟨by first | trivial | rfl, by first | trivial | rfl | simp, by first | trivial | simp, by simp; omega, by simp; omega, by simp [AV.flat, AV.cells, AV.one]⟩)); (try (simp only [nc] at *)); (try simp (disch := (first | omega | (simp only [lnS, zA, zM, zG, zP]; omega))) only [nc, nct, w64_of, zT, zZ, zM, rdS, at_agg, bofZ, bof1, bof0, zC, zS]); (try cbv))
   | fail
  )
  all_goals simp [ids, LV.of, LV.l]
end Go.AL.Rl

namespace Go.AL.Rl
open Go Go.AL Go.Proofs
set_option maxRecDepth 100000
set_option maxHeartbeats 3200000
variable {γ : Nat → Option AV}

theorem pclose_ok (hγ : γ 0 = some tabAV) (g : Gr) (hg : Rd g) (l : List EId) (hl : (l.length : Int) ≤ 9223372036854775807) : Pure Tryz.prog γ false 7 [aGr g, .vs 2 fun _ => ids l] (.vs 2 fun _ => ids (closeM g l)) := by
 unfold closeM
 by_cases h : GOk g
 ·rw [if_pos h]
  have hn := (viewG_wf h).small
  have hx := h.short.init
  have hf := backF_fits (viewG g) hn
  have kl := plook_yes (γ := γ) hγ g hg h
  have kb := fun d => pbit_ok (γ := γ) g (idsG g) (nG g : Nat) (backF (viewG g) (nG g)) d (by show nG g ≤ 62; exact hn)
  have kg := pgrow_ok (γ := γ) hγ g (idsG g) (nG g) (backF (viewG g) (nG g)) (maskT (bitP (idsG g) g.init.length) l l.length) hf
  have kt := ptell_ok (γ := γ) hγ g (idsG g) (nG g : Nat) (backF (viewG g) (nG g)) (growM (nG g) (backF (viewG g) (nG g)) (maskT (bitP (idsG g) g.init.length) l l.length)) (by show nG g ≤ 62; exact hn) hx (fun j hj => by
   rw [ev_bit, Bool.and_eq_true] at hj
   exact grow_lt hf (fun j hj => maskT_lt (fun d j => bitP_lt) l _ j hj) hj.2)
  generalize bitP (idsG g) g.init.length = b at *
  have h0 : maskT b l 0 = 0#64 := rfl
  have hS : ∀ k, maskT b l (k + 1) = maskT b l k ||| b (l.getD k id0) := fun _ => rfl
  generalize maskT b l = M at *
  generalize tellM _ _ = T at *
  generalize growM _ _ _ = m2 at *
  generalize backF (viewG g) (nG g) = bk at *
  refine Pure.go (ty := ty) ty_eq mo Tryz.func7 rfl Tryz.ntmps7 Tryz.results7 Tryz.call7 (by simp) fun P C CQ D W F E hF => ?_
  cbv
  repeat' (first
   | (refine E.c (SCalls.of_le (kl) ?_ ?_); (· (cbv; (try simp only [nc] at *); first | done | (simp; done) | (simp (disch := (first | omega | (simp only [lnS, zA, zM, zG, zP]; omega))) only [nc, nct, w64_of, zT, zZ, zM, rdS, at_agg, bofZ, bof1, bof0, zC, zS, implies_true, and_true, true_and, forall_const]; first | done | omega | (refine ⟨?_, ?_⟩ <;> omega)) | (simp (disch := (first | omega | (simp only [lnS, zA, zM, zG, zP]; omega))) [nc, nct, w64_of, zT, zZ, zM, rdS, at_agg, bofZ, bof1, bof0, zC, zS]; done))); cbv)
   | (refine ⟨fun _ h_s => ?_, fun _ h_s => ?_⟩ <;> (cbv; (try simp only [nc] at *); try simp (disch := (first | omega | (simp only [lnS, zA, zM, zG, zP]; omega))) only [nc, nct, w64_of, zT, zZ, zM, rdS, at_agg, bofZ, bof1, bof0, zC, zS, reduceCtorEq, Bool.not_true, Bool.not_false, zD, zE, zB, zF, zN, zO, ne_eq, zQ, zL, zR, beq_iff_eq] at h_s))
   | (refine hF ?_; intro _; clear hF)
   | (refine hF ?_; cbv; clear hF)
   | (refine ⟨fun _ => ?_, ?_⟩; (· ((try simp only [nc] at *); first | done | omega | exact ⟨by omega, rfl⟩ | (simp (disch := (first | omega | (simp only [lnS, zA, zM, zG, zP]; omega))) only [nc, nct, w64_of, zT, zZ, zM, rdS, at_agg, bofZ, bof1, bof0, zC, zS]; first | done | omega | rfl | exact ⟨by omega, rfl⟩ | (simp; done) | (simp; omega)) | (intros; trivial))); (try (simp only [nc] at *)); (try simp (disch := (first | omega | (simp only [lnS, zA, zM, zG, zP]; omega))) only [nc, nct, w64_of, zT, zZ, zM, rdS, at_agg, bofZ, bof1, bof0, zC, zS]); (try cbv))
   | (refine E.d 4 (by decide +kernel) ?_; cbv; (fail_if_success guard_target =~ False))
   | fail
  )
  refine E.loopS (ι := Nat) (fun i => i ≤ l.length) (fun i => l.length - i) (fun i => [(19, .i fun _ => ((i : Nat) : Int)), (7, .u fun _ => M i)]) (fun i h => h) 0 (fun _ => by first | rfl | simp) (Nat.zero_le _) ?_ fun i hi I hI => ?_
  ·cbv; simp [h0]
  cbv
  have kbi := kb (l.getD i id0)
  have hSi := hS i
  repeat' (first
   | (refine hI (i + 1) ?_ ?_ ?_; rotate_left 1; (· ((try simp only [nc] at *); omega)); (cbv; clear hI; (try clear hF); (try simp only [nc] at *); (try simp (disch := (first | omega | (simp only [lnS, zA, zM, zG, zP]; omega))) only [nc, nct, w64_of, zT, zZ, zM, rdS, at_agg, bofZ, bof1, bof0, zC, zS, implies_true, and_true, true_and, forall_const])); rotate_left 1; (try ((try simp only [nc] at *); omega)))
   | (refine E.c (SCalls.of_le (kbi) ?_ ?_); (· (cbv; (try simp only [nc] at *); first | done | (simp; done) | (simp (disch := (first | omega | (simp only [lnS, zA, zM, zG, zP]; omega))) only [nc, nct, w64_of, zT, zZ, zM, rdS, at_agg, bofZ, bof1, bof0, zC, zS, implies_true, and_true, true_and, forall_const]; first | done | omega | (refine ⟨?_, ?_⟩ <;> omega)) | (simp (disch := (first | omega | (simp only [lnS, zA, zM, zG, zP]; omega))) [nc, nct, w64_of, zT, zZ, zM, rdS, at_agg, bofZ, bof1, bof0, zC, zS]; done))); cbv)
   | (refine ⟨fun _ h_s => ?_, fun _ h_s => ?_⟩ <;> (cbv; (try simp only [nc] at *); try simp (disch := (first | omega | (simp only [lnS, zA, zM, zG, zP]; omega))) only [nc, nct, w64_of, zT, zZ, zM, rdS, at_agg, bofZ, bof1, bof0, zC, zS, reduceCtorEq, Bool.not_true, Bool.not_false, zD, zE, zB, zF, zN, zO, ne_eq, zQ, zL, zR, beq_iff_eq] at h_s))
   | (refine hF ?_; intro _; clear hF)
   | (refine hF ?_; cbv; clear hF)
   | (refine ⟨fun _ => ?_, ?_⟩; (· ((try simp only [nc] at *); first | done | omega | exact ⟨by omega, rfl⟩ | (simp (disch := (first | omega | (simp only [lnS, zA, zM, zG, zP]; omega))) only [nc, nct, w64_of, zT, zZ, zM, rdS, at_agg, bofZ, bof1, bof0, zC, zS]; first | done | omega | rfl | exact ⟨by omega, rfl⟩ | (simp; done) | (simp; omega)) | (intros; trivial))); (try (simp only [nc] at *)); (try simp (disch := (first | omega | (simp only [lnS, zA, zM, zG, zP]; omega))) only [nc, nct, w64_of, zT, zZ, zM, rdS, at_agg, bofZ, bof1, bof0, zC, zS]); (try cbv))
   | (refine E.d 4 (by decide +kernel) ?_; cbv; (fail_if_success guard_target =~ False))
   | fail
  )
  ·exact ⟨hSi.symm, by push_cast; rfl⟩
  ·have e : i = l.length := by ((try simp only [nc] at *); omega)
   subst e
   repeat' (first
    | (refine E.c (SCalls.of_le (kt) ?_ ?_); (· (cbv; (try simp only [nc] at *); first | done | (simp; done) | (simp (disch := (first | omega | (simp only [lnS, zA, zM, zG, zP]; omega))) only [nc, nct, w64_of, zT, zZ, zM, rdS, at_agg, bofZ, bof1, bof0, zC, zS, implies_true, and_true, true_and, forall_const]; first | done | omega | (refine ⟨?_, ?_⟩ <;> omega)) | (simp (disch := (first | omega | (simp only [lnS, zA, zM, zG, zP]; omega))) [nc, nct, w64_of, zT, zZ, zM, rdS, at_agg, bofZ, bof1, bof0, zC, zS]; done))); cbv)
    | (refine E.q (QCalls.of_le (kt) ?_ ?_); (· (cbv; (try simp only [nc] at *); first | done | (simp; done) | (simp (disch := (first | omega | (simp only [lnS, zA, zM, zG, zP]; omega))) only [nc, nct, w64_of, zT, zZ, zM, rdS, at_agg, bofZ, bof1, bof0, zC, zS, implies_true, and_true, true_and, forall_const]; first | done | omega | (refine ⟨?_, ?_⟩ <;> omega)) | (simp (disch := (first | omega | (simp only [lnS, zA, zM, zG, zP]; omega))) [nc, nct, w64_of, zT, zZ, zM, rdS, at_agg, bofZ, bof1, bof0, zC, zS]; done))); cbv)
    | (refine E.c (SCalls.of_le (kg) ?_ ?_); (· (cbv; (try simp only [nc] at *); first | done | (simp; done) | (simp (disch := (first | omega | (simp only [lnS, zA, zM, zG, zP]; omega))) only [nc, nct, w64_of, zT, zZ, zM, rdS, at_agg, bofZ, bof1, bof0, zC, zS, implies_true, and_true, true_and, forall_const]; first | done | omega | (refine ⟨?_, ?_⟩ <;> omega)) | (simp (disch := (first | omega | (simp only [lnS, zA, zM, zG, zP]; omega))) [nc, nct, w64_of, zT, zZ, zM, rdS, at_agg, bofZ, bof1, bof0, zC, zS]; done))); cbv)
    | (refine E.q (QCalls.of_le (kg) ?_ ?_); (· (cbv; (try simp only [nc] at *); first | done | (simp; done) | (simp (disch := (first | omega | (simp only [lnS, zA, zM, zG, zP]; omega))) only [nc, nct, w64_of, zT, zZ, zM, rdS, at_agg, bofZ, bof1, bof0, zC, zS, implies_true, and_true, true_and, forall_const]; first | done | omega | (refine ⟨?_, ?_⟩ <;> omega)) | (simp (disch := (first | omega | (simp only [lnS, zA, zM, zG, zP]; omega))) [nc, nct, w64_of, zT, zZ, zM, rdS, at_agg, bofZ, bof1, bof0, zC, zS]; done))); cbv)
    | (refine ⟨fun _ h_s => ?_, fun _ h_s => ?_⟩ <;> (cbv; (try simp only [nc] at *); try simp (disch := (first | omega | (simp only [lnS, zA, zM, zG, zP]; omega))) only [nc, nct, w64_of, zT, zZ, zM, rdS, at_agg, bofZ, bof1, bof0, zC, zS, reduceCtorEq, Bool.not_true, Bool.not_false, zD, zE, zB, zF, zN, zO, ne_eq, zQ, zL, zR, beq_iff_eq] at h_s))
    | (refine hF ?_; intro _; clear hF)
    | (refine hF ?_; cbv; clear hF)
    | (refine ⟨fun _ => ?_, ?_⟩; (· ((try simp only [nc] at *); first | done | omega | exact ⟨by omega, rfl⟩ | (simp (disch := (first | omega | (simp only [lnS, zA, zM, zG, zP]; omega))) only [nc, nct, w64_of, zT, zZ, zM, rdS, at_agg, bofZ, bof1, bof0, zC, zS]; first | done | omega | rfl | exact ⟨by omega, rfl⟩ | (simp; done) | (simp; omega)) | (intros; trivial))); (try (simp only [nc] at *)); (try simp (disch := (first | omega | (simp only [lnS, zA, zM, zG, zP]; omega))) only [nc, nct, w64_of, zT, zZ, zM, rdS, at_agg, bofZ, bof1, bof0, zC, zS]); (try cbv))
    | (refine E.d 4 (by decide +kernel) ?_; cbv; (fail_if_success guard_target =~ False))
    | fail
   )
   all_goals (intro _; rfl)
 ·rw [if_neg h]
  have kl := plook_no (γ := γ) g hg h
  refine Pure.go (ty := ty) ty_eq mo Tryz.func7 rfl Tryz.ntmps7 Tryz.results7 Tryz.call7 (by simp) fun P C CQ D W F E hF => ?_
  cbv
  repeat' (first
   | (refine E.c (SCalls.of_le (kl) ?_ ?_); (· (cbv; (try simp only [nc] at *); first | done | (simp; done) | (simp (disch := (first | omega | (simp only [lnS, zA, zM, zG, zP]; omega))) only [nc, nct, w64_of, zT, zZ, zM, rdS, at_agg, bofZ, bof1, bof0, zC, zS, implies_true, and_true, true_and, forall_const]; first | done | omega | (refine ⟨?_, ?_⟩ <;> omega)) | (simp (disch := (first | omega | (simp only [lnS, zA, zM, zG, zP]; omega))) [nc, nct, w64_of, zT, zZ, zM, rdS, at_agg, bofZ, bof1, bof0, zC, zS]; done))); cbv)
   | (refine ⟨fun _ h_s => ?_, fun _ h_s => ?_⟩ <;> (cbv; (try simp only [nc] at *); try simp (disch := (first | omega | (simp only [lnS, zA, zM, zG, zP]; omega))) only [nc, nct, w64_of, zT, zZ, zM, rdS, at_agg, bofZ, bof1, bof0, zC, zS, reduceCtorEq, Bool.not_true, Bool.not_false, zD, zE, zB, zF, zN, zO, ne_eq, zQ, zL, zR, beq_iff_eq] at h_s))
   | (refine hF ?_; intro _; clear hF)
   | (refine hF ?_; cbv; clear hF)
   | (refine ⟨fun _ => ?_, ?_⟩; (· ((try simp only [nc] at *); first | done | omega | exact ⟨by omega, rfl⟩ | (simp (disch := (first | omega | (simp only [lnS, zA, zM, zG, zP]; omega))) only [nc, nct, w64_of, zT, zZ, zM, rdS, at_agg, bofZ, bof1, bof0, zC, zS]; first | done | omega | rfl | exact ⟨by omega, rfl⟩ | (simp; done) | (simp; omega)) | (intros; trivial))); (try (simp only [nc] at *)); (try simp (disch := (first | omega | (simp only [lnS, zA, zM, zG, zP]; omega))) only [nc, nct, w64_of, zT, zZ, zM, rdS, at_agg, bofZ, bof1, bof0, zC, zS]); (try cbv))
   | (refine E.d 4 (by decide +kernel) ?_; cbv; (fail_if_success guard_target =~ False))
   | fail
  )
  all_goals simp [ids, LV.of, LV.l]
theorem clone_ok (l : List Int) (hl : (l.length : Int) ≤ 17592186044416) : Pure Tryz.prog γ false 23 [.vs 1 fun _ => is l] (.vs 1 fun _ => is l) := by
 refine Pure.go (ty := ty) ty_eq mo Tryz.func23 rfl Tryz.ntmps23 Tryz.results23 Tryz.call23 (by simp) fun P C CQ D W F E hF => ?_
 cbv
 repeat' (first
  | (refine ⟨fun _ h_s => ?_, fun _ h_s => ?_⟩ <;> (cbv; (try simp only [nc] at *); try simp (disch := (first | omega | (simp only [lnS, zA, zM, zG, zP]; omega))) only [nc, nct, w64_of, zT, zZ, zM, rdS, at_agg, bofZ, bof1, bof0, zC, zS, reduceCtorEq, Bool.not_true, Bool.not_false, zD, zE, zB, zF, zN, zO, ne_eq, zQ, zL, zR, beq_iff_eq] at h_s))
  | (refine hF ?_; intro _; clear hF)
  | (refine hF ?_; cbv; clear hF)
  | (refine ⟨fun _ => ?_, ?_⟩; (· ((try simp only [nc] at *); first | done | omega | exact ⟨by omega, rfl⟩ | (simp (disch := (first | omega | (simp only [lnS, zA, zM, zG, zP]; omega))) only [nc, nct, w64_of, zT, zZ, zM, rdS, at_agg, bofZ, bof1, bof0, zC, zS]; first | done | omega | rfl | exact ⟨by omega, rfl⟩ | (simp; done) | (simp; omega)) | (intros; trivial))); (try (simp only [nc] at *)); (try simp (disch := (first | omega | (simp only [lnS, zA, zM, zG, zP]; omega))) only [nc, nct, w64_of, zT, zZ, zM, rdS, at_agg, bofZ, bof1, bof0, zC, zS]); (try cbv))
  | fail
 )
 intro c hc
 cbv
 repeat' (first
  | (refine ⟨fun _ h_s => ?_, fun _ h_s => ?_⟩ <;> (cbv; (try simp only [nc] at *); try simp (disch := (first | omega | (simp only [lnS, zA, zM, zG, zP]; omega))) only [nc, nct, w64_of, zT, zZ, zM, rdS, at_agg, bofZ, bof1, bof0, zC, zS, reduceCtorEq, Bool.not_true, Bool.not_false, zD, zE, zB, zF, zN, zO, ne_eq, zQ, zL, zR, beq_iff_eq] at h_s))
  | (refine hF ?_; intro _; clear hF)
  | (refine hF ?_; cbv; clear hF)
  | (refine ⟨fun _ => ?_, ?_⟩; (· ((try simp only [nc] at *); first | done | omega | exact ⟨by omega, rfl⟩ | (simp (disch := (first | omega | (simp only [lnS, zA, zM, zG, zP]; omega))) only [nc, nct, w64_of, zT, zZ, zM, rdS, at_agg, bofZ, bof1, bof0, zC, zS]; first | done | omega | rfl | exact ⟨by omega, rfl⟩ | (simp; done) | (simp; omega)) | (intros; trivial))); (try (simp only [nc] at *)); (try simp (disch := (first | omega | (simp only [lnS, zA, zM, zG, zP]; omega))) only [nc, nct, w64_of, zT, zZ, zM, rdS, at_agg, bofZ, bof1, bof0, zC, zS]); (try cbv))
  | fail
 )
 ·exact hc () (by simpa using h_s)
 ·refine ⟨fun _ => ⟨by simp; omega, by simp; omega, fun v hv => ?_⟩, ?_⟩
  ·unfold is at hv
   rw [LV.l_of] at hv
   obtain ⟨x, _, rfl⟩ := List.mem_map.1 hv
   rfl
  ·refine hF ?_
   cbv
   intro _
   exact ⟨rfl, by simp, by rw [List.drop_zero, List.take_of_length_le (Nat.le_refl _)]⟩
end Go.AL.Rl

namespace Go.AL.Rl
open Go Go.AL Go.Proofs
set_option maxRecDepth 100000
set_option maxHeartbeats 3200000
variable {γ : Nat → Option AV}

def unL (n : Nat) : LV := LV.of (List.replicate n (.agg []))
def keyL (l : List EId) : Nat → List EId
 | 0 => []
 | k + 1 => if l.getD k id0 ∈ keyL l k then keyL l k else keyL l k ++ [l.getD k id0]
theorem keyL_mem (l : List EId) (d : EId) : ∀ k, k ≤ l.length → (d ∈ keyL l k ↔ d ∈ l.take k)
 | 0, _ => by simp [keyL]
 | k + 1, h => by
  have ih := keyL_mem l d k (by omega)
  rw [take_succ' l k id0 (by omega)]
  unfold keyL
  split
  ·rename_i hin
   rw [List.mem_append, ih, List.mem_singleton]
   constructor
   ·exact .inl
   ·rintro (h1 | h1)
    ·exact h1
    ·rw [h1]; exact (keyL_mem l _ k (by omega)).1 hin
  ·rw [List.mem_append, List.mem_append, ih]
theorem keyL_len (l : List EId) : ∀ k, (keyL l k).length ≤ k
 | 0 => by simp [keyL]
 | k + 1 => by
  have := keyL_len l k
  unfold keyL
  split
  ·omega
  ·simp; omega
theorem find_mem (l : List EId) (d : EId) : (l.findIdx? fun x => decide (x = d)).isSome = decide (d ∈ l) := by
 rw [List.findIdx?_isSome, Bool.eq_iff_iff, List.any_eq_true, decide_eq_true_eq]
 constructor
 ·rintro ⟨x, hx, he⟩; rw [decide_eq_true_eq] at he; rw [← he]; exact hx
 ·intro hd; exact ⟨d, hd, by simp⟩
theorem pstays_ok (K : List EId) (n : Nat) (d : EId) : Pure Tryz.prog γ false 22 [aId d, .vp (fun _ => .vm (fun _ => ids K) (fun _ => unL n)) 0] (.b fun _ => decide (d ∈ K)) := by
 refine Pure.go (ty := ty) ty_eq mo Tryz.func22 rfl Tryz.ntmps22 Tryz.results22 Tryz.call22 (by simp) fun P C CQ D W F E hF => ?_
 cbv
 skip
 repeat' (first
  | (refine ⟨fun _ h_s => ?_, fun _ h_s => ?_⟩ <;> (cbv; (try simp only [nc] at *); try simp (disch := (first | omega | (simp only [lnS, zA, zM, zG, zP]; omega))) only [nc, nct, w64_of, zT, zZ, zM, rdS, at_agg, bofZ, bof1, bof0, zC, zS, reduceCtorEq, Bool.not_true, Bool.not_false, zD, zE, zB, zF, zN, zO, ne_eq, zQ, zL, zR, beq_iff_eq] at h_s))
  | (refine hF ?_; intro _; clear hF)
  | (refine hF ?_; cbv; clear hF)
  | (refine ⟨fun _ => ?_, ?_⟩; (· ((try simp only [nc] at *); first | done | omega | exact ⟨by omega, rfl⟩ | (simp (disch := (first | omega | (simp only [lnS, zA, zM, zG, zP]; omega))) only [nc, nct, w64_of, zT, zZ, zM, rdS, at_agg, bofZ, bof1, bof0, zC, zS]; first | done | omega | rfl | exact ⟨by omega, rfl⟩ | (simp; done) | (simp; omega)) | (intros; trivial) | exact ⟨mok_ids _, by intro v hv; simp [unL] at hv; exact hv.2⟩)); (try (simp only [nc] at *)); (try simp (disch := (first | omega | (simp only [lnS, zA, zM, zG, zP]; omega))) only [nc, nct, w64_of, zT, zZ, zM, rdS, at_agg, bofZ, bof1, bof0, zC, zS]); (try cbv))
  | fail
 )
 show (mfind [.i, .i] (ids K) [d.t, d.i]).isSome = decide (d ∈ K)
 rw [mfind_ids, find_mem]
end Go.AL.Rl

namespace Go.AL.Rl
open Go Go.AL Go.Proofs
set_option maxRecDepth 100000
set_option maxHeartbeats 3200000
variable {γ : Nat → Option AV}

structure Mk where
 id : EId
 w : Bool
theorem Mk.ext' {a b : Mk} (h1 : a.id = b.id) (h2 : a.w = b.w) : a = b := by cases a; cases b; simp_all
instance : DecidableEq Mk := fun a b => decidable_of_iff (a.id = b.id ∧ a.w = b.w) ⟨fun h => Mk.ext' h.1 h.2, fun h => by subst h; exact ⟨rfl, rfl⟩⟩
abbrev mk0 : Mk := ⟨⟨0, 0⟩, false⟩
abbrev aMk (m : Mk) : AV := .agg [.i fun _ => m.id.t, .i fun _ => m.id.i, .b fun _ => m.w]
def mks (l : List Mk) : LV := LV.of (l.map aMk)
@[simp] theorem mks_len (l : List Mk) : (mks l).l.length = l.length := by simp [mks]
structure Sta where
 g : Gr
 ms : List Mk
 half : Int
def needM (d : EId) (k : Int) : List Mk := (if k = 2 then [] else [⟨d, false⟩]) ++ if k = 2 ∨ k = 3 then [⟨d, true⟩] else []
end Go.AL.Rl

namespace Go.AL.Rl
open Go Go.AL Go.Proofs
set_option maxRecDepth 100000
set_option maxHeartbeats 1600000

def keepP (l : List EId) (t i : Nat) : List Nat := (List.range i).filter fun j => decide ((⟨(t : Int) + 1, (j : Int)⟩ : EId) ∈ l)
theorem keepP_succ (l : List EId) (t i : Nat) : keepP l t (i + 1) = keepP l t i ++ if (⟨(t : Int) + 1, (i : Int)⟩ : EId) ∈ l then [i] else [] := by
 unfold keepP
 rw [List.range_succ, List.filter_append]
 congr 1
 by_cases h : (⟨(t : Int) + 1, (i : Int)⟩ : EId) ∈ l
 ·rw [if_pos h, List.filter_cons_of_pos (by simpa using h)]; rfl
 ·rw [if_neg h, List.filter_cons_of_neg (by simpa using h)]; rfl
theorem keepP_len (l : List EId) (t i : Nat) : (keepP l t i).length ≤ i := by
 unfold keepP
 exact Nat.le_trans (List.length_filter_le _ _) (by simp)
def keepTh (g : Gr) (l : List EId) (t i : Nat) : List Ev := (keepP l t i).map fun j => (g.th.getD t []).getD j ev0
def keepFr (g : Gr) (l : List EId) (t i : Nat) : List EId := (keepP l t i).map fun j => (g.fr.getD t []).getD j id0
theorem keepTh_succ (g : Gr) (l : List EId) (t i : Nat) : keepTh g l t (i + 1) = keepTh g l t i ++ if (⟨(t : Int) + 1, (i : Int)⟩ : EId) ∈ l then [(g.th.getD t []).getD i ev0] else [] := by
 unfold keepTh; rw [keepP_succ, List.map_append]; split <;> rfl
theorem keepFr_succ (g : Gr) (l : List EId) (t i : Nat) : keepFr g l t (i + 1) = keepFr g l t i ++ if (⟨(t : Int) + 1, (i : Int)⟩ : EId) ∈ l then [(g.fr.getD t []).getD i id0] else [] := by
 unfold keepFr; rw [keepP_succ, List.map_append]; split <;> rfl
def keepO (l o : List EId) : List EId := o.filter fun d => decide (d ∈ l)
def keepM (g : Gr) (l : List EId) : Gr :=
 ⟨g.init, (List.range g.th.length).map fun t => keepTh g l t (g.th.getD t []).length, (List.range g.th.length).map fun t => keepFr g l t (g.th.getD t []).length, g.ord.map (keepO l)⟩
end Go.AL.Rl

namespace Go.AL
open Go Go.RowKit
section
variable {P : Program} {γ : Nat → Option AV} {C : EC} {CQ : List Blk → QC} {T : Nat → TI} {D : Array Oper → (St → Prop) → St → Prop} {W : Code → (Exit → St → Prop) → St → Prop}
theorem Env.loopCA (E : Env P γ C CQ T D W) {c : Code} {Q : Exit → St → Prop} {A : St} {ι : Type} (ok : ι → Prop) (m : ι → Nat) (upd : ι → List (Nat × AV)) (hp : ι → List Blk) (j0 : ι)
  (hA : A.h.length = (hp j0).length) (hn : ∀ j, (hp j).length = (hp j0).length) (hok : ok j0) (h0 : leSt (hp j0).length (headSt c A (upd j0) (hp j0)) A)
  (round : ∀ j, ok j → ∀ (I : St → Prop), (∀ {A'} j', ok j' → m j' < m j → leSt (hp j0).length (headSt c A (upd j') (hp j')) A' → I A') → AWPl P γ (hp j0).length (citems c) (thenE I Q) (headSt c A (upd j) (hp j))) : AWP P γ (.loop c) Q A :=
 AWP.loopI (ι := ι) (hp j0).length (fun j => headSt c A (upd j) (hp j)) ok m j0 hA hn ⟨hok, h0⟩ fun j hj => AWPr.to (by
  show AWPr P γ (hp j).length c _ _
  rw [hn j]
  exact AWPr.of_items c (round j hj _ fun j' h1 h2 h3 => ⟨j', h1, h2, h3⟩))
theorem inBlk_mono {id : Nat} {Q Q' : Exit → St → Prop} (h : ∀ e A, Q e A → Q' e A) : ∀ e A, inBlk id Q e A → inBlk id Q' e A := by
 intro e A
 cases e with
 | exit id' => simp only [inBlk]; split <;> exact h _ _
 | _ => exact h _ _
/-- the last part of a block, and what stands behind it -/
theorem Env.blk (E : Env P γ C CQ T D W) {n id : Nat} {l r : List Code} {Q : Exit → St → Prop} {A : St} (h : vcl T γ C D W l (inBlk id (thenE (fun A => vcl T γ C D W r Q A) Q)) A) : AWPl P γ n l (inBlk id (thenE (fun A => AWPl P γ n r Q A) Q)) A :=
 (E.bl h).mono (inBlk_mono fun e A h' => by
  cases e with
  | normal => exact E.bl h'
  | _ => exact h')
end
end Go.AL
namespace Go.AL.Rl
open Go Go.AL Go.Proofs
set_option maxRecDepth 100000
set_option maxHeartbeats 3200000
variable {γ : Nat → Option AV}

abbrev gz : Gr := ⟨[], [], [], []⟩
theorem pkeep_no (hγ : γ 0 = some tabAV) (g : Gr) (hg : Rd g) (l : List EId) (hl : (l.length : Int) ≤ 9223372036854775807) (h : closedG g l = false) : Pure Tryz.prog γ false 8 [aGr g, .vs 2 fun _ => ids l] (.tup [aGr gz, .i fun _ => 2]) := by
 have kc := pclosedG_ok (γ := γ) hγ g hg l hl
 rw [h] at kc
 refine Pure.go (ty := ty) ty_eq mo Tryz.func8 rfl Tryz.ntmps8 Tryz.results8 Tryz.call8 (by simp) fun P C CQ D W F E hF => ?_
 cbv
 repeat' (first
  | (refine E.c (SCalls.of_le (kc) ?_ ?_); (· (cbv; (try simp only [nc] at *); first | done | (simp; done) | (simp (disch := (first | omega | (simp only [lnS, zA, zM, zG, zP]; omega))) only [nc, nct, w64_of, zT, zZ, zM, rdS, at_agg, bofZ, bof1, bof0, zC, zS, implies_true, and_true, true_and, forall_const]; first | done | omega | (refine ⟨?_, ?_⟩ <;> omega)) | (simp (disch := (first | omega | (simp only [lnS, zA, zM, zG, zP]; omega))) [nc, nct, w64_of, zT, zZ, zM, rdS, at_agg, bofZ, bof1, bof0, zC, zS]; done))); cbv)
  | (refine ⟨fun _ h_s => ?_, fun _ h_s => ?_⟩ <;> (cbv; (try simp only [nc] at *); try simp (disch := (first | omega | (simp only [lnS, zA, zM, zG, zP]; omega))) only [nc, nct, w64_of, zT, zZ, zM, rdS, at_agg, bofZ, bof1, bof0, zC, zS, reduceCtorEq, Bool.not_true, Bool.not_false, zD, zE, zB, zF, zN, zO, ne_eq, zQ, zL, zR, beq_iff_eq] at h_s))
  | (refine hF ?_; intro _; clear hF)
  | (refine hF ?_; cbv; clear hF)
  | (refine ⟨fun _ => ?_, ?_⟩; (· ((try simp only [nc] at *); first | done | omega | exact ⟨by omega, rfl⟩ | (simp (disch := (first | omega | (simp only [lnS, zA, zM, zG, zP]; omega))) only [nc, nct, w64_of, zT, zZ, zM, rdS, at_agg, bofZ, bof1, bof0, zC, zS]; first | done | omega | rfl | exact ⟨by omega, rfl⟩ | (simp; done) | (simp; omega)) | (intros; trivial))); (try (simp only [nc] at *)); (try simp (disch := (first | omega | (simp only [lnS, zA, zM, zG, zP]; omega))) only [nc, nct, w64_of, zT, zZ, zM, rdS, at_agg, bofZ, bof1, bof0, zC, zS]); (try cbv))
  | fail
 )
 all_goals first
  | (exfalso; revert h_s; simp; done)
  | (simp [is, ids, evss, idss, LV.of, LV.l]; done)
theorem keyL_succ (l : List EId) (k : Nat) : keyL l (k + 1) = if l.getD k id0 ∈ keyL l k then keyL l k else keyL l k ++ [l.getD k id0] := rfl
theorem mputK_key (K : List EId) (d : EId) (v : AV) (hv : v = aId d) (k : List Int) (hk : k = [d.t, d.i]) : mputK (mfind [.i, .i] (ids K) k) (ids K) v = ids (if d ∈ K then K else K ++ [d]) := by
 subst hk; subst hv
 rw [mfind_ids]
 by_cases h : d ∈ K
 ·rw [if_pos h]
  cases e : K.findIdx? fun x => decide (x = d) with
  | none => have := find_mem K d; rw [e] at this; simp [h] at this
  | some i =>
   simp only [mputK]
 ·rw [if_neg h, fresh_find h]
  simp [mputK, ids]
theorem mputV_un (K : List EId) (d : EId) (k : List Int) (hk : k = [d.t, d.i]) : mputV (mfind [.i, .i] (ids K) k) (unL K.length) (.agg []) = unL (if d ∈ K then K else K ++ [d]).length := by
 subst hk
 rw [mfind_ids]
 by_cases h : d ∈ K
 ·rw [if_pos h]
  cases e : K.findIdx? fun x => decide (x = d) with
  | none => have := find_mem K d; rw [e] at this; simp [h] at this
  | some i =>
   simp [mputV, unL]
 ·rw [if_neg h, fresh_find h]
  simp [mputV, unL, List.replicate_succ']
theorem pkeep_yes (hγ : γ 0 = some tabAV) (g : Gr) (hg : Rd g) (l : List EId) (hl : (l.length : Int) ≤ 17592186044416) (h : closedG g l = true) : Pure Tryz.prog γ false 8 [aGr g, .vs 2 fun _ => ids l] (.tup [aGr (keepM g l), .i fun _ => 0]) := by
 have kc := pclosedG_ok (γ := γ) hγ g hg l (by omega)
 rw [h] at kc
 have hgo : GOk g := by
  unfold closedG at h
  rw [Bool.and_eq_true, decide_eq_true_eq] at h
  exact h.1
 have hs := hgo.short
 have hin := hs.init
 have hth := hs.th
 have kl := clone_ok (γ := γ) g.init (by omega)
 have k0 : keyL l 0 = [] := rfl
 have kS := keyL_succ l
 have kL := keyL_len l
 refine Pure.goL (ty := ty) ty_eq mo Tryz.func8 rfl Tryz.ntmps8 Tryz.results8 Tryz.call8 (by simp) fun P C CQ D W F E hF => ?_
 refine E.cut 8 (told 125 [(1, .vs 2 fun _ => ids l), (2, .ptr 0 0), (4, .ptr 1 0), (9, .fn 22 [] [.ptr 3 0]), (10, .ptr 4 0)] [.box (aGr g), .box (.agg [.nils, .nils, .nils, .nils]), .map (fun _ => ids (keyL l l.length)) (fun _ => unL (keyL l l.length).length), .box (.mp 2), .box (.agg [.vs 1 fun _ => is g.init, .nils, .nils, .nils])]) (by kernel_rfl) (Nat.zero_le _) (fun I hI => ?_) ?_
 ·cbv
  repeat' (first
   | (refine E.c (SCalls.of_le (kc) ?_ ?_); (· (cbv; (try simp only [nc] at *); first | done | (simp; done) | (simp (disch := (first | omega | (simp only [lnS, zA, zM, zG, zP]; omega))) only [nc, nct, w64_of, zT, zZ, zM, rdS, at_agg, bofZ, bof1, bof0, zC, zS, implies_true, and_true, true_and, forall_const]; first | done | omega | (refine ⟨?_, ?_⟩ <;> omega)) | (simp (disch := (first | omega | (simp only [lnS, zA, zM, zG, zP]; omega))) [nc, nct, w64_of, zT, zZ, zM, rdS, at_agg, bofZ, bof1, bof0, zC, zS]; done))); cbv)
   | (refine ⟨fun _ h_s => ?_, fun _ h_s => ?_⟩ <;> (cbv; (try simp only [nc] at *); try simp (disch := (first | omega | (simp only [lnS, zA, zM, zG, zP]; omega))) only [nc, nct, w64_of, zT, zZ, zM, rdS, at_agg, bofZ, bof1, bof0, zC, zS, reduceCtorEq, Bool.not_true, Bool.not_false, zD, zE, zB, zF, zN, zO, ne_eq, zQ, zL, zR, beq_iff_eq] at h_s))
   | (refine hF ?_; intro _; clear hF)
   | (refine hF ?_; cbv; clear hF)
   | (refine ⟨fun _ => ?_, ?_⟩; (· ((try simp only [nc] at *); first | done | omega | exact ⟨by omega, rfl⟩ | (simp (disch := (first | omega | (simp only [lnS, zA, zM, zG, zP]; omega))) only [nc, nct, w64_of, zT, zZ, zM, rdS, at_agg, bofZ, bof1, bof0, zC, zS]; first | done | omega | rfl | exact ⟨by omega, rfl⟩ | (simp; done) | (simp; omega)) | (intros; trivial))); (try (simp only [nc] at *)); (try simp (disch := (first | omega | (simp only [lnS, zA, zM, zG, zP]; omega))) only [nc, nct, w64_of, zT, zZ, zM, rdS, at_agg, bofZ, bof1, bof0, zC, zS]); (try cbv))
   | fail
  )
  refine E.loopS (ι := Nat) (fun i => i ≤ l.length) (fun i => l.length - i) (fun i => [(31, .i fun _ => ((i : Nat) : Int))]) (fun i h => h.set 2 (.map (fun _ => ids (keyL l i)) (fun _ => unL (keyL l i).length))) 0 (fun _ => by first | rfl | simp) (Nat.zero_le _) ?_ fun i hi I2 hI2 => ?_
  ·cbv; simp [k0, unL, ids, LV.of]
  cbv
  have e1 := kS i
  have e2 := kL i
  repeat' (first
   | (refine E.c (SCalls.of_le (kl) ?_ ?_); (· (cbv; (try simp only [nc] at *); first | done | (simp; done) | (simp (disch := (first | omega | (simp only [lnS, zA, zM, zG, zP]; omega))) only [nc, nct, w64_of, zT, zZ, zM, rdS, at_agg, bofZ, bof1, bof0, zC, zS, implies_true, and_true, true_and, forall_const]; first | done | omega | (refine ⟨?_, ?_⟩ <;> omega)) | (simp (disch := (first | omega | (simp only [lnS, zA, zM, zG, zP]; omega))) [nc, nct, w64_of, zT, zZ, zM, rdS, at_agg, bofZ, bof1, bof0, zC, zS]; done))); cbv)
   | (refine E.q (QCalls.of_le (kl) ?_ ?_); (· (cbv; (try simp only [nc] at *); first | done | (simp; done) | (simp (disch := (first | omega | (simp only [lnS, zA, zM, zG, zP]; omega))) only [nc, nct, w64_of, zT, zZ, zM, rdS, at_agg, bofZ, bof1, bof0, zC, zS, implies_true, and_true, true_and, forall_const]; first | done | omega | (refine ⟨?_, ?_⟩ <;> omega)) | (simp (disch := (first | omega | (simp only [lnS, zA, zM, zG, zP]; omega))) [nc, nct, w64_of, zT, zZ, zM, rdS, at_agg, bofZ, bof1, bof0, zC, zS]; done))); cbv)
   | (refine hI2 (i + 1) ?_ ?_ ?_; rotate_left 1; (· ((try simp only [nc] at *); omega)); (cbv; clear hI2; (try clear hF); (try simp only [nc] at *); (try simp (disch := (first | omega | (simp only [lnS, zA, zM, zG, zP]; omega))) only [nc, nct, w64_of, zT, zZ, zM, rdS, at_agg, bofZ, bof1, bof0, zC, zS, implies_true, and_true, true_and, forall_const])); rotate_left 1; (try ((try simp only [nc] at *); omega)))
   | (refine ⟨fun _ h_s => ?_, fun _ h_s => ?_⟩ <;> (cbv; (try simp only [nc] at *); try simp (disch := (first | omega | (simp only [lnS, zA, zM, zG, zP]; omega))) only [nc, nct, w64_of, zT, zZ, zM, rdS, at_agg, bofZ, bof1, bof0, zC, zS, reduceCtorEq, Bool.not_true, Bool.not_false, zD, zE, zB, zF, zN, zO, ne_eq, zQ, zL, zR, beq_iff_eq] at h_s))
   | (refine hF ?_; intro _; clear hF)
   | (refine hF ?_; cbv; clear hF)
   | (refine ⟨fun _ => ?_, ?_⟩; (· ((try simp only [nc] at *); first | done | omega | exact ⟨by omega, rfl⟩ | (simp (disch := (first | omega | (simp only [lnS, zA, zM, zG, zP]; omega))) only [nc, nct, w64_of, zT, zZ, zM, rdS, at_agg, bofZ, bof1, bof0, zC, zS]; first | done | omega | rfl | exact ⟨by omega, rfl⟩ | (simp; done) | (simp; omega)) | (intros; trivial))); (try (simp only [nc] at *)); (try simp (disch := (first | omega | (simp only [lnS, zA, zM, zG, zP]; omega))) only [nc, nct, w64_of, zT, zZ, zM, rdS, at_agg, bofZ, bof1, bof0, zC, zS]); (try cbv))
   | fail
  )
  ·refine ⟨fun _ => mok_ids _, ?_⟩
   refine hI2 (i + 1) (by ((try simp only [nc] at *); omega)) (by ((try simp only [nc] at *); omega)) ?_
   cbv
   clear hI2 hF
   (try simp only [nc] at *)
   (try simp (disch := (first | omega | (simp only [lnS, zA, zM, zG, zP]; omega))) only [nc, nct, w64_of, zT, zZ, zM, rdS, at_agg, bofZ, bof1, bof0, zC, zS, implies_true, and_true, true_and, forall_const])
   refine ⟨by push_cast; rfl, ?_, ?_⟩
   ·rw [e1]; exact mputK_key _ _ _ rfl _ rfl
   ·rw [e1]; exact mputV_un _ _ _ rfl
  ·clear hI2
   have e : i = l.length := by ((try simp only [nc] at *); omega)
   subst e
   refine hI ?_
   cbv
   clear hI
   simp
 clear k0 kS kL kc kl
 have hK : ∀ d, d ∈ keyL l l.length ↔ d ∈ l := fun d => by rw [keyL_mem l d l.length (Nat.le_refl _), List.take_length]
 generalize keyL l l.length = K at *
 have kst : ∀ d, Pure Tryz.prog γ false 22 [aId d, .vp (fun _ => .vm (fun _ => ids K) (fun _ => unL K.length)) 0] (.b fun _ => decide (d ∈ l)) := fun d => by
  have k := pstays_ok (γ := γ) K K.length d
  rwa [show decide (d ∈ K) = decide (d ∈ l) from decide_eq_decide.2 (hK d)] at k
 obtain ⟨TH, hTH⟩ : ∃ TH : Nat → List (List Ev), ∀ n, TH n = (List.range n).map fun t => keepTh g l t (g.th.getD t []).length := ⟨_, fun _ => rfl⟩
 obtain ⟨FR, hFR⟩ : ∃ FR : Nat → List (List EId), ∀ n, FR n = (List.range n).map fun t => keepFr g l t (g.th.getD t []).length := ⟨_, fun _ => rfl⟩
 have hTH0 : TH 0 = [] := by rw [hTH]; rfl
 have hFR0 : FR 0 = [] := by rw [hFR]; rfl
 have hTHS : ∀ n, TH (n + 1) = TH n ++ [keepTh g l n (g.th.getD n []).length] := fun n => by rw [hTH, hTH, List.range_succ, List.map_append]; rfl
 have hFRS : ∀ n, FR (n + 1) = FR n ++ [keepFr g l n (g.th.getD n []).length] := fun n => by rw [hFR, hFR, List.range_succ, List.map_append]; rfl
 have hTHl : ∀ n, (TH n).length = n := fun n => by rw [hTH]; simp
 have hFRl : ∀ n, (FR n).length = n := fun n => by rw [hFR]; simp
 obtain ⟨EV, hEV⟩ : ∃ EV : Nat → Nat → List Ev, ∀ t i, EV t i = keepTh g l t i := ⟨_, fun _ _ => rfl⟩
 obtain ⟨FE, hFE⟩ : ∃ FE : Nat → Nat → List EId, ∀ t i, FE t i = keepFr g l t i := ⟨_, fun _ _ => rfl⟩
 have hEV0 : ∀ t, EV t 0 = [] := fun t => by rw [hEV]; rfl
 have hFE0 : ∀ t, FE t 0 = [] := fun t => by rw [hFE]; rfl
 have hEVS : ∀ t i, EV t (i + 1) = EV t i ++ if (⟨(t : Int) + 1, (i : Int)⟩ : EId) ∈ l then [(g.th.getD t []).getD i ev0] else [] := fun t i => by rw [hEV, hEV, keepTh_succ]
 have hFES : ∀ t i, FE t (i + 1) = FE t i ++ if (⟨(t : Int) + 1, (i : Int)⟩ : EId) ∈ l then [(g.fr.getD t []).getD i id0] else [] := fun t i => by rw [hFE, hFE, keepFr_succ]
 have hEVl : ∀ t i, (EV t i).length ≤ i := fun t i => by rw [hEV]; unfold keepTh; rw [List.length_map]; exact keepP_len l t i
 have hFEl : ∀ t i, (FE t i).length = (EV t i).length := fun t i => by rw [hFE, hEV]; unfold keepTh keepFr; rw [List.length_map, List.length_map]
 simp only [← hEV, ← hFE] at hTHS hFRS
 obtain ⟨G, hG⟩ : ∃ G : Nat → Nat, ∀ x, G x = x := ⟨_, fun _ => rfl⟩
 have hG0 : G 0 = 0 := hG 0
 have hle := hs.at
 obtain ⟨HP, hHP⟩ : ∃ HP : Nat → List Blk, ∀ t, HP t = [.box (aGr g), .box (.agg [.nils, .nils, .nils, .nils]), .map (fun _ => ids K) (fun _ => unL K.length), .box (.mp 2), .box (.agg [.vs 1 fun _ => is g.init, .sl 5 (G t) 1 (fun _ => 0) fun _ => t, .sl 6 (G t) 1 (fun _ => 0) fun _ => t, .nils]), .run (G t) 1 fun _ => evss (TH t), .run (G t) 1 fun _ => idss (FR t)] := ⟨_, fun _ => rfl⟩
 clear hHP HP
 refine E.cut 2 (told 125 [(1, .vs 2 fun _ => ids l), (2, .ptr 0 0), (4, .ptr 1 0), (9, .fn 22 [] [.ptr 3 0]), (10, .ptr 4 0)] [.box (aGr g), .box (.agg [.nils, .nils, .nils, .nils]), .map (fun _ => ids K) (fun _ => unL K.length), .box (.mp 2), .box (.agg [.vs 1 fun _ => is g.init, .vs 1 fun _ => evss (TH g.th.length), .vs 1 fun _ => idss (FR g.th.length), .nils])]) (by kernel_rfl) (Nat.zero_le _) (fun I hI => ?_) ?_
 ·cbv
  refine E.w (AWP.ghostField 4 1 1 rfl rfl ?_)
  refine AWP.ghostField 4 2 1 rfl rfl ?_
  refine E.loopCA (ι := Nat) (fun t => t ≤ g.th.length) (fun t => g.th.length - t) (fun t => [(47, .i fun _ => ((t : Nat) : Int))]) (fun t => [.box (aGr g), .box (.agg [.nils, .nils, .nils, .nils]), .map (fun _ => ids K) (fun _ => unL K.length), .box (.mp 2), .box (.agg [.vs 1 fun _ => is g.init, .sl 5 (G t) 1 (fun _ => 0) fun _ => t, .sl 6 (G t) 1 (fun _ => 0) fun _ => t, .nils]), .run (G t) 1 fun _ => evss (TH t), .run (G t) 1 fun _ => idss (FR t)]) 0 rfl (fun _ => rfl) (Nat.zero_le _) ?_ fun t ht I2 hI2 => ?_
  ·cbv; simp [hG0, hTH0, hFR0, evss, idss, LV.of]
  refine E.cutI (ι := Unit) 2 (fun _ => t < g.th.length) (fun _ => told 125 [(1, .vs 2 fun _ => ids l), (2, .ptr 0 0), (4, .ptr 1 0), (9, .fn 22 [] [.ptr 3 0]), (10, .ptr 4 0), (44, .ptr 0 1), (45, .vs 1 fun _ => evss g.th), (46, .i fun _ => (g.th.length : Int)), (47, .i fun _ => ((t : Nat) : Int))] [.box (aGr g), .box (.agg [.nils, .nils, .nils, .nils]), .map (fun _ => ids K) (fun _ => unL K.length), .box (.mp 2), .box (.agg [.vs 1 fun _ => is g.init, .sl 5 (G t) 1 (fun _ => 0) fun _ => t, .sl 6 (G t) 1 (fun _ => 0) fun _ => t, .nils]), .run (G t) 1 fun _ => evss (TH t), .run (G t) 1 fun _ => idss (FR t)]) (by kernel_rfl) (fun _ => Nat.le_refl _) (fun I3 hI3 => ?_) fun _ ht2 => ?_
  ·cbv
   repeat' (first
    | (refine ⟨fun _ h_s => ?_, fun _ h_s => ?_⟩ <;> (cbv; (try simp only [nc] at *); try simp (disch := (first | omega | (simp only [lnS, zA, zM, zG, zP]; omega))) only [nc, nct, w64_of, zT, zZ, zM, rdS, at_agg, bofZ, bof1, bof0, zC, zS, reduceCtorEq, Bool.not_true, Bool.not_false, zD, zE, zB, zF, zN, zO, ne_eq, zQ, zL, zR, beq_iff_eq] at h_s))
    | (refine hF ?_; intro _; clear hF)
    | (refine hF ?_; cbv; clear hF)
    | (refine ⟨fun _ => ?_, ?_⟩; (· ((try simp only [nc] at *); first | done | omega | exact ⟨by omega, rfl⟩ | (simp (disch := (first | omega | (simp only [lnS, zA, zM, zG, zP]; omega))) only [nc, nct, w64_of, zT, zZ, zM, rdS, at_agg, bofZ, bof1, bof0, zC, zS]; first | done | omega | rfl | exact ⟨by omega, rfl⟩ | (simp; done) | (simp; omega)) | (intros; trivial))); (try (simp only [nc] at *)); (try simp (disch := (first | omega | (simp only [lnS, zA, zM, zG, zP]; omega))) only [nc, nct, w64_of, zT, zZ, zM, rdS, at_agg, bofZ, bof1, bof0, zC, zS]); (try cbv))
    | fail
   )
   ·refine hI3 () (by ((try simp only [nc] at *); omega)) ?_
    cbv; simp
   ·refine hI ?_
    have e : t = g.th.length := by ((try simp only [nc] at *); omega)
    subst e
    cbv
    have q1 := hTHl g.th.length
    have q2 := hFRl g.th.length
    simp only [evss_len, idss_len, q1, q2]
    simp
    exact ⟨List.take_of_length_le (by simp [q1]), List.take_of_length_le (by simp [q2])⟩
  have hTt := hTHl t
  have hFt := hFRl t
  have hle0 := hle t
  refine AWPl.block ?_
  refine E.cut 5 (told 125 [(1, .vs 2 fun _ => ids l), (2, .ptr 0 0), (4, .ptr 1 0), (9, .fn 22 [] [.ptr 3 0]), (10, .ptr 4 0), (12, .vs 5 fun _ => evs (EV t (g.th.getD t []).length)), (13, .vs 2 fun _ => ids (FE t (g.th.getD t []).length)), (44, .ptr 0 1), (45, .vs 1 fun _ => evss g.th), (46, .i fun _ => (g.th.length : Int)), (47, .i fun _ => ((t : Nat) : Int))] [.box (aGr g), .box (.agg [.nils, .nils, .nils, .nils]), .map (fun _ => ids K) (fun _ => unL K.length), .box (.mp 2), .box (.agg [.vs 1 fun _ => is g.init, .sl 5 (G t) 1 (fun _ => 0) fun _ => t, .sl 6 (G t) 1 (fun _ => 0) fun _ => t, .nils]), .run (G t) 1 fun _ => evss (TH t), .run (G t) 1 fun _ => idss (FR t)]) (by kernel_rfl) (Nat.le_refl _) (fun I3 hI3 => ?_) (E.blk ?_)
  ·cbv
   repeat' (first
    | (refine ⟨fun _ h_s => ?_, fun _ h_s => ?_⟩ <;> (cbv; (try simp only [nc] at *); try simp (disch := (first | omega | (simp only [lnS, zA, zM, zG, zP]; omega))) only [nc, nct, w64_of, zT, zZ, zM, rdS, at_agg, bofZ, bof1, bof0, zC, zS, reduceCtorEq, Bool.not_true, Bool.not_false, zD, zE, zB, zF, zN, zO, ne_eq, zQ, zL, zR, beq_iff_eq] at h_s))
    | (refine hF ?_; intro _; clear hF)
    | (refine hF ?_; cbv; clear hF)
    | (refine ⟨fun _ => ?_, ?_⟩; (· ((try simp only [nc] at *); first | done | omega | exact ⟨by omega, rfl⟩ | (simp (disch := (first | omega | (simp only [lnS, zA, zM, zG, zP]; omega))) only [nc, nct, w64_of, zT, zZ, zM, rdS, at_agg, bofZ, bof1, bof0, zC, zS]; first | done | omega | rfl | exact ⟨by omega, rfl⟩ | (simp; done) | (simp; omega)) | (intros; trivial))); (try (simp only [nc] at *)); (try simp (disch := (first | omega | (simp only [lnS, zA, zM, zG, zP]; omega))) only [nc, nct, w64_of, zT, zZ, zM, rdS, at_agg, bofZ, bof1, bof0, zC, zS]); (try cbv))
    | fail
   )
   refine E.w (AWP.ghostSlot 12 5 rfl (by omega) ?_)
   refine AWP.ghostSlot 13 2 rfl (by omega) ?_
   refine E.loopSA (ι := Nat) (fun i => i ≤ (g.th.getD t []).length) (fun i => (g.th.getD t []).length - i) (fun i => [(12, .sl 7 (G (EV t i).length) 5 (fun _ => 0) fun _ => (EV t i).length), (13, .sl 8 (G (EV t i).length) 2 (fun _ => 0) fun _ => (EV t i).length), (56, .i fun _ => ((i : Nat) : Int))]) (fun i h => (h.set 7 (.run (G (EV t i).length) 5 fun _ => evs (EV t i))).set 8 (.run (G (EV t i).length) 2 fun _ => ids (FE t i))) 0 (fun _ => by first | rfl | simp) (Nat.zero_le _) ?_ fun i hi I4 hI4 => ?_
   ·cbv; simp [hG0, hEV0, hFE0, evs, ids, LV.of]
   cbv
   have hfl : g.fr.length = g.th.length := hgo.lfr
   have hfe : (g.fr.getD t []).length = (g.th.getD t []).length := (hgo.events t ht2).1
   have f1 := hEVS t i
   have f2 := hFES t i
   have f3 := hEVl t i
   have f4 := hFEl t i
   skip
   repeat' (first
    | (refine hI4 (i + 1) ?_ ?_ ?_; rotate_left 1; (· ((try simp only [nc] at *); omega)); (cbv; clear hI4; (try clear hF); (try simp only [nc] at *); (try simp (disch := (first | omega | (simp only [lnS, zA, zM, zG, zP]; omega))) only [nc, nct, w64_of, zT, zZ, zM, rdS, at_agg, bofZ, bof1, bof0, zC, zS, implies_true, and_true, true_and, forall_const])); rotate_left 1; (try ((try simp only [nc] at *); omega)))
    | (refine E.de 14 [7, 8] [] (by decide +kernel) ?_; cbv; (fail_if_success guard_target =~ False))
    | (refine E.c (SCalls.of_bare (kst ⟨t + 1, i⟩) rfl ?_ ?_); (· (cbv; (try simp only [nc] at *); first | done | (simp; done) | (simp (disch := (first | omega | (simp only [lnS, zA, zM, zG, zP]; omega))) only [nc, nct, w64_of, zT, zZ, zM, rdS, at_agg, bofZ, bof1, bof0, zC, zS, implies_true, and_true, true_and, forall_const]; first | done | omega | (refine ⟨?_, ?_⟩ <;> omega)) | (simp (disch := (first | omega | (simp only [lnS, zA, zM, zG, zP]; omega))) [nc, nct, w64_of, zT, zZ, zM, rdS, at_agg, bofZ, bof1, bof0, zC, zS]; done))); cbv)
    | (refine E.q (QCalls.of_bare (kst ⟨t + 1, i⟩) rfl ?_ ?_); (· (cbv; (try simp only [nc] at *); first | done | (simp; done) | (simp (disch := (first | omega | (simp only [lnS, zA, zM, zG, zP]; omega))) only [nc, nct, w64_of, zT, zZ, zM, rdS, at_agg, bofZ, bof1, bof0, zC, zS, implies_true, and_true, true_and, forall_const]; first | done | omega | (refine ⟨?_, ?_⟩ <;> omega)) | (simp (disch := (first | omega | (simp only [lnS, zA, zM, zG, zP]; omega))) [nc, nct, w64_of, zT, zZ, zM, rdS, at_agg, bofZ, bof1, bof0, zC, zS]; done))); cbv)
    | (refine ⟨fun _ h_s => ?_, fun _ h_s => ?_⟩ <;> (cbv; (try simp only [nc] at *); try simp (disch := (first | omega | (simp only [lnS, zA, zM, zG, zP]; omega))) only [nc, nct, w64_of, zT, zZ, zM, rdS, at_agg, bofZ, bof1, bof0, zC, zS, reduceCtorEq, Bool.not_true, Bool.not_false, zD, zE, zB, zF, zN, zO, ne_eq, zQ, zL, zR, beq_iff_eq] at h_s))
    | (refine hF ?_; intro _; clear hF)
    | (refine hF ?_; cbv; clear hF)
    | (refine ⟨fun _ => ?_, ?_⟩; (· ((try simp only [nc] at *); first | done | omega | exact ⟨by omega, rfl⟩ | (simp (disch := (first | omega | (simp only [lnS, zA, zM, zG, zP]; omega))) only [nc, nct, w64_of, zT, zZ, zM, rdS, at_agg, bofZ, bof1, bof0, zC, zS]; first | done | omega | rfl | exact ⟨by omega, rfl⟩ | (simp; done) | (simp; omega)) | (intros; trivial) | exact ⟨by first | trivial | rfl, by first | trivial | rfl | simp, by first | trivial | (simp; done) | (simp [f4]; done) | (simp [*]; done), by simp; omega, by simp; omega, by simp [AV.flat, AV.cells, AV.one]⟩)); (try (simp only [nc] at *)); (try simp (disch := (first | omega | (simp only [lnS, zA, zM, zG, zP]; omega))) only [nc, nct, w64_of, zT, zZ, zM, rdS, at_agg, bofZ, bof1, bof0, zC, zS]); (try cbv))
    | fail
   )
   ·have hm : (⟨(t : Int) + 1, (i : Int)⟩ : EId) ∈ l := by simpa using h_s
    rw [if_pos hm] at f1 f2
    simp [hG, f1, f2, evs, ids, setAll, AV.nrm, nrms, nrm1]
   ·have hm : (⟨(t : Int) + 1, (i : Int)⟩ : EId) ∉ l := by simpa using h_s
    rw [if_neg hm, List.append_nil] at f1 f2
    simp [f1, f2]
   ·clear hI4
    have e : i = (g.th.getD t []).length := by ((try simp only [nc] at *); omega)
    subst e
    refine hI3 ?_
    cbv
    have q := hFEl t (g.th.getD t []).length
    have q1 : List.take (EV t (g.th.getD t []).length).length (evs (EV t (g.th.getD t []).length)).l = (evs (EV t (g.th.getD t []).length)).l := List.take_of_length_le (by rw [evs_len]; exact Nat.le_refl _)
    have q2 : List.take (EV t (g.th.getD t []).length).length (ids (FE t (g.th.getD t []).length)).l = (ids (FE t (g.th.getD t []).length)).l := List.take_of_length_le (by rw [ids_len, q]; exact Nat.le_refl _)
    simp only [evs_len, ids_len, q, List.drop_zero, q1, q2, and_self, implies_true, Nat.zero_add, Nat.le_refl]
  cbv
  have f1 := hTHS t
  have f2 := hFRS t
  repeat' (first
   | (refine hI2 (t + 1) ?_ ?_ ?_; rotate_left 1; (· ((try simp only [nc] at *); omega)); (cbv; clear hI2; (try clear hF); (try simp only [nc] at *); (try simp (disch := (first | omega | (simp only [lnS, zA, zM, zG, zP]; omega))) only [nc, nct, w64_of, zT, zZ, zM, rdS, at_agg, bofZ, bof1, bof0, zC, zS, implies_true, and_true, true_and, forall_const])); rotate_left 1; (try ((try simp only [nc] at *); omega)))
   | (refine E.de 11 [5, 6] [] (by decide +kernel) ?_; cbv; (fail_if_success guard_target =~ False))
   | (refine ⟨fun _ h_s => ?_, fun _ h_s => ?_⟩ <;> (cbv; (try simp only [nc] at *); try simp (disch := (first | omega | (simp only [lnS, zA, zM, zG, zP]; omega))) only [nc, nct, w64_of, zT, zZ, zM, rdS, at_agg, bofZ, bof1, bof0, zC, zS, reduceCtorEq, Bool.not_true, Bool.not_false, zD, zE, zB, zF, zN, zO, ne_eq, zQ, zL, zR, beq_iff_eq] at h_s))
   | (refine hF ?_; intro _; clear hF)
   | (refine hF ?_; cbv; clear hF)
   | (refine ⟨fun _ => ?_, ?_⟩; (· ((try simp only [nc] at *); first | done | omega | exact ⟨by omega, rfl⟩ | (simp (disch := (first | omega | (simp only [lnS, zA, zM, zG, zP]; omega))) only [nc, nct, w64_of, zT, zZ, zM, rdS, at_agg, bofZ, bof1, bof0, zC, zS]; first | done | omega | rfl | exact ⟨by omega, rfl⟩ | (simp; done) | (simp; omega)) | (intros; trivial) | exact ⟨by first | trivial | rfl, by first | trivial | rfl | simp, by first | trivial | (simp; done) | (simp [f4]; done) | (simp [*]; done), by simp; omega, by simp; omega, by simp [AV.flat, AV.cells, AV.one]⟩)); (try (simp only [nc] at *)); (try simp (disch := (first | omega | (simp only [lnS, zA, zM, zG, zP]; omega))) only [nc, nct, w64_of, zT, zZ, zM, rdS, at_agg, bofZ, bof1, bof0, zC, zS]); (try cbv))
   | fail
  )
  simp [hG, f1, f2, evss, idss, setAll, AV.nrm, nrms, nrm1]
 have hTHe : TH g.th.length = (keepM g l).th := hTH _
 have hFRe : FR g.th.length = (keepM g l).fr := hFR _
 rw [hTHe, hFRe]
 have hki : (keepM g l).init = g.init := rfl
 obtain ⟨OR, hOR⟩ : ∃ OR : Nat → List (List EId), ∀ n, OR n = (g.ord.take n).map (keepO l) := ⟨_, fun _ => rfl⟩
 obtain ⟨OE, hOE⟩ : ∃ OE : Nat → Nat → List EId, ∀ x i, OE x i = keepO l ((g.ord.getD x []).take i) := ⟨_, fun _ _ => rfl⟩
 have hOR0 : OR 0 = [] := by rw [hOR]; rfl
 have hORS : ∀ n, n < g.ord.length → OR (n + 1) = OR n ++ [OE n (g.ord.getD n []).length] := fun n hn => by rw [hOR, hOR, hOE, take_succ' _ n [] hn, List.map_append, List.take_length]; rfl
 have hORl : ∀ n, n ≤ g.ord.length → (OR n).length = n := fun n hn => by rw [hOR]; simp; omega
 have hORe : OR g.ord.length = (keepM g l).ord := by rw [hOR, List.take_length]; rfl
 have hOE0 : ∀ x, OE x 0 = [] := fun x => by rw [hOE]; rfl
 have hOES : ∀ x i, i < (g.ord.getD x []).length → OE x (i + 1) = OE x i ++ if (g.ord.getD x []).getD i id0 ∈ l then [(g.ord.getD x []).getD i id0] else [] := fun x i hi => by
  rw [hOE, hOE, take_succ' _ i id0 hi]
  unfold keepO
  rw [List.filter_append]
  congr 1
  by_cases h : (g.ord.getD x []).getD i id0 ∈ l
  ·rw [if_pos h, List.filter_cons_of_pos (by simpa using h)]; rfl
  ·rw [if_neg h, List.filter_cons_of_neg (by simpa using h)]; rfl
 have hOEl : ∀ x i, (OE x i).length ≤ i := fun x i => by rw [hOE]; unfold keepO; exact Nat.le_trans (List.length_filter_le _ _) (by simp; omega)
 clear hTH hFR hTH0 hFR0 hTHS hFRS hTHl hFRl hTHe hFRe hEV hFE hEV0 hFE0 hEVS hFES hEVl hFEl
 clear TH FR EV FE
 rw [← hki]
 have hol : g.ord.length ≤ 6 := by have := hgo.lord; omega
 obtain ⟨k, hk⟩ : ∃ k, keepM g l = k := ⟨_, rfl⟩
 rw [hk] at hki hORe ⊢
 have hcn : ∀ x, x < g.ord.length → (g.ord.getD x []).length ≤ 56 := fun x hx => by
  have h1 := hgo.orders x (by rw [← hgo.lord]; exact hx)
  unfold orderedM at h1
  rw [Bool.and_eq_true, decide_eq_true_eq, decide_eq_true_eq] at h1
  have h2 := cntT_le (x : Int) hs.ths
  omega
 refine E.bl ?_
 cbv
 refine E.w (AWP.ghostField 4 3 1 rfl rfl ?_)
 refine E.loopCA (ι := Nat) (fun x => x ≤ g.ord.length) (fun x => g.ord.length - x) (fun x => [(99, .i fun _ => ((x : Nat) : Int))]) (fun x => [.box (aGr g), .box (.agg [.nils, .nils, .nils, .nils]), .map (fun _ => ids K) (fun _ => unL K.length), .box (.mp 2), .box (.agg [.vs 1 fun _ => is k.init, .vs 1 fun _ => evss k.th, .vs 1 fun _ => idss k.fr, .sl 5 (G x) 1 (fun _ => 0) fun _ => x]), .run (G x) 1 fun _ => idss (OR x)]) 0 rfl (fun _ => rfl) (Nat.zero_le _) ?_ fun x hx I2 hI2 => ?_
 ·cbv; simp [hG0, hOR0, idss, LV.of]
 refine E.cutI (ι := Unit) 2 (fun _ => x < g.ord.length) (fun _ => told 125 [(1, .vs 2 fun _ => ids l), (2, .ptr 0 0), (4, .ptr 1 0), (9, .fn 22 [] [.ptr 3 0]), (10, .ptr 4 0), (96, .ptr 0 3), (97, .vs 1 fun _ => idss g.ord), (98, .i fun _ => (g.ord.length : Int)), (99, .i fun _ => ((x : Nat) : Int))] [.box (aGr g), .box (.agg [.nils, .nils, .nils, .nils]), .map (fun _ => ids K) (fun _ => unL K.length), .box (.mp 2), .box (.agg [.vs 1 fun _ => is k.init, .vs 1 fun _ => evss k.th, .vs 1 fun _ => idss k.fr, .sl 5 (G x) 1 (fun _ => 0) fun _ => x]), .run (G x) 1 fun _ => idss (OR x)]) (by kernel_rfl) (fun _ => Nat.le_refl _) (fun I3 hI3 => ?_) fun _ hx2 => ?_
 ·cbv
  repeat' (first
   | (refine ⟨fun _ h_s => ?_, fun _ h_s => ?_⟩ <;> (cbv; (try simp only [nc] at *); try simp (disch := (first | omega | (simp only [lnS, zA, zM, zG, zP]; omega))) only [nc, nct, w64_of, zT, zZ, zM, rdS, at_agg, bofZ, bof1, bof0, zC, zS, reduceCtorEq, Bool.not_true, Bool.not_false, zD, zE, zB, zF, zN, zO, ne_eq, zQ, zL, zR, beq_iff_eq] at h_s))
   | (refine hF ?_; intro _; clear hF)
   | (refine hF ?_; cbv; clear hF)
   | (refine ⟨fun _ => ?_, ?_⟩; (· ((try simp only [nc] at *); first | done | omega | exact ⟨by omega, rfl⟩ | (simp (disch := (first | omega | (simp only [lnS, zA, zM, zG, zP]; omega))) only [nc, nct, w64_of, zT, zZ, zM, rdS, at_agg, bofZ, bof1, bof0, zC, zS]; first | done | omega | rfl | exact ⟨by omega, rfl⟩ | (simp; done) | (simp; omega)) | (intros; trivial) | exact ⟨by first | trivial | rfl, by first | trivial | rfl | simp, by first | trivial | (simp; done) | (simp [f4]; done) | (simp [*]; done), by simp; omega, by simp; omega, by simp [AV.flat, AV.cells, AV.one]⟩)); (try (simp only [nc] at *)); (try simp (disch := (first | omega | (simp only [lnS, zA, zM, zG, zP]; omega))) only [nc, nct, w64_of, zT, zZ, zM, rdS, at_agg, bofZ, bof1, bof0, zC, zS]); (try cbv))
   | fail
  )
  ·refine hI3 () (by ((try simp only [nc] at *); omega)) ?_
   cbv; simp
  ·have e : x = g.ord.length := by ((try simp only [nc] at *); omega)
   subst e
   have q1 := hORl g.ord.length (Nat.le_refl _)
   have q2 : List.take g.ord.length (idss (OR g.ord.length)).l = (idss (OR g.ord.length)).l := List.take_of_length_le (by rw [idss_len, q1]; exact Nat.le_refl _)
   cbv
   simp only [hk, ← hORe]
   simp only [idss_len, q1, List.drop_zero, q2]
   simp
 have hOx := hORl x hx
 have hcx := hcn x hx2
 refine AWPl.block ?_
 refine E.cut 4 (told 125 [(1, .vs 2 fun _ => ids l), (2, .ptr 0 0), (4, .ptr 1 0), (9, .fn 22 [] [.ptr 3 0]), (10, .ptr 4 0), (18, .vs 2 fun _ => ids (OE x (g.ord.getD x []).length)), (96, .ptr 0 3), (97, .vs 1 fun _ => idss g.ord), (98, .i fun _ => (g.ord.length : Int)), (99, .i fun _ => ((x : Nat) : Int))] [.box (aGr g), .box (.agg [.nils, .nils, .nils, .nils]), .map (fun _ => ids K) (fun _ => unL K.length), .box (.mp 2), .box (.agg [.vs 1 fun _ => is k.init, .vs 1 fun _ => evss k.th, .vs 1 fun _ => idss k.fr, .sl 5 (G x) 1 (fun _ => 0) fun _ => x]), .run (G x) 1 fun _ => idss (OR x)]) (by kernel_rfl) (Nat.le_refl _) (fun I3 hI3 => ?_) (E.blk ?_)
 ·cbv
  repeat' (first
   | (refine ⟨fun _ h_s => ?_, fun _ h_s => ?_⟩ <;> (cbv; (try simp only [nc] at *); try simp (disch := (first | omega | (simp only [lnS, zA, zM, zG, zP]; omega))) only [nc, nct, w64_of, zT, zZ, zM, rdS, at_agg, bofZ, bof1, bof0, zC, zS, reduceCtorEq, Bool.not_true, Bool.not_false, zD, zE, zB, zF, zN, zO, ne_eq, zQ, zL, zR, beq_iff_eq] at h_s))
   | (refine hF ?_; intro _; clear hF)
   | (refine hF ?_; cbv; clear hF)
   | (refine ⟨fun _ => ?_, ?_⟩; (· ((try simp only [nc] at *); first | done | omega | exact ⟨by omega, rfl⟩ | (simp (disch := (first | omega | (simp only [lnS, zA, zM, zG, zP]; omega))) only [nc, nct, w64_of, zT, zZ, zM, rdS, at_agg, bofZ, bof1, bof0, zC, zS]; first | done | omega | rfl | exact ⟨by omega, rfl⟩ | (simp; done) | (simp; omega)) | (intros; trivial) | exact ⟨by first | trivial | rfl, by first | trivial | rfl | simp, by first | trivial | (simp; done) | (simp [f4]; done) | (simp [*]; done), by simp; omega, by simp; omega, by simp [AV.flat, AV.cells, AV.one]⟩)); (try (simp only [nc] at *)); (try simp (disch := (first | omega | (simp only [lnS, zA, zM, zG, zP]; omega))) only [nc, nct, w64_of, zT, zZ, zM, rdS, at_agg, bofZ, bof1, bof0, zC, zS]); (try cbv))
   | fail
  )
  refine E.w (AWP.ghostSlot 18 2 rfl (by omega) (E.loopSA (ι := Nat) (fun i => i ≤ (g.ord.getD x []).length) (fun i => (g.ord.getD x []).length - i) (fun i => [(105, .i fun _ => ((i : Nat) : Int)), (18, .sl 6 (G (OE x i).length) 2 (fun _ => 0) fun _ => (OE x i).length)]) (fun i h => h.set 6 (.run (G (OE x i).length) 2 fun _ => ids (OE x i))) 0 (fun _ => by first | rfl | simp) (Nat.zero_le _) ?_ fun i hi I4 hI4 => ?_))
  ·cbv; simp [hG0, hOE0, ids, LV.of]
  cbv
  have f1 := hOES x i
  have f3 := hOEl x i
  repeat' (first
   | (refine hI4 (i + 1) ?_ ?_ ?_; rotate_left 1; (· ((try simp only [nc] at *); omega)); (cbv; clear hI4; (try clear hF); (try simp only [nc] at *); (try simp (disch := (first | omega | (simp only [lnS, zA, zM, zG, zP]; omega))) only [nc, nct, w64_of, zT, zZ, zM, rdS, at_agg, bofZ, bof1, bof0, zC, zS, implies_true, and_true, true_and, forall_const])); rotate_left 1; (try ((try simp only [nc] at *); omega)))
   | (refine E.c (SCalls.of_bare (kst ((g.ord.getD x []).getD i id0)) rfl ?_ ?_); (· (cbv; (try simp only [nc] at *); first | done | (simp; done) | (simp (disch := (first | omega | (simp only [lnS, zA, zM, zG, zP]; omega))) only [nc, nct, w64_of, zT, zZ, zM, rdS, at_agg, bofZ, bof1, bof0, zC, zS, implies_true, and_true, true_and, forall_const]; first | done | omega | (refine ⟨?_, ?_⟩ <;> omega)) | (simp (disch := (first | omega | (simp only [lnS, zA, zM, zG, zP]; omega))) [nc, nct, w64_of, zT, zZ, zM, rdS, at_agg, bofZ, bof1, bof0, zC, zS]; done))); cbv)
   | (refine E.q (QCalls.of_bare (kst ((g.ord.getD x []).getD i id0)) rfl ?_ ?_); (· (cbv; (try simp only [nc] at *); first | done | (simp; done) | (simp (disch := (first | omega | (simp only [lnS, zA, zM, zG, zP]; omega))) only [nc, nct, w64_of, zT, zZ, zM, rdS, at_agg, bofZ, bof1, bof0, zC, zS, implies_true, and_true, true_and, forall_const]; first | done | omega | (refine ⟨?_, ?_⟩ <;> omega)) | (simp (disch := (first | omega | (simp only [lnS, zA, zM, zG, zP]; omega))) [nc, nct, w64_of, zT, zZ, zM, rdS, at_agg, bofZ, bof1, bof0, zC, zS]; done))); cbv)
   | (refine ⟨fun _ h_s => ?_, fun _ h_s => ?_⟩ <;> (cbv; (try simp only [nc] at *); try simp (disch := (first | omega | (simp only [lnS, zA, zM, zG, zP]; omega))) only [nc, nct, w64_of, zT, zZ, zM, rdS, at_agg, bofZ, bof1, bof0, zC, zS, reduceCtorEq, Bool.not_true, Bool.not_false, zD, zE, zB, zF, zN, zO, ne_eq, zQ, zL, zR, beq_iff_eq] at h_s))
   | (refine hF ?_; intro _; clear hF)
   | (refine hF ?_; cbv; clear hF)
   | (refine ⟨fun _ => ?_, ?_⟩; (· ((try simp only [nc] at *); first | done | omega | exact ⟨by omega, rfl⟩ | (simp (disch := (first | omega | (simp only [lnS, zA, zM, zG, zP]; omega))) only [nc, nct, w64_of, zT, zZ, zM, rdS, at_agg, bofZ, bof1, bof0, zC, zS]; first | done | omega | rfl | exact ⟨by omega, rfl⟩ | (simp; done) | (simp; omega)) | (intros; trivial) | exact ⟨by first | trivial | rfl, by first | trivial | rfl | simp, by first | trivial | (simp; done) | (simp [f4]; done) | (simp [*]; done), by simp; omega, by simp; omega, by simp [AV.flat, AV.cells, AV.one]⟩)); (try (simp only [nc] at *)); (try simp (disch := (first | omega | (simp only [lnS, zA, zM, zG, zP]; omega))) only [nc, nct, w64_of, zT, zZ, zM, rdS, at_agg, bofZ, bof1, bof0, zC, zS]); (try cbv))
   | fail
  )
  ·have hm : (g.ord.getD x []).getD i id0 ∈ l := by simpa using h_s
   rw [f1 (by ((try simp only [nc] at *); omega)), if_pos hm]
   simp [hG, ids, setAll, AV.nrm, nrms, nrm1]
  ·have hm : (g.ord.getD x []).getD i id0 ∉ l := by simpa using h_s
   rw [f1 (by ((try simp only [nc] at *); omega)), if_neg hm, List.append_nil]
   simp
  ·clear hI4
   have e : i = (g.ord.getD x []).length := by ((try simp only [nc] at *); omega)
   subst e
   refine hI3 ?_
   cbv
   have q2 : List.take (OE x (g.ord.getD x []).length).length (ids (OE x (g.ord.getD x []).length)).l = (ids (OE x (g.ord.getD x []).length)).l := List.take_of_length_le (by rw [ids_len]; exact Nat.le_refl _)
   simp only [ids_len, List.drop_zero, q2, and_self, implies_true, Nat.zero_add, Nat.le_refl]
 cbv
 have f1 := hORS x hx2
 repeat' (first
  | (refine hI2 (x + 1) ?_ ?_ ?_; rotate_left 1; (· ((try simp only [nc] at *); omega)); (cbv; clear hI2; (try clear hF); (try simp only [nc] at *); (try simp (disch := (first | omega | (simp only [lnS, zA, zM, zG, zP]; omega))) only [nc, nct, w64_of, zT, zZ, zM, rdS, at_agg, bofZ, bof1, bof0, zC, zS, implies_true, and_true, true_and, forall_const])); rotate_left 1; (try ((try simp only [nc] at *); omega)))
  | (refine ⟨fun _ h_s => ?_, fun _ h_s => ?_⟩ <;> (cbv; (try simp only [nc] at *); try simp (disch := (first | omega | (simp only [lnS, zA, zM, zG, zP]; omega))) only [nc, nct, w64_of, zT, zZ, zM, rdS, at_agg, bofZ, bof1, bof0, zC, zS, reduceCtorEq, Bool.not_true, Bool.not_false, zD, zE, zB, zF, zN, zO, ne_eq, zQ, zL, zR, beq_iff_eq] at h_s))
  | (refine hF ?_; intro _; clear hF)
  | (refine hF ?_; cbv; clear hF)
  | (refine ⟨fun _ => ?_, ?_⟩; (· ((try simp only [nc] at *); first | done | omega | exact ⟨by omega, rfl⟩ | (simp (disch := (first | omega | (simp only [lnS, zA, zM, zG, zP]; omega))) only [nc, nct, w64_of, zT, zZ, zM, rdS, at_agg, bofZ, bof1, bof0, zC, zS]; first | done | omega | rfl | exact ⟨by omega, rfl⟩ | (simp; done) | (simp; omega)) | (intros; trivial) | exact ⟨by first | trivial | rfl, by first | trivial | rfl | simp, by first | trivial | (simp; done) | (simp [f4]; done) | (simp [*]; done), by simp; omega, by simp; omega, by simp [AV.flat, AV.cells, AV.one]⟩)); (try (simp only [nc] at *)); (try simp (disch := (first | omega | (simp only [lnS, zA, zM, zG, zP]; omega))) only [nc, nct, w64_of, zT, zZ, zM, rdS, at_agg, bofZ, bof1, bof0, zC, zS]); (try cbv))
  | fail
 )
 simp [hG, f1, idss, setAll, AV.nrm, nrms, nrm1]
end Go.AL.Rl

namespace Go.AL.Rl
open Go Go.AL Go.Proofs
set_option maxRecDepth 100000
set_option maxHeartbeats 3200000
variable {γ : Nat → Option AV}

/-- the last place of a mark among the first ones -/
def lastK (ms : List Mk) (d : Mk) : Nat → Option Nat
 | 0 => none
 | n + 1 => if ms.getD n mk0 = d then some n else lastK ms d n
def plK (ms : List Mk) (d : Mk) : Int := match lastK ms d ms.length with | some k => (k : Nat) | none => -1
/-- the last place, as long as they go up -/
def scanK (p : Mk → Int) (l : List Mk) : Option Int := l.foldl (fun s d => s.bind fun x => if x < p d then some (p d) else none) (some (-1))
def needE (t : Nat) (l : List Ev) (i : Nat) : List Mk := (List.range i).flatMap fun (j : Nat) => needM ⟨(t : Int) + 1, (j : Int)⟩ (l.getD j ev0).kind
def cntN (g : Gr) (t : Nat) : Nat := ((List.range t).map fun k => (needE k (g.th.getD k []) (g.th.getD k []).length).length).sum
def markedM (g : Gr) (ms : List Mk) : Bool := decide (∀ t < g.th.length, (scanK (plK ms) (needE t (g.th.getD t []) (g.th.getD t []).length)).isSome = true) && decide (cntN g g.th.length = ms.length)
end Go.AL.Rl

namespace Go.AL.Rl
open Go Go.AL Go.Proofs
set_option maxRecDepth 100000
set_option maxHeartbeats 3200000
variable {γ : Nat → Option AV}

end Go.AL.Rl

namespace Go.AL.Rl
open Go Go.AL Go.Proofs
set_option maxRecDepth 100000
set_option maxHeartbeats 3200000
variable {γ : Nat → Option AV}

end Go.AL.Rl

namespace Go.AL.Rl
open Go Go.AL Go.Proofs
set_option maxRecDepth 100000
set_option maxHeartbeats 3200000
variable {γ : Nat → Option AV}

def halfOk (s : Sta) : Bool := decide (0 ≤ s.half) && decide (s.half ≤ s.g.th.length) && (decide (s.half = 0) || (decide ((s.g.th.getD (s.half - 1).toNat []).length ≠ 0) && decide (((s.g.th.getD (s.half - 1).toNat []).getD ((s.g.th.getD (s.half - 1).toNat []).length - 1) ev0).kind = 1)))
def SOk (s : Sta) : Prop := GOk s.g ∧ markedM s.g s.ms = true ∧ halfOk s = true
instance (s : Sta) : Decidable (SOk s) := inferInstanceAs (Decidable (_ ∧ _))
end Go.AL.Rl

namespace Go.AL.Rl
open Go Go.AL Go.Proofs
set_option maxRecDepth 100000
set_option maxHeartbeats 3200000
variable {γ : Nat → Option AV}

abbrev sz : Sta := ⟨gz, [], 0⟩
theorem keep_th (g : Gr) (l : List EId) (t : Nat) : (keepM g l).th.getD t [] = if t < g.th.length then keepTh g l t (g.th.getD t []).length else [] := by
 unfold keepM
 by_cases h : t < g.th.length
 ·rw [if_pos h]; simp [h]
 ·rw [if_neg h]; simp [h]
theorem keep_thl (g : Gr) (l : List EId) : (keepM g l).th.length = g.th.length := by simp [keepM]
theorem keep_le (g : Gr) (l : List EId) (t : Nat) : ((keepM g l).th.getD t []).length ≤ (g.th.getD t []).length := by
 rw [keep_th]
 split
 ·unfold keepTh; rw [List.length_map]; exact keepP_len l t _
 ·exact Nat.zero_le _
end Go.AL.Rl

namespace Go.AL.Rl
open Go Go.AL Go.Proofs
set_option maxRecDepth 100000
set_option maxHeartbeats 3200000
variable {γ : Nat → Option AV}

theorem kids_ok (a b : List EId) (ha : (a.length : Int) ≤ 9223372036854775807) : Pure Tryz.prog γ false 14 [.vs 2 fun _ => ids a, .vs 2 fun _ => ids b] (.b fun _ => decide (a = b)) := by
 refine Pure.go (ty := ty) ty_eq mo Tryz.func14 rfl Tryz.ntmps14 Tryz.results14 Tryz.call14 (by simp) fun P C CQ D W F E hF => ?_
 cbv
 repeat' (first
  | (refine ⟨fun _ h_s => ?_, fun _ h_s => ?_⟩ <;> (cbv; (try simp only [nc] at *); try simp (disch := (first | omega | (simp only [lnS, zA, zM, zG, zP]; omega))) only [nc, nct, w64_of, zT, zZ, zM, rdS, at_agg, bofZ, bof1, bof0, zC, zS, reduceCtorEq, Bool.not_true, Bool.not_false, zD, zE, zB, zF, zN, zO, ne_eq, zQ, zL, zR, beq_iff_eq] at h_s))
  | (refine hF ?_; intro _; clear hF)
  | (refine hF ?_; cbv; clear hF)
  | (refine ⟨fun _ => ?_, ?_⟩; (· ((try simp only [nc] at *); first | done | omega | exact ⟨by omega, rfl⟩ | (simp (disch := (first | omega | (simp only [lnS, zA, zM, zG, zP]; omega))) only [nc, nct, w64_of, zT, zZ, zM, rdS, at_agg, bofZ, bof1, bof0, zC, zS]; first | done | omega | rfl | exact ⟨by omega, rfl⟩ | (simp; done) | (simp; omega)) | (intros; trivial))); (try (simp only [nc] at *)); (try simp (disch := (first | omega | (simp only [lnS, zA, zM, zG, zP]; omega))) only [nc, nct, w64_of, zT, zZ, zM, rdS, at_agg, bofZ, bof1, bof0, zC, zS]); (try cbv))
  | (refine E.d 8 (by decide +kernel) ?_; cbv; (fail_if_success guard_target =~ False))
  | fail
 )
 ·simp
  intro e; subst e; simp_all
 ·refine E.loopS (ι := Nat) (fun i => i ≤ a.length ∧ (∀ k < i, a.getD k id0 = b.getD k id0)) (fun i => a.length - i) (fun i => [(5, .i fun _ => ((i : Nat) : Int))]) (fun i h => h) 0 (fun _ => by first | rfl | simp) ⟨Nat.zero_le _, ?_⟩ ?_ fun i hi I hI => ?_
  ·intro k hk; omega
  ·cbv; simp
  cbv
  obtain ⟨hi, hp⟩ := hi
  repeat' (first
   | (refine hI (i + 1) ?_ ?_ ?_; rotate_left 1; (· ((try simp only [nc] at *); omega)); (cbv; clear hI; (try clear hF); (try simp only [nc] at *); (try simp (disch := (first | omega | (simp only [lnS, zA, zM, zG, zP]; omega))) only [nc, nct, w64_of, zT, zZ, zM, rdS, at_agg, bofZ, bof1, bof0, zC, zS, implies_true, and_true, true_and, forall_const])); rotate_left 1; (try ((try simp only [nc] at *); omega)))
   | (refine ⟨fun _ h_s => ?_, fun _ h_s => ?_⟩ <;> (cbv; (try simp only [nc] at *); try simp (disch := (first | omega | (simp only [lnS, zA, zM, zG, zP]; omega))) only [nc, nct, w64_of, zT, zZ, zM, rdS, at_agg, bofZ, bof1, bof0, zC, zS, reduceCtorEq, Bool.not_true, Bool.not_false, zD, zE, zB, zF, zN, zO, ne_eq, zQ, zL, zR, beq_iff_eq] at h_s))
   | (refine hF ?_; intro _; clear hF)
   | (refine hF ?_; cbv; clear hF)
   | (refine ⟨fun _ => ?_, ?_⟩; (· ((try simp only [nc] at *); first | done | omega | exact ⟨by omega, rfl⟩ | (simp (disch := (first | omega | (simp only [lnS, zA, zM, zG, zP]; omega))) only [nc, nct, w64_of, zT, zZ, zM, rdS, at_agg, bofZ, bof1, bof0, zC, zS]; first | done | omega | rfl | exact ⟨by omega, rfl⟩ | (simp; done) | (simp; omega)) | (intros; trivial))); (try (simp only [nc] at *)); (try simp (disch := (first | omega | (simp only [lnS, zA, zM, zG, zP]; omega))) only [nc, nct, w64_of, zT, zZ, zM, rdS, at_agg, bofZ, bof1, bof0, zC, zS]); (try cbv))
   | (refine E.d 8 (by decide +kernel) ?_; cbv; (fail_if_success guard_target =~ False))
   | fail
  )
  ·refine decide_eq_false fun e => ?_
   subst e
   simp at h_s
  ·refine ⟨by ((try simp only [nc] at *); omega), fun k hk => ?_⟩
   rcases Nat.lt_or_ge k i with h1 | h1
   ·exact hp k h1
   ·obtain rfl : k = i := by omega
    have h2 : (a.getD k id0).t = (b.getD k id0).t ∧ (a.getD k id0).i = (b.getD k id0).i := by simpa using h_s
    exact EId.ext' h2.1 h2.2
  ·push_cast; rfl
  ·refine decide_eq_true (List.ext_getElem (by ((try simp only [nc] at *); omega)) fun k h1 h2 => ?_)
   have := hp k (by ((try simp only [nc] at *); omega))
   simpa [h1, h2] using this
end Go.AL.Rl

namespace Go.AL.Rl
open Go Go.AL Go.Proofs
set_option maxRecDepth 100000
set_option maxHeartbeats 3200000
variable {γ : Nat → Option AV}

def gX : Gr := ⟨[0, 0], [[⟨2, 1, 1, 0, 5⟩, ⟨2, 0, 4, 0, 1⟩], [⟨1, 0, 3, 1, 0⟩, ⟨1, 1, 1, 5, 0⟩]], [[⟨0, 0⟩, ⟨0, 0⟩], [⟨1, 1⟩, ⟨1, 0⟩]], [[⟨1, 1⟩], [⟨1, 0⟩]]⟩
theorem rdX : Rd gX := by
 refine ⟨by simp [gX], by simp [gX], by simp [gX], by simp [gX], ?_, ?_, ?_⟩ <;> simp [gX]
theorem exX_ok : Pure Tryz.prog γ false 13 [] (aGr gX) := by
 refine Pure.go (ty := ty) ty_eq mo Tryz.func13 rfl Tryz.ntmps13 Tryz.results13 Tryz.call13 (by simp) fun P C CQ D W F E hF => ?_
 cbv
 repeat' (first
  | (refine ⟨fun _ h_s => ?_, fun _ h_s => ?_⟩ <;> (cbv; (try simp only [nc] at *); try simp (disch := (first | omega | (simp only [lnS, zA, zM, zG, zP]; omega))) only [nc, nct, w64_of, zT, zZ, zM, rdS, at_agg, bofZ, bof1, bof0, zC, zS, reduceCtorEq, Bool.not_true, Bool.not_false, zD, zE, zB, zF, zN, zO, ne_eq, zQ, zL, zR, beq_iff_eq] at h_s))
  | (refine hF ?_; intro _; clear hF)
  | (refine hF ?_; cbv; clear hF)
  | (refine ⟨fun _ => ?_, ?_⟩; (· ((try simp only [nc] at *); first | done | omega | exact ⟨by omega, rfl⟩ | (simp (disch := (first | omega | (simp only [lnS, zA, zM, zG, zP]; omega))) only [nc, nct, w64_of, zT, zZ, zM, rdS, at_agg, bofZ, bof1, bof0, zC, zS]; first | done | omega | rfl | exact ⟨by omega, rfl⟩ | (simp; done) | (simp; omega)) | (intros; trivial))); (try (simp only [nc] at *)); (try simp (disch := (first | omega | (simp only [lnS, zA, zM, zG, zP]; omega))) only [nc, nct, w64_of, zT, zZ, zM, rdS, at_agg, bofZ, bof1, bof0, zC, zS]); (try cbv))
  | fail
 )
 all_goals simp [gX, is, ids, evs, evss, idss, LV.of, LV.l, setAll, AV.nrm, nrms, nrm1]
theorem lX1 : leansM gX ⟨2, 0⟩ = [⟨1, 0⟩, ⟨1, 1⟩] := by decide +kernel
theorem cX1 : closedG gX [⟨1, 0⟩] = true := by decide +kernel
theorem cX2 : closedG gX [⟨2, 0⟩] = false := by decide +kernel
theorem kX : (keepM gX [⟨1, 0⟩]).th.length = 2 ∧ ((keepM gX [⟨1, 0⟩]).th.getD 0 []).length = 1 ∧ ((keepM gX [⟨1, 0⟩]).th.getD 1 []).length = 0 ∧ (keepM gX [⟨1, 0⟩]).ord.length = 2 ∧ ((keepM gX [⟨1, 0⟩]).ord.getD 0 []).length = 0 := by decide +kernel
theorem lives18_ok (hγ : γ 0 = some tabAV) : Pure Tryz.prog γ false 4 [] (.b fun _ => true) := by
 have ke := exX_ok (γ := γ)
 have k1 := pleans_ok (γ := γ) hγ gX rdX ⟨2, 0⟩
 have k2 := pkeep_yes (γ := γ) hγ gX rdX [⟨1, 0⟩] (by simp) cX1
 have k3 := pkeep_no (γ := γ) hγ gX rdX [⟨2, 0⟩] (by simp) cX2
 have ki := kids_ok (γ := γ) [⟨1, 0⟩, ⟨1, 1⟩] [⟨1, 0⟩, ⟨1, 1⟩] (by simp)
 rw [lX1] at k1
 obtain ⟨h1, h2, h3, h4, h5⟩ := kX
 generalize keepM gX [⟨1, 0⟩] = k at *
 generalize gX = g at *
 have g0 := evss_get k.th 0 (by omega)
 have g1 := evss_get k.th 1 (by omega)
 have g2 := idss_get k.ord 0 (by omega)
 refine Pure.go (ty := ty) ty_eq mo Tryz.func4 rfl Tryz.ntmps4 Tryz.results4 Tryz.call4 (by simp) fun P C CQ D W F E hF => ?_
 cbv
 repeat' (first
  | (refine E.c (SCalls.of_le (ki) ?_ ?_); (· (cbv; simp [rls, ps, us, is, ids, evs, evss, idss, LV.of, setAll, AV.nrm]; done)); cbv)
  | (refine E.q (QCalls.of_le (ki) ?_ ?_); (· (cbv; simp [rls, ps, us, is, ids, evs, evss, idss, LV.of, setAll, AV.nrm]; done)); cbv)
  | (refine E.c (SCalls.of_le (k3) ?_ ?_); (· (cbv; simp [rls, ps, us, is, ids, evs, evss, idss, LV.of, setAll, AV.nrm]; done)); cbv)
  | (refine E.q (QCalls.of_le (k3) ?_ ?_); (· (cbv; simp [rls, ps, us, is, ids, evs, evss, idss, LV.of, setAll, AV.nrm]; done)); cbv)
  | (refine E.c (SCalls.of_le (k2) ?_ ?_); (· (cbv; simp [rls, ps, us, is, ids, evs, evss, idss, LV.of, setAll, AV.nrm]; done)); cbv)
  | (refine E.q (QCalls.of_le (k2) ?_ ?_); (· (cbv; simp [rls, ps, us, is, ids, evs, evss, idss, LV.of, setAll, AV.nrm]; done)); cbv)
  | (refine E.c (SCalls.of_le (k1) ?_ ?_); (· (cbv; (try simp only [nc] at *); first | done | (simp; done) | (simp (disch := (first | omega | (simp only [lnS, zA, zM, zG, zP]; omega))) only [nc, nct, w64_of, zT, zZ, zM, rdS, at_agg, bofZ, bof1, bof0, zC, zS, implies_true, and_true, true_and, forall_const]; first | done | omega | (refine ⟨?_, ?_⟩ <;> omega)) | (simp (disch := (first | omega | (simp only [lnS, zA, zM, zG, zP]; omega))) [nc, nct, w64_of, zT, zZ, zM, rdS, at_agg, bofZ, bof1, bof0, zC, zS]; done))); cbv)
  | (refine E.c (SCalls.of_le (ke) ?_ ?_); (· (cbv; (try simp only [nc] at *); first | done | (simp; done) | (simp (disch := (first | omega | (simp only [lnS, zA, zM, zG, zP]; omega))) only [nc, nct, w64_of, zT, zZ, zM, rdS, at_agg, bofZ, bof1, bof0, zC, zS, implies_true, and_true, true_and, forall_const]; first | done | omega | (refine ⟨?_, ?_⟩ <;> omega)) | (simp (disch := (first | omega | (simp only [lnS, zA, zM, zG, zP]; omega))) [nc, nct, w64_of, zT, zZ, zM, rdS, at_agg, bofZ, bof1, bof0, zC, zS]; done))); cbv)
  | (refine ⟨fun _ h_s => ?_, fun _ h_s => ?_⟩ <;> (cbv; (try simp only [nc] at *); try simp (disch := (first | omega | (simp only [lnS, zA, zM, zG, zP]; omega))) only [nc, nct, w64_of, zT, zZ, zM, rdS, at_agg, bofZ, bof1, bof0, zC, zS, reduceCtorEq, Bool.not_true, Bool.not_false, zD, zE, zB, zF, zN, zO, ne_eq, zQ, zL, zR, beq_iff_eq] at h_s))
  | (refine hF ?_; intro _; clear hF)
  | (refine hF ?_; cbv; clear hF)
  | (refine ⟨fun _ => ?_, ?_⟩; (· ((try simp only [nc] at *); first | done | omega | exact ⟨by omega, rfl⟩ | (simp (disch := (first | omega | (simp only [lnS, zA, zM, zG, zP]; omega))) only [nc, nct, w64_of, zT, zZ, zM, rdS, at_agg, bofZ, bof1, bof0, zC, zS]; first | done | omega | rfl | exact ⟨by omega, rfl⟩ | (simp; done) | (simp; omega)) | (intros; trivial))); (try (simp only [nc] at *)); (try simp (disch := (first | omega | (simp only [lnS, zA, zM, zG, zP]; omega))) only [nc, nct, w64_of, zT, zZ, zM, rdS, at_agg, bofZ, bof1, bof0, zC, zS]); (try cbv))
  | fail
 )
 all_goals first
  | (simp; done)
  | (exfalso; ((try simp only [nc] at *); omega))
  | (exfalso; revert h_s; simp; done)
  | (exfalso; rw [show Int.toNat 1 = 1 from rfl] at h_s; omega)
end Go.AL.Rl

namespace Go.AL.Rl
open Go Go.AL Go.Proofs
set_option maxRecDepth 100000
set_option maxHeartbeats 3200000

def evT (g : Gr) (d : EId) : Prop := 1 ≤ d.t ∧ d.t ≤ g.th.length ∧ 0 ≤ d.i ∧ d.i < (g.th.getD (d.t - 1).toNat []).length
theorem evT_iff {g : Gr} {d : EId} : evT g d ↔ d ∈ idsT g g.th.length := (idsT_mem (g := g) (t := g.th.length) (d := d)).symm
def ahead (g : Gr) (a d : EId) : Prop := (a.t = d.t ∧ a.i < d.i) ∨ (readsM ((eventM g d).getD ev0) = true ∧ srcOf g d = a)
def Dn (g : Gr) (l : List EId) : Prop := ∀ d ∈ l, ∀ a, evT g a → ahead g a d → a ∈ l
theorem idx_lo {g : Gr} {j : Nat} (h : j < g.init.length) : (idsG g).getD j id0 = ⟨0, j⟩ := by
 unfold idsG
 rw [List.getD_eq_getElem?_getD, List.getElem?_append_left (by rw [idsI_len]; exact h)]
 simp [idsI, h]
theorem idx_hi {g : Gr} {j : Nat} (h : g.init.length ≤ j) (hj : j < nG g) : evT g ((idsG g).getD j id0) := by
 rw [evT_iff]
 unfold nG at hj
 unfold idsG at hj ⊢
 rw [List.length_append, idsI_len] at hj
 rw [List.getD_eq_getElem?_getD, List.getElem?_append_right (by rw [idsI_len]; exact h), idsI_len, ← List.getD_eq_getElem?_getD]
 exact getD_mem (by omega)
theorem idx_of {g : Gr} {d : EId} (h : evT g d) : ∃ j, g.init.length ≤ j ∧ j < nG g ∧ (idsG g).getD j id0 = d := by
 have hm : d ∈ idsG g := by rw [idsG, List.mem_append]; exact .inr (evT_iff.1 h)
 refine ⟨numOf (idsG g) d, ?_, numOf_lt hm, numOf_get hm⟩
 rcases Nat.lt_or_ge (numOf (idsG g) d) g.init.length with h1 | h1
 ·have := idx_lo h1
  rw [numOf_get hm] at this
  have e : d.t = 0 := congrArg EId.t this
  have := h.1
  omega
 ·exact h1
theorem numI_iff {g : Gr} {d : EId} {j : Nat} (hj : j < nG g) : numI (idsG g) d = j ↔ (idsG g).getD j id0 = d := by
 constructor
 ·intro h
  unfold numI at h
  cases e : (idsG g).findIdx? fun x => decide (x = d) with
  | none => rw [e] at h; simp only at h; omega
  | some k =>
   rw [e] at h
   simp only at h
   have hk : k = j := by omega
   subst hk
   rw [List.findIdx?_eq_some_iff_getElem] at e
   obtain ⟨h1, h2, _⟩ := e
   simpa [h1] using h2
 ·intro h
  exact numI_at hj h fun k hk e => by
   have := getD_inj (idsG_nodup g) (i := k) (j := j) (by unfold nG at hj; omega) hj (e.trans h.symm)
   omega
theorem bitP_iff {g : Gr} (hn : nG g ≤ 62) (d : EId) (j : Nat) : (bitP (idsG g) g.init.length d).getLsbD j = true ↔ g.init.length ≤ j ∧ j < nG g ∧ (idsG g).getD j id0 = d := by
 have hb := numI_lt (idsG g) d
 unfold bitP
 by_cases h1 : numI (idsG g) d < g.init.length
 ·rw [if_pos h1]
  constructor
  ·intro h; simp at h
  ·rintro ⟨h2, h3, h4⟩
   have := (numI_iff h3).2 h4
   omega
 ·rw [if_neg h1]
  have hlt : (numI (idsG g) d).toNat < nG g := by unfold nG; omega
  by_cases hj : j < 64
  ·rw [one_shl_bit _ j hj, decide_eq_true_eq]
   constructor
   ·rintro rfl
    exact ⟨by omega, hlt, (numI_iff hlt).1 (by omega)⟩
   ·rintro ⟨h2, h3, h4⟩
    have := (numI_iff h3).2 h4
    omega
  ·rw [BitVec.getLsbD_of_ge _ j (by omega)]
   constructor
   ·intro h; cases h
   ·intro h; omega
theorem maskP_iff {g : Gr} (hn : nG g ≤ 62) (l : List EId) (j : Nat) : ∀ k, k ≤ l.length → ((maskT (bitP (idsG g) g.init.length) l k).getLsbD j = true ↔ g.init.length ≤ j ∧ j < nG g ∧ (idsG g).getD j id0 ∈ l.take k)
 | 0, _ => by simp [maskT]
 | k + 1, h => by
  unfold maskT
  rw [BitVec.getLsbD_or, Bool.or_eq_true, maskP_iff hn l j k (by omega), bitP_iff hn, take_succ' l k id0 (by omega), List.mem_append, List.mem_singleton]
  constructor
  ·rintro (⟨h1, h2, h3⟩ | ⟨h1, h2, h3⟩)
   ·exact ⟨h1, h2, .inl h3⟩
   ·exact ⟨h1, h2, .inr h3⟩
  ·rintro ⟨h1, h2, h3 | h3⟩
   ·exact .inl ⟨h1, h2, h3⟩
   ·exact .inr ⟨h1, h2, h3⟩
theorem back_iff {g : Gr} (hg : GOk g) (i j : Nat) : bit (backF (viewG g) (nG g)) i j = true ↔ j < nG g ∧ i < nG g ∧ (poM (viewG g) j i = true ∨ rfM (viewG g) j i = true) := by
 have hn := (viewG_wf hg).small
 have f1 := fits_poF (viewG g) hn
 have f2 := fits_rfF (viewG g) hn
 unfold backF
 rw [bit_turn (fits_or2 f1 f2), bit_or2 f1 f2]
 unfold poF rfF
 rw [bit_relI hn, bit_relI hn]
 constructor
 ·rintro (⟨h1, h2, h3⟩ | ⟨h1, h2, h3⟩)
  ·exact ⟨h1, h2, .inl h3⟩
  ·exact ⟨h1, h2, .inr h3⟩
 ·rintro ⟨h1, h2, h3 | h3⟩
  ·exact .inl ⟨h1, h2, h3⟩
  ·exact .inr ⟨h1, h2, h3⟩
theorem rf_view {g : Gr} {i j : Nat} (hi : i < nG g) : rfM (viewG g) j i = true ↔ frOf g ((idsG g).getD i id0) = j := by
 unfold rfM viewG
 rw [decide_eq_true_eq, tabI_get _ _ _ hi]
theorem back_lo {g : Gr} (hg : GOk g) {i j : Nat} (hi : i < g.init.length) : ¬ bit (backF (viewG g) (nG g)) i j = true := by
 rw [back_iff hg]
 rintro ⟨h1, h2, h3⟩
 have e := idx_lo hi
 rcases h3 with h3 | h3
 ·unfold poM at h3
  simp only [viewG, e] at h3
  simp at h3
 ·rw [rf_view h2, e] at h3
  unfold frOf at h3
  rw [if_pos rfl] at h3
  omega
theorem po_view {g : Gr} {i j : Nat} (h1 : 1 ≤ ((idsG g).getD j id0).t) (h2 : 1 ≤ ((idsG g).getD i id0).t) : poM (viewG g) j i = true ↔ ((idsG g).getD j id0).t = ((idsG g).getD i id0).t ∧ ((idsG g).getD j id0).i < ((idsG g).getD i id0).i := by
 show (decide (((idsG g).getD i id0).t ≠ 0) && (decide (((idsG g).getD j id0).t = 0) || decide (((idsG g).getD j id0).t = ((idsG g).getD i id0).t) && decide (((idsG g).getD j id0).i < ((idsG g).getD i id0).i))) = true ↔ _
 rw [decide_eq_true (show ((idsG g).getD i id0).t ≠ 0 by omega), decide_eq_false (show ¬ ((idsG g).getD j id0).t = 0 by omega), Bool.true_and, Bool.false_or, Bool.and_eq_true, decide_eq_true_eq, decide_eq_true_eq]
theorem back_hi {g : Gr} (hg : GOk g) {i j : Nat} (hi : g.init.length ≤ i) (hj : g.init.length ≤ j) (hi2 : i < nG g) (hj2 : j < nG g) : bit (backF (viewG g) (nG g)) i j = true ↔ ahead g ((idsG g).getD j id0) ((idsG g).getD i id0) := by
 rw [back_iff hg]
 have e1 := idx_hi hi hi2
 have e2 := idx_hi hj hj2
 have hm : (idsG g).getD i id0 ∈ idsG g := getD_mem hi2
 have z1 := e1.1
 have z2 := e2.1
 rw [rf_view hi2, po_view z2 z1]
 unfold ahead frOf
 rw [if_neg (by omega)]
 by_cases hr : readsM ((eventM g ((idsG g).getD i id0)).getD ev0) = true
 ·rw [if_pos hr]
  obtain ⟨w, hw, _⟩ := source_mem (src_ok hg hm (by omega)) hr
  have hs : srcOf g ((idsG g).getD i id0) ∈ idsG g := idsG_mem.2 (by rw [hw]; rfl)
  constructor
  ·rintro ⟨_, _, h | h⟩
   ·exact .inl h
   ·refine .inr ⟨hr, ?_⟩
    rw [← numOf_get hs]
    congr 1; omega
  ·rintro (h | ⟨_, h⟩)
   ·exact ⟨hj2, hi2, .inl h⟩
   ·refine ⟨hj2, hi2, .inr ?_⟩
    rw [h, numOf_at (idsG_nodup g) hj2]
 ·rw [if_neg hr]
  constructor
  ·rintro ⟨_, _, h | h⟩
   ·exact .inl h
   ·omega
  ·rintro (h | ⟨h, _⟩)
   ·exact ⟨hj2, hi2, .inl h⟩
   ·exact absurd h hr
/-- what is closed: events of threads, none twice, with all ahead of them -/
def ClG (g : Gr) (l : List EId) : Prop := l.Nodup ∧ (∀ d ∈ l, evT g d) ∧ Dn g l
/-- masks that take what is ahead -/
theorem grow_in {g : Gr} (hg : GOk g) {m : BitVec 64} (S : EId → Prop) (hm : ∀ j, m.getLsbD j = true → g.init.length ≤ j ∧ j < nG g ∧ S ((idsG g).getD j id0))
  (hS : ∀ d, evT g d → S d → ∀ a, evT g a → ahead g a d → S a) {j : Nat} (h : (growM (nG g) (backF (viewG g) (nG g)) m).getLsbD j = true) (hx : g.init.length ≤ j) : j < nG g ∧ S ((idsG g).getD j id0) := by
 have hn := (viewG_wf hg).small
 have hf := backF_fits (viewG g) hn
 rw [grow_bit hf] at h
 have key : ∀ p j, bit (plusM (nG g) (backF (viewG g) (nG g))) p j = true → (g.init.length ≤ p → S ((idsG g).getD p id0)) → (g.init.length ≤ j → S ((idsG g).getD j id0)) := by
  intro p j hpj
  refine plus_least (fun a b => (g.init.length ≤ a → S ((idsG g).getD a id0)) → (g.init.length ≤ b → S ((idsG g).getD b id0))) (fun a b hab ha hb => ?_) (fun a b c h1 h2 h3 => h2 (h1 h3)) hpj
  have hab2 := (back_iff hg a b).1 hab
  rcases Nat.lt_or_ge a g.init.length with h1 | h1
  ·exact absurd hab (back_lo hg h1)
  ·exact hS _ (idx_hi h1 hab2.2.1) (ha h1) _ (idx_hi hb hab2.1) ((back_hi hg h1 hb hab2.2.1 hab2.1).1 hab)
 rcases h with h | ⟨p, h1, h2⟩
 ·exact ⟨(hm j h).2.1, (hm j h).2.2⟩
 ·refine ⟨?_, key p j h2 (fun _ => (hm p h1).2.2) hx⟩
  have := (fits_bits (fits_plus hf) h2).2
  have e := (fits_plus hf).2.2.1
  omega
theorem closedG_iff (g : Gr) (l : List EId) : closedG g l = true ↔ GOk g ∧ ClG g l := by
 unfold closedG
 rw [Bool.and_eq_true, decide_eq_true_eq]
 refine and_congr_right fun hg => ?_
 have hn := (viewG_wf hg).small
 have hf := backF_fits (viewG g) hn
 unfold closedP ClG
 rw [Bool.and_eq_true, decide_eq_true_eq, decide_eq_true_eq]
 have hmask := fun j => maskP_iff hn l j l.length (Nat.le_refl _)
 rw [List.take_length] at hmask
 have hmk : ∀ k, k ≤ l.length → ∀ j, _ := fun k hk j => maskP_iff hn l j k hk
 have hok : (∀ k < l.length, okP (bitP (idsG g) g.init.length) l k = true) ↔ l.Nodup ∧ ∀ d ∈ l, evT g d := by
  have one : ∀ k < l.length, (okP (bitP (idsG g) g.init.length) l k = true ↔ evT g (l.getD k id0) ∧ l.getD k id0 ∉ l.take k) := fun k hk => by
   unfold okP
   rw [Bool.and_eq_true, decide_eq_true_eq, decide_eq_true_eq]
   constructor
   ·rintro ⟨h1, h2⟩
    have hev : evT g (l.getD k id0) := by
     by_cases hnone : ∀ j, (bitP (idsG g) g.init.length (l.getD k id0)).getLsbD j = false
     ·exact absurd (BitVec.eq_of_getLsbD_eq fun j _ => by rw [hnone]; simp) h1
     ·simp only [Classical.not_forall, Bool.not_eq_false] at hnone
      obtain ⟨j, hj⟩ := hnone
      obtain ⟨g1, g2, g3⟩ := (bitP_iff hn _ j).1 hj
      rw [← g3]; exact idx_hi g1 g2
    refine ⟨hev, fun hin => ?_⟩
    obtain ⟨j, g1, g2, g3⟩ := idx_of hev
    have b1 := (bitP_iff hn (l.getD k id0) j).2 ⟨g1, g2, g3⟩
    have b2 := (hmk k (by omega) j).2 ⟨g1, g2, by rw [g3]; exact hin⟩
    have := congrArg (fun m => m.getLsbD j) h2
    simp only [BitVec.getLsbD_and, b1, b2] at this
    simp at this
   ·rintro ⟨h1, h2⟩
    obtain ⟨j, g1, g2, g3⟩ := idx_of h1
    refine ⟨fun e => ?_, BitVec.eq_of_getLsbD_eq fun i _ => ?_⟩
    ·have := (bitP_iff hn (l.getD k id0) j).2 ⟨g1, g2, g3⟩
     rw [e] at this; simp at this
    ·rw [BitVec.getLsbD_and]
     cases hi : (bitP (idsG g) g.init.length (l.getD k id0)).getLsbD i with
     | false => simp
     | true =>
      obtain ⟨_, _, q3⟩ := (bitP_iff hn _ i).1 hi
      cases hm : (maskT (bitP (idsG g) g.init.length) l k).getLsbD i with
      | false => simp
      | true =>
       obtain ⟨_, _, r3⟩ := (hmk k (by omega) i).1 hm
       rw [q3] at r3; exact absurd r3 h2
  constructor
  ·intro h
   refine ⟨?_, fun d hd => ?_⟩
   ·unfold List.Nodup
    rw [List.pairwise_iff_getElem]
    intro i k hi hk hik e
    have := ((one k hk).1 (h k hk)).2
    refine this ?_
    have e2 : l.getD k id0 = l[k] := by simp [hk]
    rw [e2, ← e, List.mem_take_iff_getElem]
    exact ⟨i, by omega, rfl⟩
   ·obtain ⟨k, hk, e⟩ := List.getElem_of_mem hd
    have := ((one k hk).1 (h k hk)).1
    rwa [show l.getD k id0 = d by simp [hk, e]] at this
  ·rintro ⟨h1, h2⟩ k hk
   refine (one k hk).2 ⟨h2 _ (getD_mem hk), fun hin => ?_⟩
   rw [List.mem_take_iff_getElem] at hin
   obtain ⟨i, hi, e⟩ := hin
   have := getD_inj h1 (i := i) (j := k) (by omega) hk (by rw [show l.getD i id0 = l[i] by simp [show i < l.length by omega]]; exact e)
   omega
 rw [hok]
 constructor
 ·rintro ⟨⟨h1, h2⟩, h3⟩
  refine ⟨h1, h2, fun d hd a ha hah => ?_⟩
  obtain ⟨i, i1, i2, i3⟩ := idx_of (h2 d hd)
  obtain ⟨j, j1, j2, j3⟩ := idx_of ha
  have b1 := (hmask i).2 ⟨i1, i2, by rw [i3]; exact hd⟩
  have b2 : (growM (nG g) (backF (viewG g) (nG g)) (maskT (bitP (idsG g) g.init.length) l l.length)).getLsbD j = true :=
   grow_closed hf _ ((grow_bit hf _ _).2 (.inl b1)) ((back_hi hg i1 j1 i2 j2).2 (by rw [i3, j3]; exact hah))
  have b3 : (evP g.init.length (growM (nG g) (backF (viewG g) (nG g)) (maskT (bitP (idsG g) g.init.length) l l.length))).getLsbD j = true := by
   rw [ev_bit, b2]; simp [j1]
  rw [h3] at b3
  have := ((hmask j).1 b3).2.2
  rwa [j3] at this
 ·rintro ⟨h1, h2, h3⟩
  refine ⟨⟨h1, h2⟩, BitVec.eq_of_getLsbD_eq fun j _ => ?_⟩
  rw [Bool.eq_iff_iff, ev_bit, Bool.and_eq_true, decide_eq_true_eq]
  constructor
  ·rintro ⟨hx, hgr⟩
   obtain ⟨q1, q2⟩ := grow_in hg (fun d => d ∈ l) (fun j hj => (hmask j).1 hj) (fun d _ hd a ha hah => h3 d hd a ha hah) hgr hx
   exact (hmask j).2 ⟨hx, q1, q2⟩
  ·intro hj
   exact ⟨((hmask j).1 hj).1, (grow_bit hf _ _).2 (.inl hj)⟩
/-- what Close tells -/
theorem close_mem {g : Gr} (hg : GOk g) (l : List EId) (d : EId) : d ∈ closeM g l ↔ ∃ j, g.init.length ≤ j ∧ j < nG g ∧ (growM (nG g) (backF (viewG g) (nG g)) (maskT (bitP (idsG g) g.init.length) l l.length)).getLsbD j = true ∧ (idsG g).getD j id0 = d := by
 have hn := (viewG_wf hg).small
 have hf := backF_fits (viewG g) hn
 unfold closeM tellM
 rw [if_pos hg]
 simp only [List.mem_map, List.mem_filter, List.mem_range, ev_bit, Bool.and_eq_true, decide_eq_true_eq]
 constructor
 ·rintro ⟨j, ⟨_, h2, h3⟩, h4⟩
  exact ⟨j, h2, grow_lt hf (fun j hj => maskT_lt (fun d j => bitP_lt) l _ j hj) h3, h3, h4⟩
 ·rintro ⟨j, h1, h2, h3, h4⟩
  exact ⟨j, ⟨by omega, h1, h3⟩, h4⟩
theorem close_nodup (g : Gr) (l : List EId) : (closeM g l).Nodup := by
 unfold closeM
 split
 ·rename_i hg
  have hn := (viewG_wf hg).small
  have hf := backF_fits (viewG g) hn
  unfold tellM List.Nodup
  rw [List.pairwise_map]
  refine List.Pairwise.imp_of_mem ?_ (List.nodup_range.filter _)
  intro a b ha hb hab e
  simp only [List.mem_filter, List.mem_range, ev_bit, Bool.and_eq_true, decide_eq_true_eq] at ha hb
  have la : a < (idsG g).length := grow_lt hf (fun j hj => maskT_lt (fun d j => bitP_lt) l _ j hj) ha.2.2
  have lb : b < (idsG g).length := grow_lt hf (fun j hj => maskT_lt (fun d j => bitP_lt) l _ j hj) hb.2.2
  exact hab (getD_inj (idsG_nodup g) la lb e)
 ·exact List.nodup_nil
theorem close_cl {g : Gr} (hg : GOk g) (l : List EId) : ClG g (closeM g l) := by
 have hn := (viewG_wf hg).small
 have hf := backF_fits (viewG g) hn
 refine ⟨close_nodup g l, fun d hd => ?_, fun d hd a ha hah => ?_⟩
 ·obtain ⟨j, h1, h2, _, h4⟩ := (close_mem hg l d).1 hd
  rw [← h4]; exact idx_hi h1 h2
 ·obtain ⟨i, h1, h2, h3, h4⟩ := (close_mem hg l d).1 hd
  obtain ⟨j, j1, j2, j3⟩ := idx_of ha
  exact (close_mem hg l a).2 ⟨j, j1, j2, grow_closed hf _ h3 ((back_hi hg h1 j1 h2 j2).2 (by rw [h4, j3]; exact hah)), j3⟩
end Go.AL.Rl
