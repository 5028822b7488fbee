import Derived.Test.YtffobfcddfppnaaDh6
set_option linter.unusedVariables false
set_option linter.unusedSimpArgs false
namespace Go.AL.Rl
open Go Go.AL Go.Proofs
set_option maxRecDepth 100000
set_option maxHeartbeats 1600000
variable {γ : Nat → Option AV}

def NG (g : Gr) : Int := if GOk g then (nG g : Nat) else 0
def rowsG (g : Gr) (f : Vw → Nat → List (BitVec 64)) : List (BitVec 64) := if GOk g then f (viewG g) (nG g) else []
def maskG (g : Gr) (f : Vw → Nat → BitVec 64) : BitVec 64 := if GOk g then f (viewG g) (nG g) else 0#64
def poF (V : Vw) (n : Nat) : List (BitVec 64) := relRows n (poM V)
def rfF (V : Vw) (n : Nat) : List (BitVec 64) := relRows n (rfM V)
def coF (V : Vw) (n : Nat) : List (BitVec 64) := relRows n (coM V)
def frF (V : Vw) (n : Nat) : List (BitVec 64) := relRows n (frM V)
def locF (V : Vw) (n : Nat) : List (BitVec 64) := relRows n (locM V)
noncomputable def swF (V : Vw) (n : Nat) : List (BitVec 64) := relRows n (bit (swRows V n))
def ecoF (V : Vw) (n : Nat) : List (BitVec 64) := plusM n (orM n [((n : Int), rfF V n), ((n : Int), coF V n), ((n : Int), frF V n)])
def porfF (V : Vw) (n : Nat) : List (BitVec 64) := plusM n (orM n [((n : Int), poF V n), ((n : Int), rfF V n)])
noncomputable def hbF (V : Vw) (n : Nat) : List (BitVec 64) := plusM n (orM n [((n : Int), poF V n), ((n : Int), swF V n)])
theorem viewOf_ok (g : Gr) (hg : Rd g) (h : GOk g) : Pure Try.prog γ false 74 [aGr g] (.tup [.vp (fun _ => aVw (viewG g)) 0, .b fun _ => true]) := viewOf_yes g hg h
theorem vpoF_ok (V : Vw) {n : Nat} (hV : Wf V n) : Pure Try.prog γ false 75 [pVw V, .fn 76 [.vp (fun _ => aVw V) 0] []] (encRel n (poF V n)) :=
  drel1_ok (γ := γ) V hV 76 (fun _ => aVw V) _ (fun a ha b hb => dpo_ok V hV a b ha hb)
theorem vrfF_ok (V : Vw) {n : Nat} (hV : Wf V n) : Pure Try.prog γ false 75 [pVw V, .fn 77 [.vp (fun _ => aVw V) 0] []] (encRel n (rfF V n)) :=
  drel1_ok (γ := γ) V hV 77 (fun _ => aVw V) _ (fun a ha b hb => drf_ok V hV a b ha hb)
theorem vcoF_ok (V : Vw) {n : Nat} (hV : Wf V n) : Pure Try.prog γ false 75 [pVw V, .fn 78 [.vp (fun _ => aVw V) 0] []] (encRel n (coF V n)) :=
  drel1_ok (γ := γ) V hV 78 (fun _ => aVw V) _ (fun a ha b hb => dco_ok V hV a b ha hb)
theorem vfrF_ok (V : Vw) {n : Nat} (hV : Wf V n) : Pure Try.prog γ false 75 [pVw V, .fn 79 [.vp (fun _ => aVw V) 0] []] (encRel n (frF V n)) :=
  drel1_ok (γ := γ) V hV 79 (fun _ => aVw V) _ (fun a ha b hb => dfr_ok V hV a b ha hb)
theorem vlocF_ok (V : Vw) {n : Nat} (hV : Wf V n) : Pure Try.prog γ false 75 [pVw V, .fn 82 [.vp (fun _ => aVw V) 0] []] (encRel n (locF V n)) :=
  drel1_ok (γ := γ) V hV 82 (fun _ => aVw V) _ (fun a ha b hb => dloc_ok V hV a b ha hb)
theorem vswF_ok (V : Vw) {n : Nat} (hV : Wf V n) : Pure Try.prog γ false 83 [pVw V] (encRel n (swF V n)) := dsw_ok V hV
theorem dPo_yes (g : Gr) (hg : Rd g) (h : GOk g) : Pure Try.prog γ false 55 [aGr g] (encRel (nG g : Nat) (poF (viewG g) (nG g))) := by
  have hV := viewG_wf h
  have hr := vpoF_ok (γ := γ) (viewG g) hV
  refine Pure.go (ty := ty) ty_eq mo Try.func55 rfl Try.ntmps55 Try.results55 Try.call55 (by simp) fun P C CQ D W F E hF => ?_
  cbv
  repeat' (first
    | (refine E.c (SCalls.of_le (hr) ?_ ?_); (· (cbv; (try simp only [nc] at *); first | done | (simp; done) | (simp (disch := (first | omega | (simp only [tab_len, List.length_append, List.length_map, List.length_range, List.length_replicate, is_len, us_len, ps_len, evs_len, ids_len, evss_len, idss_len]; omega))) only [nc, nct, w64_of, Int.toNat_natCast, Int.toNat_zero, List.length_map, is_len, us_len, ps_len, is_get, us_get, ps_get, at_i, at_u, at_p0, at_p1, evs_len, ids_len, evss_len, idss_len, evs_get, ids_get, evss_get, idss_get, at_e0, at_e1, at_e2, at_e3, at_e4, at_d0, at_d1, at_l, at_agg, asL_vs, asI_i, asU_u, asB_b, bofZ, bof1, bof0, List.getD_cons_zero, List.getD_cons_succ, implies_true, and_true, true_and, forall_const]; first | done | omega | (refine ⟨?_, ?_⟩ <;> omega)) | (simp (disch := (first | omega | (simp only [tab_len, List.length_append, List.length_map, List.length_range, List.length_replicate, is_len, us_len, ps_len, evs_len, ids_len, evss_len, idss_len]; omega))) [nc, nct, w64_of, Int.toNat_natCast, Int.toNat_zero, List.length_map, is_len, us_len, ps_len, is_get, us_get, ps_get, at_i, at_u, at_p0, at_p1, evs_len, ids_len, evss_len, idss_len, evs_get, ids_get, evss_get, idss_get, at_e0, at_e1, at_e2, at_e3, at_e4, at_d0, at_d1, at_l, at_agg, asL_vs, asI_i, asU_u, asB_b, bofZ, bof1, bof0, List.getD_cons_zero, List.getD_cons_succ]; done))); cbv)
    | (refine E.c (SCalls.of_le (viewOf_ok g hg h) ?_ ?_); (· (cbv; (try simp only [nc] at *); first | done | (simp; done) | (simp (disch := (first | omega | (simp only [tab_len, List.length_append, List.length_map, List.length_range, List.length_replicate, is_len, us_len, ps_len, evs_len, ids_len, evss_len, idss_len]; omega))) only [nc, nct, w64_of, Int.toNat_natCast, Int.toNat_zero, List.length_map, is_len, us_len, ps_len, is_get, us_get, ps_get, at_i, at_u, at_p0, at_p1, evs_len, ids_len, evss_len, idss_len, evs_get, ids_get, evss_get, idss_get, at_e0, at_e1, at_e2, at_e3, at_e4, at_d0, at_d1, at_l, at_agg, asL_vs, asI_i, asU_u, asB_b, bofZ, bof1, bof0, List.getD_cons_zero, List.getD_cons_succ, implies_true, and_true, true_and, forall_const]; first | done | omega | (refine ⟨?_, ?_⟩ <;> omega)) | (simp (disch := (first | omega | (simp only [tab_len, List.length_append, List.length_map, List.length_range, List.length_replicate, is_len, us_len, ps_len, evs_len, ids_len, evss_len, idss_len]; omega))) [nc, nct, w64_of, Int.toNat_natCast, Int.toNat_zero, List.length_map, is_len, us_len, ps_len, is_get, us_get, ps_get, at_i, at_u, at_p0, at_p1, evs_len, ids_len, evss_len, idss_len, evs_get, ids_get, evss_get, idss_get, at_e0, at_e1, at_e2, at_e3, at_e4, at_d0, at_d1, at_l, at_agg, asL_vs, asI_i, asU_u, asB_b, bofZ, bof1, bof0, List.getD_cons_zero, List.getD_cons_succ]; done))); cbv)
    | (refine ⟨fun _ h_s => ?_, fun _ h_s => ?_⟩ <;> (cbv; (try simp only [nc] at *); try simp (disch := (first | omega | (simp only [tab_len, List.length_append, List.length_map, List.length_range, List.length_replicate, is_len, us_len, ps_len, evs_len, ids_len, evss_len, idss_len]; omega))) only [nc, nct, w64_of, Int.toNat_natCast, Int.toNat_zero, List.length_map, is_len, us_len, ps_len, is_get, us_get, ps_get, at_i, at_u, at_p0, at_p1, evs_len, ids_len, evss_len, idss_len, evs_get, ids_get, evss_get, idss_get, at_e0, at_e1, at_e2, at_e3, at_e4, at_d0, at_d1, at_l, at_agg, asL_vs, asI_i, asU_u, asB_b, bofZ, bof1, bof0, List.getD_cons_zero, List.getD_cons_succ, reduceCtorEq, Bool.not_true, Bool.not_false, decide_eq_true_eq, decide_eq_false_iff_not, Bool.not_eq_true, Bool.not_eq_false, Bool.not_eq_true', Bool.not_eq_false', ne_eq, Decidable.not_not, Int.not_le, Int.not_lt, beq_iff_eq] at h_s))
    | (refine hF ?_; intro _; clear hF)
    | (refine hF ?_; cbv; clear hF)
    | (refine ⟨fun _ => ?_, ?_⟩; (· ((try simp only [nc] at *); first | done | omega | exact ⟨by omega, rfl⟩ | (simp (disch := (first | omega | (simp only [tab_len, List.length_append, List.length_map, List.length_range, List.length_replicate, is_len, us_len, ps_len, evs_len, ids_len, evss_len, idss_len]; omega))) only [nc, nct, w64_of, Int.toNat_natCast, Int.toNat_zero, List.length_map, is_len, us_len, ps_len, is_get, us_get, ps_get, at_i, at_u, at_p0, at_p1, evs_len, ids_len, evss_len, idss_len, evs_get, ids_get, evss_get, idss_get, at_e0, at_e1, at_e2, at_e3, at_e4, at_d0, at_d1, at_l, at_agg, asL_vs, asI_i, asU_u, asB_b, bofZ, bof1, bof0, List.getD_cons_zero, List.getD_cons_succ]; first | done | omega | rfl | exact ⟨by omega, rfl⟩ | (simp; done) | (simp; omega)) | (intros; trivial))); try cbv)
    | fail
  )
  all_goals (try simp only [nc] at *)
  all_goals (try simp (disch := (first | omega | (simp only [tab_len, List.length_append, List.length_map, List.length_range, List.length_replicate, is_len, us_len, ps_len, evs_len, ids_len, evss_len, idss_len]; omega))) only [nc, nct, w64_of, Int.toNat_natCast, Int.toNat_zero, List.length_map, is_len, us_len, ps_len, is_get, us_get, ps_get, at_i, at_u, at_p0, at_p1, evs_len, ids_len, evss_len, idss_len, evs_get, ids_get, evss_get, idss_get, at_e0, at_e1, at_e2, at_e3, at_e4, at_d0, at_d1, at_l, at_agg, asL_vs, asI_i, asU_u, asB_b, bofZ, bof1, bof0, List.getD_cons_zero, List.getD_cons_succ])
theorem dPo_no (g : Gr) (hg : Rd g) (h : ¬ GOk g) : Pure Try.prog γ false 55 [aGr g] (encRel 0 []) := by
  refine Pure.go (ty := ty) ty_eq mo Try.func55 rfl Try.ntmps55 Try.results55 Try.call55 (by simp) fun P C CQ D W F E hF => ?_
  cbv
  repeat' (first
    | (refine E.c (SCalls.of_le (viewOf_no g hg h) ?_ ?_); (· (cbv; (try simp only [nc] at *); first | done | (simp; done) | (simp (disch := (first | omega | (simp only [tab_len, List.length_append, List.length_map, List.length_range, List.length_replicate, is_len, us_len, ps_len, evs_len, ids_len, evss_len, idss_len]; omega))) only [nc, nct, w64_of, Int.toNat_natCast, Int.toNat_zero, List.length_map, is_len, us_len, ps_len, is_get, us_get, ps_get, at_i, at_u, at_p0, at_p1, evs_len, ids_len, evss_len, idss_len, evs_get, ids_get, evss_get, idss_get, at_e0, at_e1, at_e2, at_e3, at_e4, at_d0, at_d1, at_l, at_agg, asL_vs, asI_i, asU_u, asB_b, bofZ, bof1, bof0, List.getD_cons_zero, List.getD_cons_succ, implies_true, and_true, true_and, forall_const]; first | done | omega | (refine ⟨?_, ?_⟩ <;> omega)) | (simp (disch := (first | omega | (simp only [tab_len, List.length_append, List.length_map, List.length_range, List.length_replicate, is_len, us_len, ps_len, evs_len, ids_len, evss_len, idss_len]; omega))) [nc, nct, w64_of, Int.toNat_natCast, Int.toNat_zero, List.length_map, is_len, us_len, ps_len, is_get, us_get, ps_get, at_i, at_u, at_p0, at_p1, evs_len, ids_len, evss_len, idss_len, evs_get, ids_get, evss_get, idss_get, at_e0, at_e1, at_e2, at_e3, at_e4, at_d0, at_d1, at_l, at_agg, asL_vs, asI_i, asU_u, asB_b, bofZ, bof1, bof0, List.getD_cons_zero, List.getD_cons_succ]; done))); cbv)
    | (refine ⟨fun _ h_s => ?_, fun _ h_s => ?_⟩ <;> (cbv; (try simp only [nc] at *); try simp (disch := (first | omega | (simp only [tab_len, List.length_append, List.length_map, List.length_range, List.length_replicate, is_len, us_len, ps_len, evs_len, ids_len, evss_len, idss_len]; omega))) only [nc, nct, w64_of, Int.toNat_natCast, Int.toNat_zero, List.length_map, is_len, us_len, ps_len, is_get, us_get, ps_get, at_i, at_u, at_p0, at_p1, evs_len, ids_len, evss_len, idss_len, evs_get, ids_get, evss_get, idss_get, at_e0, at_e1, at_e2, at_e3, at_e4, at_d0, at_d1, at_l, at_agg, asL_vs, asI_i, asU_u, asB_b, bofZ, bof1, bof0, List.getD_cons_zero, List.getD_cons_succ, reduceCtorEq, Bool.not_true, Bool.not_false, decide_eq_true_eq, decide_eq_false_iff_not, Bool.not_eq_true, Bool.not_eq_false, Bool.not_eq_true', Bool.not_eq_false', ne_eq, Decidable.not_not, Int.not_le, Int.not_lt, beq_iff_eq] at h_s))
    | (refine hF ?_; intro _; clear hF)
    | (refine hF ?_; cbv; clear hF)
    | (refine ⟨fun _ => ?_, ?_⟩; (· ((try simp only [nc] at *); first | done | omega | exact ⟨by omega, rfl⟩ | (simp (disch := (first | omega | (simp only [tab_len, List.length_append, List.length_map, List.length_range, List.length_replicate, is_len, us_len, ps_len, evs_len, ids_len, evss_len, idss_len]; omega))) only [nc, nct, w64_of, Int.toNat_natCast, Int.toNat_zero, List.length_map, is_len, us_len, ps_len, is_get, us_get, ps_get, at_i, at_u, at_p0, at_p1, evs_len, ids_len, evss_len, idss_len, evs_get, ids_get, evss_get, idss_get, at_e0, at_e1, at_e2, at_e3, at_e4, at_d0, at_d1, at_l, at_agg, asL_vs, asI_i, asU_u, asB_b, bofZ, bof1, bof0, List.getD_cons_zero, List.getD_cons_succ]; first | done | omega | rfl | exact ⟨by omega, rfl⟩ | (simp; done) | (simp; omega)) | (intros; trivial))); try cbv)
    | fail
  )
  all_goals (try simp only [nc] at *)
  all_goals (try simp (disch := (first | omega | (simp only [tab_len, List.length_append, List.length_map, List.length_range, List.length_replicate, is_len, us_len, ps_len, evs_len, ids_len, evss_len, idss_len]; omega))) only [nc, nct, w64_of, Int.toNat_natCast, Int.toNat_zero, List.length_map, is_len, us_len, ps_len, is_get, us_get, ps_get, at_i, at_u, at_p0, at_p1, evs_len, ids_len, evss_len, idss_len, evs_get, ids_get, evss_get, idss_get, at_e0, at_e1, at_e2, at_e3, at_e4, at_d0, at_d1, at_l, at_agg, asL_vs, asI_i, asU_u, asB_b, bofZ, bof1, bof0, List.getD_cons_zero, List.getD_cons_succ])
  all_goals simp [us, LV.of]
theorem dPo_ok (g : Gr) (hg : Rd g) : Pure Try.prog γ false 55 [aGr g] (encRel (NG g) (rowsG g poF)) := by
  by_cases h : GOk g
  · have := dPo_yes (γ := γ) g hg h
    unfold NG rowsG
    rwa [if_pos h, if_pos h]
  · have := dPo_no (γ := γ) g hg h
    unfold NG rowsG
    rwa [if_neg h, if_neg h]
theorem dRf_yes (g : Gr) (hg : Rd g) (h : GOk g) : Pure Try.prog γ false 56 [aGr g] (encRel (nG g : Nat) (rfF (viewG g) (nG g))) := by
  have hV := viewG_wf h
  have hr := vrfF_ok (γ := γ) (viewG g) hV
  refine Pure.go (ty := ty) ty_eq mo Try.func56 rfl Try.ntmps56 Try.results56 Try.call56 (by simp) fun P C CQ D W F E hF => ?_
  cbv
  repeat' (first
    | (refine E.c (SCalls.of_le (hr) ?_ ?_); (· (cbv; (try simp only [nc] at *); first | done | (simp; done) | (simp (disch := (first | omega | (simp only [tab_len, List.length_append, List.length_map, List.length_range, List.length_replicate, is_len, us_len, ps_len, evs_len, ids_len, evss_len, idss_len]; omega))) only [nc, nct, w64_of, Int.toNat_natCast, Int.toNat_zero, List.length_map, is_len, us_len, ps_len, is_get, us_get, ps_get, at_i, at_u, at_p0, at_p1, evs_len, ids_len, evss_len, idss_len, evs_get, ids_get, evss_get, idss_get, at_e0, at_e1, at_e2, at_e3, at_e4, at_d0, at_d1, at_l, at_agg, asL_vs, asI_i, asU_u, asB_b, bofZ, bof1, bof0, List.getD_cons_zero, List.getD_cons_succ, implies_true, and_true, true_and, forall_const]; first | done | omega | (refine ⟨?_, ?_⟩ <;> omega)) | (simp (disch := (first | omega | (simp only [tab_len, List.length_append, List.length_map, List.length_range, List.length_replicate, is_len, us_len, ps_len, evs_len, ids_len, evss_len, idss_len]; omega))) [nc, nct, w64_of, Int.toNat_natCast, Int.toNat_zero, List.length_map, is_len, us_len, ps_len, is_get, us_get, ps_get, at_i, at_u, at_p0, at_p1, evs_len, ids_len, evss_len, idss_len, evs_get, ids_get, evss_get, idss_get, at_e0, at_e1, at_e2, at_e3, at_e4, at_d0, at_d1, at_l, at_agg, asL_vs, asI_i, asU_u, asB_b, bofZ, bof1, bof0, List.getD_cons_zero, List.getD_cons_succ]; done))); cbv)
    | (refine E.c (SCalls.of_le (viewOf_ok g hg h) ?_ ?_); (· (cbv; (try simp only [nc] at *); first | done | (simp; done) | (simp (disch := (first | omega | (simp only [tab_len, List.length_append, List.length_map, List.length_range, List.length_replicate, is_len, us_len, ps_len, evs_len, ids_len, evss_len, idss_len]; omega))) only [nc, nct, w64_of, Int.toNat_natCast, Int.toNat_zero, List.length_map, is_len, us_len, ps_len, is_get, us_get, ps_get, at_i, at_u, at_p0, at_p1, evs_len, ids_len, evss_len, idss_len, evs_get, ids_get, evss_get, idss_get, at_e0, at_e1, at_e2, at_e3, at_e4, at_d0, at_d1, at_l, at_agg, asL_vs, asI_i, asU_u, asB_b, bofZ, bof1, bof0, List.getD_cons_zero, List.getD_cons_succ, implies_true, and_true, true_and, forall_const]; first | done | omega | (refine ⟨?_, ?_⟩ <;> omega)) | (simp (disch := (first | omega | (simp only [tab_len, List.length_append, List.length_map, List.length_range, List.length_replicate, is_len, us_len, ps_len, evs_len, ids_len, evss_len, idss_len]; omega))) [nc, nct, w64_of, Int.toNat_natCast, Int.toNat_zero, List.length_map, is_len, us_len, ps_len, is_get, us_get, ps_get, at_i, at_u, at_p0, at_p1, evs_len, ids_len, evss_len, idss_len, evs_get, ids_get, evss_get, idss_get, at_e0, at_e1, at_e2, at_e3, at_e4, at_d0, at_d1, at_l, at_agg, asL_vs, asI_i, asU_u, asB_b, bofZ, bof1, bof0, List.getD_cons_zero, List.getD_cons_succ]; done))); cbv)
    | (refine ⟨fun _ h_s => ?_, fun _ h_s => ?_⟩ <;> (cbv; (try simp only [nc] at *); try simp (disch := (first | omega | (simp only [tab_len, List.length_append, List.length_map, List.length_range, List.length_replicate, is_len, us_len, ps_len, evs_len, ids_len, evss_len, idss_len]; omega))) only [nc, nct, w64_of, Int.toNat_natCast, Int.toNat_zero, List.length_map, is_len, us_len, ps_len, is_get, us_get, ps_get, at_i, at_u, at_p0, at_p1, evs_len, ids_len, evss_len, idss_len, evs_get, ids_get, evss_get, idss_get, at_e0, at_e1, at_e2, at_e3, at_e4, at_d0, at_d1, at_l, at_agg, asL_vs, asI_i, asU_u, asB_b, bofZ, bof1, bof0, List.getD_cons_zero, List.getD_cons_succ, reduceCtorEq, Bool.not_true, Bool.not_false, decide_eq_true_eq, decide_eq_false_iff_not, Bool.not_eq_true, Bool.not_eq_false, Bool.not_eq_true', Bool.not_eq_false', ne_eq, Decidable.not_not, Int.not_le, Int.not_lt, beq_iff_eq] at h_s))
    | (refine hF ?_; intro _; clear hF)
    | (refine hF ?_; cbv; clear hF)
    | (refine ⟨fun _ => ?_, ?_⟩; (· ((try simp only [nc] at *); first | done | omega | exact ⟨by omega, rfl⟩ | (simp (disch := (first | omega | (simp only [tab_len, List.length_append, List.length_map, List.length_range, List.length_replicate, is_len, us_len, ps_len, evs_len, ids_len, evss_len, idss_len]; omega))) only [nc, nct, w64_of, Int.toNat_natCast, Int.toNat_zero, List.length_map, is_len, us_len, ps_len, is_get, us_get, ps_get, at_i, at_u, at_p0, at_p1, evs_len, ids_len, evss_len, idss_len, evs_get, ids_get, evss_get, idss_get, at_e0, at_e1, at_e2, at_e3, at_e4, at_d0, at_d1, at_l, at_agg, asL_vs, asI_i, asU_u, asB_b, bofZ, bof1, bof0, List.getD_cons_zero, List.getD_cons_succ]; first | done | omega | rfl | exact ⟨by omega, rfl⟩ | (simp; done) | (simp; omega)) | (intros; trivial))); try cbv)
    | fail
  )
  all_goals (try simp only [nc] at *)
  all_goals (try simp (disch := (first | omega | (simp only [tab_len, List.length_append, List.length_map, List.length_range, List.length_replicate, is_len, us_len, ps_len, evs_len, ids_len, evss_len, idss_len]; omega))) only [nc, nct, w64_of, Int.toNat_natCast, Int.toNat_zero, List.length_map, is_len, us_len, ps_len, is_get, us_get, ps_get, at_i, at_u, at_p0, at_p1, evs_len, ids_len, evss_len, idss_len, evs_get, ids_get, evss_get, idss_get, at_e0, at_e1, at_e2, at_e3, at_e4, at_d0, at_d1, at_l, at_agg, asL_vs, asI_i, asU_u, asB_b, bofZ, bof1, bof0, List.getD_cons_zero, List.getD_cons_succ])
theorem dRf_no (g : Gr) (hg : Rd g) (h : ¬ GOk g) : Pure Try.prog γ false 56 [aGr g] (encRel 0 []) := by
  refine Pure.go (ty := ty) ty_eq mo Try.func56 rfl Try.ntmps56 Try.results56 Try.call56 (by simp) fun P C CQ D W F E hF => ?_
  cbv
  repeat' (first
    | (refine E.c (SCalls.of_le (viewOf_no g hg h) ?_ ?_); (· (cbv; (try simp only [nc] at *); first | done | (simp; done) | (simp (disch := (first | omega | (simp only [tab_len, List.length_append, List.length_map, List.length_range, List.length_replicate, is_len, us_len, ps_len, evs_len, ids_len, evss_len, idss_len]; omega))) only [nc, nct, w64_of, Int.toNat_natCast, Int.toNat_zero, List.length_map, is_len, us_len, ps_len, is_get, us_get, ps_get, at_i, at_u, at_p0, at_p1, evs_len, ids_len, evss_len, idss_len, evs_get, ids_get, evss_get, idss_get, at_e0, at_e1, at_e2, at_e3, at_e4, at_d0, at_d1, at_l, at_agg, asL_vs, asI_i, asU_u, asB_b, bofZ, bof1, bof0, List.getD_cons_zero, List.getD_cons_succ, implies_true, and_true, true_and, forall_const]; first | done | omega | (refine ⟨?_, ?_⟩ <;> omega)) | (simp (disch := (first | omega | (simp only [tab_len, List.length_append, List.length_map, List.length_range, List.length_replicate, is_len, us_len, ps_len, evs_len, ids_len, evss_len, idss_len]; omega))) [nc, nct, w64_of, Int.toNat_natCast, Int.toNat_zero, List.length_map, is_len, us_len, ps_len, is_get, us_get, ps_get, at_i, at_u, at_p0, at_p1, evs_len, ids_len, evss_len, idss_len, evs_get, ids_get, evss_get, idss_get, at_e0, at_e1, at_e2, at_e3, at_e4, at_d0, at_d1, at_l, at_agg, asL_vs, asI_i, asU_u, asB_b, bofZ, bof1, bof0, List.getD_cons_zero, List.getD_cons_succ]; done))); cbv)
    | (refine ⟨fun _ h_s => ?_, fun _ h_s => ?_⟩ <;> (cbv; (try simp only [nc] at *); try simp (disch := (first | omega | (simp only [tab_len, List.length_append, List.length_map, List.length_range, List.length_replicate, is_len, us_len, ps_len, evs_len, ids_len, evss_len, idss_len]; omega))) only [nc, nct, w64_of, Int.toNat_natCast, Int.toNat_zero, List.length_map, is_len, us_len, ps_len, is_get, us_get, ps_get, at_i, at_u, at_p0, at_p1, evs_len, ids_len, evss_len, idss_len, evs_get, ids_get, evss_get, idss_get, at_e0, at_e1, at_e2, at_e3, at_e4, at_d0, at_d1, at_l, at_agg, asL_vs, asI_i, asU_u, asB_b, bofZ, bof1, bof0, List.getD_cons_zero, List.getD_cons_succ, reduceCtorEq, Bool.not_true, Bool.not_false, decide_eq_true_eq, decide_eq_false_iff_not, Bool.not_eq_true, Bool.not_eq_false, Bool.not_eq_true', Bool.not_eq_false', ne_eq, Decidable.not_not, Int.not_le, Int.not_lt, beq_iff_eq] at h_s))
    | (refine hF ?_; intro _; clear hF)
    | (refine hF ?_; cbv; clear hF)
    | (refine ⟨fun _ => ?_, ?_⟩; (· ((try simp only [nc] at *); first | done | omega | exact ⟨by omega, rfl⟩ | (simp (disch := (first | omega | (simp only [tab_len, List.length_append, List.length_map, List.length_range, List.length_replicate, is_len, us_len, ps_len, evs_len, ids_len, evss_len, idss_len]; omega))) only [nc, nct, w64_of, Int.toNat_natCast, Int.toNat_zero, List.length_map, is_len, us_len, ps_len, is_get, us_get, ps_get, at_i, at_u, at_p0, at_p1, evs_len, ids_len, evss_len, idss_len, evs_get, ids_get, evss_get, idss_get, at_e0, at_e1, at_e2, at_e3, at_e4, at_d0, at_d1, at_l, at_agg, asL_vs, asI_i, asU_u, asB_b, bofZ, bof1, bof0, List.getD_cons_zero, List.getD_cons_succ]; first | done | omega | rfl | exact ⟨by omega, rfl⟩ | (simp; done) | (simp; omega)) | (intros; trivial))); try cbv)
    | fail
  )
  all_goals (try simp only [nc] at *)
  all_goals (try simp (disch := (first | omega | (simp only [tab_len, List.length_append, List.length_map, List.length_range, List.length_replicate, is_len, us_len, ps_len, evs_len, ids_len, evss_len, idss_len]; omega))) only [nc, nct, w64_of, Int.toNat_natCast, Int.toNat_zero, List.length_map, is_len, us_len, ps_len, is_get, us_get, ps_get, at_i, at_u, at_p0, at_p1, evs_len, ids_len, evss_len, idss_len, evs_get, ids_get, evss_get, idss_get, at_e0, at_e1, at_e2, at_e3, at_e4, at_d0, at_d1, at_l, at_agg, asL_vs, asI_i, asU_u, asB_b, bofZ, bof1, bof0, List.getD_cons_zero, List.getD_cons_succ])
  all_goals simp [us, LV.of]
theorem dRf_ok (g : Gr) (hg : Rd g) : Pure Try.prog γ false 56 [aGr g] (encRel (NG g) (rowsG g rfF)) := by
  by_cases h : GOk g
  · have := dRf_yes (γ := γ) g hg h
    unfold NG rowsG
    rwa [if_pos h, if_pos h]
  · have := dRf_no (γ := γ) g hg h
    unfold NG rowsG
    rwa [if_neg h, if_neg h]
theorem fits_poF (V : Vw) {n : Nat} (h : n ≤ 62) : Fits n (poF V n) := fits_rel (by omega) _
theorem fits_rfF (V : Vw) {n : Nat} (h : n ≤ 62) : Fits n (rfF V n) := fits_rel (by omega) _
theorem fits_coF (V : Vw) {n : Nat} (h : n ≤ 62) : Fits n (coF V n) := fits_rel (by omega) _
theorem fits_frF (V : Vw) {n : Nat} (h : n ≤ 62) : Fits n (frF V n) := fits_rel (by omega) _
theorem fits_locF (V : Vw) {n : Nat} (h : n ≤ 62) : Fits n (locF V n) := fits_rel (by omega) _
theorem fits_swF (V : Vw) {n : Nat} (h : n ≤ 62) : Fits n (swF V n) := fits_rel (by omega) _
theorem dSw_yes (g : Gr) (hg : Rd g) (h : GOk g) : Pure Try.prog γ false 44 [aGr g] (encRel (nG g : Nat) (swF (viewG g) (nG g))) := by
  have hV := viewG_wf h
  have hr := vswF_ok (γ := γ) (viewG g) hV
  refine Pure.go (ty := ty) ty_eq mo Try.func44 rfl Try.ntmps44 Try.results44 Try.call44 (by simp) fun P C CQ D W F E hF => ?_
  cbv
  repeat' (first
    | (refine E.c (SCalls.of_le (hr) ?_ ?_); (· (cbv; (try simp only [nc] at *); first | done | (simp; done) | (simp (disch := (first | omega | (simp only [tab_len, List.length_append, List.length_map, List.length_range, List.length_replicate, is_len, us_len, ps_len, evs_len, ids_len, evss_len, idss_len]; omega))) only [nc, nct, w64_of, Int.toNat_natCast, Int.toNat_zero, List.length_map, is_len, us_len, ps_len, is_get, us_get, ps_get, at_i, at_u, at_p0, at_p1, evs_len, ids_len, evss_len, idss_len, evs_get, ids_get, evss_get, idss_get, at_e0, at_e1, at_e2, at_e3, at_e4, at_d0, at_d1, at_l, at_agg, asL_vs, asI_i, asU_u, asB_b, bofZ, bof1, bof0, List.getD_cons_zero, List.getD_cons_succ, implies_true, and_true, true_and, forall_const]; first | done | omega | (refine ⟨?_, ?_⟩ <;> omega)) | (simp (disch := (first | omega | (simp only [tab_len, List.length_append, List.length_map, List.length_range, List.length_replicate, is_len, us_len, ps_len, evs_len, ids_len, evss_len, idss_len]; omega))) [nc, nct, w64_of, Int.toNat_natCast, Int.toNat_zero, List.length_map, is_len, us_len, ps_len, is_get, us_get, ps_get, at_i, at_u, at_p0, at_p1, evs_len, ids_len, evss_len, idss_len, evs_get, ids_get, evss_get, idss_get, at_e0, at_e1, at_e2, at_e3, at_e4, at_d0, at_d1, at_l, at_agg, asL_vs, asI_i, asU_u, asB_b, bofZ, bof1, bof0, List.getD_cons_zero, List.getD_cons_succ]; done))); cbv)
    | (refine E.c (SCalls.of_le (viewOf_ok g hg h) ?_ ?_); (· (cbv; (try simp only [nc] at *); first | done | (simp; done) | (simp (disch := (first | omega | (simp only [tab_len, List.length_append, List.length_map, List.length_range, List.length_replicate, is_len, us_len, ps_len, evs_len, ids_len, evss_len, idss_len]; omega))) only [nc, nct, w64_of, Int.toNat_natCast, Int.toNat_zero, List.length_map, is_len, us_len, ps_len, is_get, us_get, ps_get, at_i, at_u, at_p0, at_p1, evs_len, ids_len, evss_len, idss_len, evs_get, ids_get, evss_get, idss_get, at_e0, at_e1, at_e2, at_e3, at_e4, at_d0, at_d1, at_l, at_agg, asL_vs, asI_i, asU_u, asB_b, bofZ, bof1, bof0, List.getD_cons_zero, List.getD_cons_succ, implies_true, and_true, true_and, forall_const]; first | done | omega | (refine ⟨?_, ?_⟩ <;> omega)) | (simp (disch := (first | omega | (simp only [tab_len, List.length_append, List.length_map, List.length_range, List.length_replicate, is_len, us_len, ps_len, evs_len, ids_len, evss_len, idss_len]; omega))) [nc, nct, w64_of, Int.toNat_natCast, Int.toNat_zero, List.length_map, is_len, us_len, ps_len, is_get, us_get, ps_get, at_i, at_u, at_p0, at_p1, evs_len, ids_len, evss_len, idss_len, evs_get, ids_get, evss_get, idss_get, at_e0, at_e1, at_e2, at_e3, at_e4, at_d0, at_d1, at_l, at_agg, asL_vs, asI_i, asU_u, asB_b, bofZ, bof1, bof0, List.getD_cons_zero, List.getD_cons_succ]; done))); cbv)
    | (refine ⟨fun _ h_s => ?_, fun _ h_s => ?_⟩ <;> (cbv; (try simp only [nc] at *); try simp (disch := (first | omega | (simp only [tab_len, List.length_append, List.length_map, List.length_range, List.length_replicate, is_len, us_len, ps_len, evs_len, ids_len, evss_len, idss_len]; omega))) only [nc, nct, w64_of, Int.toNat_natCast, Int.toNat_zero, List.length_map, is_len, us_len, ps_len, is_get, us_get, ps_get, at_i, at_u, at_p0, at_p1, evs_len, ids_len, evss_len, idss_len, evs_get, ids_get, evss_get, idss_get, at_e0, at_e1, at_e2, at_e3, at_e4, at_d0, at_d1, at_l, at_agg, asL_vs, asI_i, asU_u, asB_b, bofZ, bof1, bof0, List.getD_cons_zero, List.getD_cons_succ, reduceCtorEq, Bool.not_true, Bool.not_false, decide_eq_true_eq, decide_eq_false_iff_not, Bool.not_eq_true, Bool.not_eq_false, Bool.not_eq_true', Bool.not_eq_false', ne_eq, Decidable.not_not, Int.not_le, Int.not_lt, beq_iff_eq] at h_s))
    | (refine hF ?_; intro _; clear hF)
    | (refine hF ?_; cbv; clear hF)
    | (refine ⟨fun _ => ?_, ?_⟩; (· ((try simp only [nc] at *); first | done | omega | exact ⟨by omega, rfl⟩ | (simp (disch := (first | omega | (simp only [tab_len, List.length_append, List.length_map, List.length_range, List.length_replicate, is_len, us_len, ps_len, evs_len, ids_len, evss_len, idss_len]; omega))) only [nc, nct, w64_of, Int.toNat_natCast, Int.toNat_zero, List.length_map, is_len, us_len, ps_len, is_get, us_get, ps_get, at_i, at_u, at_p0, at_p1, evs_len, ids_len, evss_len, idss_len, evs_get, ids_get, evss_get, idss_get, at_e0, at_e1, at_e2, at_e3, at_e4, at_d0, at_d1, at_l, at_agg, asL_vs, asI_i, asU_u, asB_b, bofZ, bof1, bof0, List.getD_cons_zero, List.getD_cons_succ]; first | done | omega | rfl | exact ⟨by omega, rfl⟩ | (simp; done) | (simp; omega)) | (intros; trivial))); try cbv)
    | fail
  )
  all_goals (try simp only [nc] at *)
  all_goals (try simp (disch := (first | omega | (simp only [tab_len, List.length_append, List.length_map, List.length_range, List.length_replicate, is_len, us_len, ps_len, evs_len, ids_len, evss_len, idss_len]; omega))) only [nc, nct, w64_of, Int.toNat_natCast, Int.toNat_zero, List.length_map, is_len, us_len, ps_len, is_get, us_get, ps_get, at_i, at_u, at_p0, at_p1, evs_len, ids_len, evss_len, idss_len, evs_get, ids_get, evss_get, idss_get, at_e0, at_e1, at_e2, at_e3, at_e4, at_d0, at_d1, at_l, at_agg, asL_vs, asI_i, asU_u, asB_b, bofZ, bof1, bof0, List.getD_cons_zero, List.getD_cons_succ])
theorem dSw_no (g : Gr) (hg : Rd g) (h : ¬ GOk g) : Pure Try.prog γ false 44 [aGr g] (encRel 0 []) := by
  refine Pure.go (ty := ty) ty_eq mo Try.func44 rfl Try.ntmps44 Try.results44 Try.call44 (by simp) fun P C CQ D W F E hF => ?_
  cbv
  repeat' (first
    | (refine E.c (SCalls.of_le (viewOf_no g hg h) ?_ ?_); (· (cbv; (try simp only [nc] at *); first | done | (simp; done) | (simp (disch := (first | omega | (simp only [tab_len, List.length_append, List.length_map, List.length_range, List.length_replicate, is_len, us_len, ps_len, evs_len, ids_len, evss_len, idss_len]; omega))) only [nc, nct, w64_of, Int.toNat_natCast, Int.toNat_zero, List.length_map, is_len, us_len, ps_len, is_get, us_get, ps_get, at_i, at_u, at_p0, at_p1, evs_len, ids_len, evss_len, idss_len, evs_get, ids_get, evss_get, idss_get, at_e0, at_e1, at_e2, at_e3, at_e4, at_d0, at_d1, at_l, at_agg, asL_vs, asI_i, asU_u, asB_b, bofZ, bof1, bof0, List.getD_cons_zero, List.getD_cons_succ, implies_true, and_true, true_and, forall_const]; first | done | omega | (refine ⟨?_, ?_⟩ <;> omega)) | (simp (disch := (first | omega | (simp only [tab_len, List.length_append, List.length_map, List.length_range, List.length_replicate, is_len, us_len, ps_len, evs_len, ids_len, evss_len, idss_len]; omega))) [nc, nct, w64_of, Int.toNat_natCast, Int.toNat_zero, List.length_map, is_len, us_len, ps_len, is_get, us_get, ps_get, at_i, at_u, at_p0, at_p1, evs_len, ids_len, evss_len, idss_len, evs_get, ids_get, evss_get, idss_get, at_e0, at_e1, at_e2, at_e3, at_e4, at_d0, at_d1, at_l, at_agg, asL_vs, asI_i, asU_u, asB_b, bofZ, bof1, bof0, List.getD_cons_zero, List.getD_cons_succ]; done))); cbv)
    | (refine ⟨fun _ h_s => ?_, fun _ h_s => ?_⟩ <;> (cbv; (try simp only [nc] at *); try simp (disch := (first | omega | (simp only [tab_len, List.length_append, List.length_map, List.length_range, List.length_replicate, is_len, us_len, ps_len, evs_len, ids_len, evss_len, idss_len]; omega))) only [nc, nct, w64_of, Int.toNat_natCast, Int.toNat_zero, List.length_map, is_len, us_len, ps_len, is_get, us_get, ps_get, at_i, at_u, at_p0, at_p1, evs_len, ids_len, evss_len, idss_len, evs_get, ids_get, evss_get, idss_get, at_e0, at_e1, at_e2, at_e3, at_e4, at_d0, at_d1, at_l, at_agg, asL_vs, asI_i, asU_u, asB_b, bofZ, bof1, bof0, List.getD_cons_zero, List.getD_cons_succ, reduceCtorEq, Bool.not_true, Bool.not_false, decide_eq_true_eq, decide_eq_false_iff_not, Bool.not_eq_true, Bool.not_eq_false, Bool.not_eq_true', Bool.not_eq_false', ne_eq, Decidable.not_not, Int.not_le, Int.not_lt, beq_iff_eq] at h_s))
    | (refine hF ?_; intro _; clear hF)
    | (refine hF ?_; cbv; clear hF)
    | (refine ⟨fun _ => ?_, ?_⟩; (· ((try simp only [nc] at *); first | done | omega | exact ⟨by omega, rfl⟩ | (simp (disch := (first | omega | (simp only [tab_len, List.length_append, List.length_map, List.length_range, List.length_replicate, is_len, us_len, ps_len, evs_len, ids_len, evss_len, idss_len]; omega))) only [nc, nct, w64_of, Int.toNat_natCast, Int.toNat_zero, List.length_map, is_len, us_len, ps_len, is_get, us_get, ps_get, at_i, at_u, at_p0, at_p1, evs_len, ids_len, evss_len, idss_len, evs_get, ids_get, evss_get, idss_get, at_e0, at_e1, at_e2, at_e3, at_e4, at_d0, at_d1, at_l, at_agg, asL_vs, asI_i, asU_u, asB_b, bofZ, bof1, bof0, List.getD_cons_zero, List.getD_cons_succ]; first | done | omega | rfl | exact ⟨by omega, rfl⟩ | (simp; done) | (simp; omega)) | (intros; trivial))); try cbv)
    | fail
  )
  all_goals (try simp only [nc] at *)
  all_goals (try simp (disch := (first | omega | (simp only [tab_len, List.length_append, List.length_map, List.length_range, List.length_replicate, is_len, us_len, ps_len, evs_len, ids_len, evss_len, idss_len]; omega))) only [nc, nct, w64_of, Int.toNat_natCast, Int.toNat_zero, List.length_map, is_len, us_len, ps_len, is_get, us_get, ps_get, at_i, at_u, at_p0, at_p1, evs_len, ids_len, evss_len, idss_len, evs_get, ids_get, evss_get, idss_get, at_e0, at_e1, at_e2, at_e3, at_e4, at_d0, at_d1, at_l, at_agg, asL_vs, asI_i, asU_u, asB_b, bofZ, bof1, bof0, List.getD_cons_zero, List.getD_cons_succ])
  all_goals simp [us, LV.of]
theorem dHb_yes (g : Gr) (hg : Rd g) (h : GOk g) : Pure Try.prog γ false 57 [aGr g] (encRel (nG g : Nat) (hbF (viewG g) (nG g))) := by
  have hV := viewG_wf h
  have h1 := vpoF_ok (γ := γ) (viewG g) hV
  have h2 := vswF_ok (γ := γ) (viewG g) hV
  have f1 := fits_poF (viewG g) hV.small
  have f2 := fits_swF (viewG g) hV.small
  have h3 := or2 (γ := γ) (nG g) _ _ f1 f2
  have h4 := plus_ok (γ := γ) (nG g) _ (fits_or2 f1 f2)
  refine Pure.go (ty := ty) ty_eq mo Try.func57 rfl Try.ntmps57 Try.results57 Try.call57 (by simp) fun P C CQ D W F E hF => ?_
  cbv
  repeat' (first
    | (refine E.c (SCalls.of_le (h4) ?_ ?_); (· (cbv; (try simp only [nc] at *); first | done | (simp; done) | (simp (disch := (first | omega | (simp only [tab_len, List.length_append, List.length_map, List.length_range, List.length_replicate, is_len, us_len, ps_len, evs_len, ids_len, evss_len, idss_len]; omega))) only [nc, nct, w64_of, Int.toNat_natCast, Int.toNat_zero, List.length_map, is_len, us_len, ps_len, is_get, us_get, ps_get, at_i, at_u, at_p0, at_p1, evs_len, ids_len, evss_len, idss_len, evs_get, ids_get, evss_get, idss_get, at_e0, at_e1, at_e2, at_e3, at_e4, at_d0, at_d1, at_l, at_agg, asL_vs, asI_i, asU_u, asB_b, bofZ, bof1, bof0, List.getD_cons_zero, List.getD_cons_succ, implies_true, and_true, true_and, forall_const]; first | done | omega | (refine ⟨?_, ?_⟩ <;> omega)) | (simp (disch := (first | omega | (simp only [tab_len, List.length_append, List.length_map, List.length_range, List.length_replicate, is_len, us_len, ps_len, evs_len, ids_len, evss_len, idss_len]; omega))) [nc, nct, w64_of, Int.toNat_natCast, Int.toNat_zero, List.length_map, is_len, us_len, ps_len, is_get, us_get, ps_get, at_i, at_u, at_p0, at_p1, evs_len, ids_len, evss_len, idss_len, evs_get, ids_get, evss_get, idss_get, at_e0, at_e1, at_e2, at_e3, at_e4, at_d0, at_d1, at_l, at_agg, asL_vs, asI_i, asU_u, asB_b, bofZ, bof1, bof0, List.getD_cons_zero, List.getD_cons_succ]; done))); cbv)
    | (refine E.c (SCalls.of_bare (h3) rfl ?_ ?_); (· (cbv; simp [rls, ps, us, is, LV.of]; done)); cbv)
    | (refine E.c (SCalls.of_le (h3) ?_ ?_); (· (cbv; simp [rls, ps, us, is, LV.of]; done)); cbv)
    | (refine E.c (SCalls.of_le (h2) ?_ ?_); (· (cbv; (try simp only [nc] at *); first | done | (simp; done) | (simp (disch := (first | omega | (simp only [tab_len, List.length_append, List.length_map, List.length_range, List.length_replicate, is_len, us_len, ps_len, evs_len, ids_len, evss_len, idss_len]; omega))) only [nc, nct, w64_of, Int.toNat_natCast, Int.toNat_zero, List.length_map, is_len, us_len, ps_len, is_get, us_get, ps_get, at_i, at_u, at_p0, at_p1, evs_len, ids_len, evss_len, idss_len, evs_get, ids_get, evss_get, idss_get, at_e0, at_e1, at_e2, at_e3, at_e4, at_d0, at_d1, at_l, at_agg, asL_vs, asI_i, asU_u, asB_b, bofZ, bof1, bof0, List.getD_cons_zero, List.getD_cons_succ, implies_true, and_true, true_and, forall_const]; first | done | omega | (refine ⟨?_, ?_⟩ <;> omega)) | (simp (disch := (first | omega | (simp only [tab_len, List.length_append, List.length_map, List.length_range, List.length_replicate, is_len, us_len, ps_len, evs_len, ids_len, evss_len, idss_len]; omega))) [nc, nct, w64_of, Int.toNat_natCast, Int.toNat_zero, List.length_map, is_len, us_len, ps_len, is_get, us_get, ps_get, at_i, at_u, at_p0, at_p1, evs_len, ids_len, evss_len, idss_len, evs_get, ids_get, evss_get, idss_get, at_e0, at_e1, at_e2, at_e3, at_e4, at_d0, at_d1, at_l, at_agg, asL_vs, asI_i, asU_u, asB_b, bofZ, bof1, bof0, List.getD_cons_zero, List.getD_cons_succ]; done))); cbv)
    | (refine E.c (SCalls.of_le (h1) ?_ ?_); (· (cbv; (try simp only [nc] at *); first | done | (simp; done) | (simp (disch := (first | omega | (simp only [tab_len, List.length_append, List.length_map, List.length_range, List.length_replicate, is_len, us_len, ps_len, evs_len, ids_len, evss_len, idss_len]; omega))) only [nc, nct, w64_of, Int.toNat_natCast, Int.toNat_zero, List.length_map, is_len, us_len, ps_len, is_get, us_get, ps_get, at_i, at_u, at_p0, at_p1, evs_len, ids_len, evss_len, idss_len, evs_get, ids_get, evss_get, idss_get, at_e0, at_e1, at_e2, at_e3, at_e4, at_d0, at_d1, at_l, at_agg, asL_vs, asI_i, asU_u, asB_b, bofZ, bof1, bof0, List.getD_cons_zero, List.getD_cons_succ, implies_true, and_true, true_and, forall_const]; first | done | omega | (refine ⟨?_, ?_⟩ <;> omega)) | (simp (disch := (first | omega | (simp only [tab_len, List.length_append, List.length_map, List.length_range, List.length_replicate, is_len, us_len, ps_len, evs_len, ids_len, evss_len, idss_len]; omega))) [nc, nct, w64_of, Int.toNat_natCast, Int.toNat_zero, List.length_map, is_len, us_len, ps_len, is_get, us_get, ps_get, at_i, at_u, at_p0, at_p1, evs_len, ids_len, evss_len, idss_len, evs_get, ids_get, evss_get, idss_get, at_e0, at_e1, at_e2, at_e3, at_e4, at_d0, at_d1, at_l, at_agg, asL_vs, asI_i, asU_u, asB_b, bofZ, bof1, bof0, List.getD_cons_zero, List.getD_cons_succ]; done))); cbv)
    | (refine E.c (SCalls.of_le (viewOf_ok g hg h) ?_ ?_); (· (cbv; (try simp only [nc] at *); first | done | (simp; done) | (simp (disch := (first | omega | (simp only [tab_len, List.length_append, List.length_map, List.length_range, List.length_replicate, is_len, us_len, ps_len, evs_len, ids_len, evss_len, idss_len]; omega))) only [nc, nct, w64_of, Int.toNat_natCast, Int.toNat_zero, List.length_map, is_len, us_len, ps_len, is_get, us_get, ps_get, at_i, at_u, at_p0, at_p1, evs_len, ids_len, evss_len, idss_len, evs_get, ids_get, evss_get, idss_get, at_e0, at_e1, at_e2, at_e3, at_e4, at_d0, at_d1, at_l, at_agg, asL_vs, asI_i, asU_u, asB_b, bofZ, bof1, bof0, List.getD_cons_zero, List.getD_cons_succ, implies_true, and_true, true_and, forall_const]; first | done | omega | (refine ⟨?_, ?_⟩ <;> omega)) | (simp (disch := (first | omega | (simp only [tab_len, List.length_append, List.length_map, List.length_range, List.length_replicate, is_len, us_len, ps_len, evs_len, ids_len, evss_len, idss_len]; omega))) [nc, nct, w64_of, Int.toNat_natCast, Int.toNat_zero, List.length_map, is_len, us_len, ps_len, is_get, us_get, ps_get, at_i, at_u, at_p0, at_p1, evs_len, ids_len, evss_len, idss_len, evs_get, ids_get, evss_get, idss_get, at_e0, at_e1, at_e2, at_e3, at_e4, at_d0, at_d1, at_l, at_agg, asL_vs, asI_i, asU_u, asB_b, bofZ, bof1, bof0, List.getD_cons_zero, List.getD_cons_succ]; done))); cbv)
    | (refine ⟨fun _ h_s => ?_, fun _ h_s => ?_⟩ <;> (cbv; (try simp only [nc] at *); try simp (disch := (first | omega | (simp only [tab_len, List.length_append, List.length_map, List.length_range, List.length_replicate, is_len, us_len, ps_len, evs_len, ids_len, evss_len, idss_len]; omega))) only [nc, nct, w64_of, Int.toNat_natCast, Int.toNat_zero, List.length_map, is_len, us_len, ps_len, is_get, us_get, ps_get, at_i, at_u, at_p0, at_p1, evs_len, ids_len, evss_len, idss_len, evs_get, ids_get, evss_get, idss_get, at_e0, at_e1, at_e2, at_e3, at_e4, at_d0, at_d1, at_l, at_agg, asL_vs, asI_i, asU_u, asB_b, bofZ, bof1, bof0, List.getD_cons_zero, List.getD_cons_succ, reduceCtorEq, Bool.not_true, Bool.not_false, decide_eq_true_eq, decide_eq_false_iff_not, Bool.not_eq_true, Bool.not_eq_false, Bool.not_eq_true', Bool.not_eq_false', ne_eq, Decidable.not_not, Int.not_le, Int.not_lt, beq_iff_eq] at h_s))
    | (refine hF ?_; intro _; clear hF)
    | (refine hF ?_; cbv; clear hF)
    | (refine ⟨fun _ => ?_, ?_⟩; (· ((try simp only [nc] at *); first | done | omega | exact ⟨by omega, rfl⟩ | (simp (disch := (first | omega | (simp only [tab_len, List.length_append, List.length_map, List.length_range, List.length_replicate, is_len, us_len, ps_len, evs_len, ids_len, evss_len, idss_len]; omega))) only [nc, nct, w64_of, Int.toNat_natCast, Int.toNat_zero, List.length_map, is_len, us_len, ps_len, is_get, us_get, ps_get, at_i, at_u, at_p0, at_p1, evs_len, ids_len, evss_len, idss_len, evs_get, ids_get, evss_get, idss_get, at_e0, at_e1, at_e2, at_e3, at_e4, at_d0, at_d1, at_l, at_agg, asL_vs, asI_i, asU_u, asB_b, bofZ, bof1, bof0, List.getD_cons_zero, List.getD_cons_succ]; first | done | omega | rfl | exact ⟨by omega, rfl⟩ | (simp; done) | (simp; omega)) | (intros; trivial))); try cbv)
    | fail
  )
  all_goals (try simp only [nc] at *)
  all_goals (try simp (disch := (first | omega | (simp only [tab_len, List.length_append, List.length_map, List.length_range, List.length_replicate, is_len, us_len, ps_len, evs_len, ids_len, evss_len, idss_len]; omega))) only [nc, nct, w64_of, Int.toNat_natCast, Int.toNat_zero, List.length_map, is_len, us_len, ps_len, is_get, us_get, ps_get, at_i, at_u, at_p0, at_p1, evs_len, ids_len, evss_len, idss_len, evs_get, ids_get, evss_get, idss_get, at_e0, at_e1, at_e2, at_e3, at_e4, at_d0, at_d1, at_l, at_agg, asL_vs, asI_i, asU_u, asB_b, bofZ, bof1, bof0, List.getD_cons_zero, List.getD_cons_succ])
theorem dHb_no (g : Gr) (hg : Rd g) (h : ¬ GOk g) : Pure Try.prog γ false 57 [aGr g] (encRel 0 []) := by
  refine Pure.go (ty := ty) ty_eq mo Try.func57 rfl Try.ntmps57 Try.results57 Try.call57 (by simp) fun P C CQ D W F E hF => ?_
  cbv
  repeat' (first
    | (refine E.c (SCalls.of_le (viewOf_no g hg h) ?_ ?_); (· (cbv; (try simp only [nc] at *); first | done | (simp; done) | (simp (disch := (first | omega | (simp only [tab_len, List.length_append, List.length_map, List.length_range, List.length_replicate, is_len, us_len, ps_len, evs_len, ids_len, evss_len, idss_len]; omega))) only [nc, nct, w64_of, Int.toNat_natCast, Int.toNat_zero, List.length_map, is_len, us_len, ps_len, is_get, us_get, ps_get, at_i, at_u, at_p0, at_p1, evs_len, ids_len, evss_len, idss_len, evs_get, ids_get, evss_get, idss_get, at_e0, at_e1, at_e2, at_e3, at_e4, at_d0, at_d1, at_l, at_agg, asL_vs, asI_i, asU_u, asB_b, bofZ, bof1, bof0, List.getD_cons_zero, List.getD_cons_succ, implies_true, and_true, true_and, forall_const]; first | done | omega | (refine ⟨?_, ?_⟩ <;> omega)) | (simp (disch := (first | omega | (simp only [tab_len, List.length_append, List.length_map, List.length_range, List.length_replicate, is_len, us_len, ps_len, evs_len, ids_len, evss_len, idss_len]; omega))) [nc, nct, w64_of, Int.toNat_natCast, Int.toNat_zero, List.length_map, is_len, us_len, ps_len, is_get, us_get, ps_get, at_i, at_u, at_p0, at_p1, evs_len, ids_len, evss_len, idss_len, evs_get, ids_get, evss_get, idss_get, at_e0, at_e1, at_e2, at_e3, at_e4, at_d0, at_d1, at_l, at_agg, asL_vs, asI_i, asU_u, asB_b, bofZ, bof1, bof0, List.getD_cons_zero, List.getD_cons_succ]; done))); cbv)
    | (refine ⟨fun _ h_s => ?_, fun _ h_s => ?_⟩ <;> (cbv; (try simp only [nc] at *); try simp (disch := (first | omega | (simp only [tab_len, List.length_append, List.length_map, List.length_range, List.length_replicate, is_len, us_len, ps_len, evs_len, ids_len, evss_len, idss_len]; omega))) only [nc, nct, w64_of, Int.toNat_natCast, Int.toNat_zero, List.length_map, is_len, us_len, ps_len, is_get, us_get, ps_get, at_i, at_u, at_p0, at_p1, evs_len, ids_len, evss_len, idss_len, evs_get, ids_get, evss_get, idss_get, at_e0, at_e1, at_e2, at_e3, at_e4, at_d0, at_d1, at_l, at_agg, asL_vs, asI_i, asU_u, asB_b, bofZ, bof1, bof0, List.getD_cons_zero, List.getD_cons_succ, reduceCtorEq, Bool.not_true, Bool.not_false, decide_eq_true_eq, decide_eq_false_iff_not, Bool.not_eq_true, Bool.not_eq_false, Bool.not_eq_true', Bool.not_eq_false', ne_eq, Decidable.not_not, Int.not_le, Int.not_lt, beq_iff_eq] at h_s))
    | (refine hF ?_; intro _; clear hF)
    | (refine hF ?_; cbv; clear hF)
    | (refine ⟨fun _ => ?_, ?_⟩; (· ((try simp only [nc] at *); first | done | omega | exact ⟨by omega, rfl⟩ | (simp (disch := (first | omega | (simp only [tab_len, List.length_append, List.length_map, List.length_range, List.length_replicate, is_len, us_len, ps_len, evs_len, ids_len, evss_len, idss_len]; omega))) only [nc, nct, w64_of, Int.toNat_natCast, Int.toNat_zero, List.length_map, is_len, us_len, ps_len, is_get, us_get, ps_get, at_i, at_u, at_p0, at_p1, evs_len, ids_len, evss_len, idss_len, evs_get, ids_get, evss_get, idss_get, at_e0, at_e1, at_e2, at_e3, at_e4, at_d0, at_d1, at_l, at_agg, asL_vs, asI_i, asU_u, asB_b, bofZ, bof1, bof0, List.getD_cons_zero, List.getD_cons_succ]; first | done | omega | rfl | exact ⟨by omega, rfl⟩ | (simp; done) | (simp; omega)) | (intros; trivial))); try cbv)
    | fail
  )
  all_goals (try simp only [nc] at *)
  all_goals (try simp (disch := (first | omega | (simp only [tab_len, List.length_append, List.length_map, List.length_range, List.length_replicate, is_len, us_len, ps_len, evs_len, ids_len, evss_len, idss_len]; omega))) only [nc, nct, w64_of, Int.toNat_natCast, Int.toNat_zero, List.length_map, is_len, us_len, ps_len, is_get, us_get, ps_get, at_i, at_u, at_p0, at_p1, evs_len, ids_len, evss_len, idss_len, evs_get, ids_get, evss_get, idss_get, at_e0, at_e1, at_e2, at_e3, at_e4, at_d0, at_d1, at_l, at_agg, asL_vs, asI_i, asU_u, asB_b, bofZ, bof1, bof0, List.getD_cons_zero, List.getD_cons_succ])
  all_goals simp [us, LV.of]
theorem dSw_ok (g : Gr) (hg : Rd g) : Pure Try.prog γ false 44 [aGr g] (encRel (NG g) (rowsG g swF)) := by
  by_cases h : GOk g
  · have := dSw_yes (γ := γ) g hg h
    unfold NG rowsG
    rwa [if_pos h, if_pos h]
  · have := dSw_no (γ := γ) g hg h
    unfold NG rowsG
    rwa [if_neg h, if_neg h]
theorem dHb_ok (g : Gr) (hg : Rd g) : Pure Try.prog γ false 57 [aGr g] (encRel (NG g) (rowsG g hbF)) := by
  by_cases h : GOk g
  · have := dHb_yes (γ := γ) g hg h
    unfold NG rowsG
    rwa [if_pos h, if_pos h]
  · have := dHb_no (γ := γ) g hg h
    unfold NG rowsG
    rwa [if_neg h, if_neg h]
def readsF (V : Vw) (n : Nat) : BitVec 64 := maskTo (fun a => readsM (V.ev.getD a ev0)) n
def writesF (V : Vw) (n : Nat) : BitVec 64 := maskTo (fun a => writesM (V.ev.getD a ev0)) n
theorem dReads_ok (g : Gr) (hg : Rd g) : Pure Try.prog γ false 30 [aGr g] (.u fun _ => maskG g readsF) := by
  by_cases h : GOk g
  · unfold maskG
    rw [if_pos h]
    have hV := viewG_wf h
    have hr := dmask1_ok (γ := γ) (viewG g) hV 91 (fun _ => aVw (viewG g)) _ (fun a ha => dreads_ok (viewG g) hV a ha)
    refine Pure.go (ty := ty) ty_eq mo Try.func30 rfl Try.ntmps30 Try.results30 Try.call30 (by simp) fun P C CQ D W F E hF => ?_
    cbv
    repeat' (first
      | (refine E.c (SCalls.of_le (hr) ?_ ?_); (· (cbv; (try simp only [nc] at *); first | done | (simp; done) | (simp (disch := (first | omega | (simp only [tab_len, List.length_append, List.length_map, List.length_range, List.length_replicate, is_len, us_len, ps_len, evs_len, ids_len, evss_len, idss_len]; omega))) only [nc, nct, w64_of, Int.toNat_natCast, Int.toNat_zero, List.length_map, is_len, us_len, ps_len, is_get, us_get, ps_get, at_i, at_u, at_p0, at_p1, evs_len, ids_len, evss_len, idss_len, evs_get, ids_get, evss_get, idss_get, at_e0, at_e1, at_e2, at_e3, at_e4, at_d0, at_d1, at_l, at_agg, asL_vs, asI_i, asU_u, asB_b, bofZ, bof1, bof0, List.getD_cons_zero, List.getD_cons_succ, implies_true, and_true, true_and, forall_const]; first | done | omega | (refine ⟨?_, ?_⟩ <;> omega)) | (simp (disch := (first | omega | (simp only [tab_len, List.length_append, List.length_map, List.length_range, List.length_replicate, is_len, us_len, ps_len, evs_len, ids_len, evss_len, idss_len]; omega))) [nc, nct, w64_of, Int.toNat_natCast, Int.toNat_zero, List.length_map, is_len, us_len, ps_len, is_get, us_get, ps_get, at_i, at_u, at_p0, at_p1, evs_len, ids_len, evss_len, idss_len, evs_get, ids_get, evss_get, idss_get, at_e0, at_e1, at_e2, at_e3, at_e4, at_d0, at_d1, at_l, at_agg, asL_vs, asI_i, asU_u, asB_b, bofZ, bof1, bof0, List.getD_cons_zero, List.getD_cons_succ]; done))); cbv)
      | (refine E.c (SCalls.of_le (viewOf_ok g hg h) ?_ ?_); (· (cbv; (try simp only [nc] at *); first | done | (simp; done) | (simp (disch := (first | omega | (simp only [tab_len, List.length_append, List.length_map, List.length_range, List.length_replicate, is_len, us_len, ps_len, evs_len, ids_len, evss_len, idss_len]; omega))) only [nc, nct, w64_of, Int.toNat_natCast, Int.toNat_zero, List.length_map, is_len, us_len, ps_len, is_get, us_get, ps_get, at_i, at_u, at_p0, at_p1, evs_len, ids_len, evss_len, idss_len, evs_get, ids_get, evss_get, idss_get, at_e0, at_e1, at_e2, at_e3, at_e4, at_d0, at_d1, at_l, at_agg, asL_vs, asI_i, asU_u, asB_b, bofZ, bof1, bof0, List.getD_cons_zero, List.getD_cons_succ, implies_true, and_true, true_and, forall_const]; first | done | omega | (refine ⟨?_, ?_⟩ <;> omega)) | (simp (disch := (first | omega | (simp only [tab_len, List.length_append, List.length_map, List.length_range, List.length_replicate, is_len, us_len, ps_len, evs_len, ids_len, evss_len, idss_len]; omega))) [nc, nct, w64_of, Int.toNat_natCast, Int.toNat_zero, List.length_map, is_len, us_len, ps_len, is_get, us_get, ps_get, at_i, at_u, at_p0, at_p1, evs_len, ids_len, evss_len, idss_len, evs_get, ids_get, evss_get, idss_get, at_e0, at_e1, at_e2, at_e3, at_e4, at_d0, at_d1, at_l, at_agg, asL_vs, asI_i, asU_u, asB_b, bofZ, bof1, bof0, List.getD_cons_zero, List.getD_cons_succ]; done))); cbv)
      | (refine ⟨fun _ h_s => ?_, fun _ h_s => ?_⟩ <;> (cbv; (try simp only [nc] at *); try simp (disch := (first | omega | (simp only [tab_len, List.length_append, List.length_map, List.length_range, List.length_replicate, is_len, us_len, ps_len, evs_len, ids_len, evss_len, idss_len]; omega))) only [nc, nct, w64_of, Int.toNat_natCast, Int.toNat_zero, List.length_map, is_len, us_len, ps_len, is_get, us_get, ps_get, at_i, at_u, at_p0, at_p1, evs_len, ids_len, evss_len, idss_len, evs_get, ids_get, evss_get, idss_get, at_e0, at_e1, at_e2, at_e3, at_e4, at_d0, at_d1, at_l, at_agg, asL_vs, asI_i, asU_u, asB_b, bofZ, bof1, bof0, List.getD_cons_zero, List.getD_cons_succ, reduceCtorEq, Bool.not_true, Bool.not_false, decide_eq_true_eq, decide_eq_false_iff_not, Bool.not_eq_true, Bool.not_eq_false, Bool.not_eq_true', Bool.not_eq_false', ne_eq, Decidable.not_not, Int.not_le, Int.not_lt, beq_iff_eq] at h_s))
      | (refine hF ?_; intro _; clear hF)
      | (refine hF ?_; cbv; clear hF)
      | (refine ⟨fun _ => ?_, ?_⟩; (· ((try simp only [nc] at *); first | done | omega | exact ⟨by omega, rfl⟩ | (simp (disch := (first | omega | (simp only [tab_len, List.length_append, List.length_map, List.length_range, List.length_replicate, is_len, us_len, ps_len, evs_len, ids_len, evss_len, idss_len]; omega))) only [nc, nct, w64_of, Int.toNat_natCast, Int.toNat_zero, List.length_map, is_len, us_len, ps_len, is_get, us_get, ps_get, at_i, at_u, at_p0, at_p1, evs_len, ids_len, evss_len, idss_len, evs_get, ids_get, evss_get, idss_get, at_e0, at_e1, at_e2, at_e3, at_e4, at_d0, at_d1, at_l, at_agg, asL_vs, asI_i, asU_u, asB_b, bofZ, bof1, bof0, List.getD_cons_zero, List.getD_cons_succ]; first | done | omega | rfl | exact ⟨by omega, rfl⟩ | (simp; done) | (simp; omega)) | (intros; trivial))); try cbv)
      | fail
    )
    all_goals (try simp only [nc] at *)
    all_goals (try simp (disch := (first | omega | (simp only [tab_len, List.length_append, List.length_map, List.length_range, List.length_replicate, is_len, us_len, ps_len, evs_len, ids_len, evss_len, idss_len]; omega))) only [nc, nct, w64_of, Int.toNat_natCast, Int.toNat_zero, List.length_map, is_len, us_len, ps_len, is_get, us_get, ps_get, at_i, at_u, at_p0, at_p1, evs_len, ids_len, evss_len, idss_len, evs_get, ids_get, evss_get, idss_get, at_e0, at_e1, at_e2, at_e3, at_e4, at_d0, at_d1, at_l, at_agg, asL_vs, asI_i, asU_u, asB_b, bofZ, bof1, bof0, List.getD_cons_zero, List.getD_cons_succ])
    all_goals rfl
  · unfold maskG
    rw [if_neg h]
    refine Pure.go (ty := ty) ty_eq mo Try.func30 rfl Try.ntmps30 Try.results30 Try.call30 (by simp) fun P C CQ D W F E hF => ?_
    cbv
    repeat' (first
      | (refine E.c (SCalls.of_le (viewOf_no g hg h) ?_ ?_); (· (cbv; (try simp only [nc] at *); first | done | (simp; done) | (simp (disch := (first | omega | (simp only [tab_len, List.length_append, List.length_map, List.length_range, List.length_replicate, is_len, us_len, ps_len, evs_len, ids_len, evss_len, idss_len]; omega))) only [nc, nct, w64_of, Int.toNat_natCast, Int.toNat_zero, List.length_map, is_len, us_len, ps_len, is_get, us_get, ps_get, at_i, at_u, at_p0, at_p1, evs_len, ids_len, evss_len, idss_len, evs_get, ids_get, evss_get, idss_get, at_e0, at_e1, at_e2, at_e3, at_e4, at_d0, at_d1, at_l, at_agg, asL_vs, asI_i, asU_u, asB_b, bofZ, bof1, bof0, List.getD_cons_zero, List.getD_cons_succ, implies_true, and_true, true_and, forall_const]; first | done | omega | (refine ⟨?_, ?_⟩ <;> omega)) | (simp (disch := (first | omega | (simp only [tab_len, List.length_append, List.length_map, List.length_range, List.length_replicate, is_len, us_len, ps_len, evs_len, ids_len, evss_len, idss_len]; omega))) [nc, nct, w64_of, Int.toNat_natCast, Int.toNat_zero, List.length_map, is_len, us_len, ps_len, is_get, us_get, ps_get, at_i, at_u, at_p0, at_p1, evs_len, ids_len, evss_len, idss_len, evs_get, ids_get, evss_get, idss_get, at_e0, at_e1, at_e2, at_e3, at_e4, at_d0, at_d1, at_l, at_agg, asL_vs, asI_i, asU_u, asB_b, bofZ, bof1, bof0, List.getD_cons_zero, List.getD_cons_succ]; done))); cbv)
      | (refine ⟨fun _ h_s => ?_, fun _ h_s => ?_⟩ <;> (cbv; (try simp only [nc] at *); try simp (disch := (first | omega | (simp only [tab_len, List.length_append, List.length_map, List.length_range, List.length_replicate, is_len, us_len, ps_len, evs_len, ids_len, evss_len, idss_len]; omega))) only [nc, nct, w64_of, Int.toNat_natCast, Int.toNat_zero, List.length_map, is_len, us_len, ps_len, is_get, us_get, ps_get, at_i, at_u, at_p0, at_p1, evs_len, ids_len, evss_len, idss_len, evs_get, ids_get, evss_get, idss_get, at_e0, at_e1, at_e2, at_e3, at_e4, at_d0, at_d1, at_l, at_agg, asL_vs, asI_i, asU_u, asB_b, bofZ, bof1, bof0, List.getD_cons_zero, List.getD_cons_succ, reduceCtorEq, Bool.not_true, Bool.not_false, decide_eq_true_eq, decide_eq_false_iff_not, Bool.not_eq_true, Bool.not_eq_false, Bool.not_eq_true', Bool.not_eq_false', ne_eq, Decidable.not_not, Int.not_le, Int.not_lt, beq_iff_eq] at h_s))
      | (refine hF ?_; intro _; clear hF)
      | (refine hF ?_; cbv; clear hF)
      | (refine ⟨fun _ => ?_, ?_⟩; (· ((try simp only [nc] at *); first | done | omega | exact ⟨by omega, rfl⟩ | (simp (disch := (first | omega | (simp only [tab_len, List.length_append, List.length_map, List.length_range, List.length_replicate, is_len, us_len, ps_len, evs_len, ids_len, evss_len, idss_len]; omega))) only [nc, nct, w64_of, Int.toNat_natCast, Int.toNat_zero, List.length_map, is_len, us_len, ps_len, is_get, us_get, ps_get, at_i, at_u, at_p0, at_p1, evs_len, ids_len, evss_len, idss_len, evs_get, ids_get, evss_get, idss_get, at_e0, at_e1, at_e2, at_e3, at_e4, at_d0, at_d1, at_l, at_agg, asL_vs, asI_i, asU_u, asB_b, bofZ, bof1, bof0, List.getD_cons_zero, List.getD_cons_succ]; first | done | omega | rfl | exact ⟨by omega, rfl⟩ | (simp; done) | (simp; omega)) | (intros; trivial))); try cbv)
      | fail
    )
    all_goals (try simp only [nc] at *)
    all_goals (try simp (disch := (first | omega | (simp only [tab_len, List.length_append, List.length_map, List.length_range, List.length_replicate, is_len, us_len, ps_len, evs_len, ids_len, evss_len, idss_len]; omega))) only [nc, nct, w64_of, Int.toNat_natCast, Int.toNat_zero, List.length_map, is_len, us_len, ps_len, is_get, us_get, ps_get, at_i, at_u, at_p0, at_p1, evs_len, ids_len, evss_len, idss_len, evs_get, ids_get, evss_get, idss_get, at_e0, at_e1, at_e2, at_e3, at_e4, at_d0, at_d1, at_l, at_agg, asL_vs, asI_i, asU_u, asB_b, bofZ, bof1, bof0, List.getD_cons_zero, List.getD_cons_succ])
theorem dWrites_ok (g : Gr) (hg : Rd g) : Pure Try.prog γ false 31 [aGr g] (.u fun _ => maskG g writesF) := by
  by_cases h : GOk g
  · unfold maskG
    rw [if_pos h]
    have hV := viewG_wf h
    have hr := dmask1_ok (γ := γ) (viewG g) hV 92 (fun _ => aVw (viewG g)) _ (fun a ha => dwrites_ok (viewG g) hV a ha)
    refine Pure.go (ty := ty) ty_eq mo Try.func31 rfl Try.ntmps31 Try.results31 Try.call31 (by simp) fun P C CQ D W F E hF => ?_
    cbv
    repeat' (first
      | (refine E.c (SCalls.of_le (hr) ?_ ?_); (· (cbv; (try simp only [nc] at *); first | done | (simp; done) | (simp (disch := (first | omega | (simp only [tab_len, List.length_append, List.length_map, List.length_range, List.length_replicate, is_len, us_len, ps_len, evs_len, ids_len, evss_len, idss_len]; omega))) only [nc, nct, w64_of, Int.toNat_natCast, Int.toNat_zero, List.length_map, is_len, us_len, ps_len, is_get, us_get, ps_get, at_i, at_u, at_p0, at_p1, evs_len, ids_len, evss_len, idss_len, evs_get, ids_get, evss_get, idss_get, at_e0, at_e1, at_e2, at_e3, at_e4, at_d0, at_d1, at_l, at_agg, asL_vs, asI_i, asU_u, asB_b, bofZ, bof1, bof0, List.getD_cons_zero, List.getD_cons_succ, implies_true, and_true, true_and, forall_const]; first | done | omega | (refine ⟨?_, ?_⟩ <;> omega)) | (simp (disch := (first | omega | (simp only [tab_len, List.length_append, List.length_map, List.length_range, List.length_replicate, is_len, us_len, ps_len, evs_len, ids_len, evss_len, idss_len]; omega))) [nc, nct, w64_of, Int.toNat_natCast, Int.toNat_zero, List.length_map, is_len, us_len, ps_len, is_get, us_get, ps_get, at_i, at_u, at_p0, at_p1, evs_len, ids_len, evss_len, idss_len, evs_get, ids_get, evss_get, idss_get, at_e0, at_e1, at_e2, at_e3, at_e4, at_d0, at_d1, at_l, at_agg, asL_vs, asI_i, asU_u, asB_b, bofZ, bof1, bof0, List.getD_cons_zero, List.getD_cons_succ]; done))); cbv)
      | (refine E.c (SCalls.of_le (viewOf_ok g hg h) ?_ ?_); (· (cbv; (try simp only [nc] at *); first | done | (simp; done) | (simp (disch := (first | omega | (simp only [tab_len, List.length_append, List.length_map, List.length_range, List.length_replicate, is_len, us_len, ps_len, evs_len, ids_len, evss_len, idss_len]; omega))) only [nc, nct, w64_of, Int.toNat_natCast, Int.toNat_zero, List.length_map, is_len, us_len, ps_len, is_get, us_get, ps_get, at_i, at_u, at_p0, at_p1, evs_len, ids_len, evss_len, idss_len, evs_get, ids_get, evss_get, idss_get, at_e0, at_e1, at_e2, at_e3, at_e4, at_d0, at_d1, at_l, at_agg, asL_vs, asI_i, asU_u, asB_b, bofZ, bof1, bof0, List.getD_cons_zero, List.getD_cons_succ, implies_true, and_true, true_and, forall_const]; first | done | omega | (refine ⟨?_, ?_⟩ <;> omega)) | (simp (disch := (first | omega | (simp only [tab_len, List.length_append, List.length_map, List.length_range, List.length_replicate, is_len, us_len, ps_len, evs_len, ids_len, evss_len, idss_len]; omega))) [nc, nct, w64_of, Int.toNat_natCast, Int.toNat_zero, List.length_map, is_len, us_len, ps_len, is_get, us_get, ps_get, at_i, at_u, at_p0, at_p1, evs_len, ids_len, evss_len, idss_len, evs_get, ids_get, evss_get, idss_get, at_e0, at_e1, at_e2, at_e3, at_e4, at_d0, at_d1, at_l, at_agg, asL_vs, asI_i, asU_u, asB_b, bofZ, bof1, bof0, List.getD_cons_zero, List.getD_cons_succ]; done))); cbv)
      | (refine ⟨fun _ h_s => ?_, fun _ h_s => ?_⟩ <;> (cbv; (try simp only [nc] at *); try simp (disch := (first | omega | (simp only [tab_len, List.length_append, List.length_map, List.length_range, List.length_replicate, is_len, us_len, ps_len, evs_len, ids_len, evss_len, idss_len]; omega))) only [nc, nct, w64_of, Int.toNat_natCast, Int.toNat_zero, List.length_map, is_len, us_len, ps_len, is_get, us_get, ps_get, at_i, at_u, at_p0, at_p1, evs_len, ids_len, evss_len, idss_len, evs_get, ids_get, evss_get, idss_get, at_e0, at_e1, at_e2, at_e3, at_e4, at_d0, at_d1, at_l, at_agg, asL_vs, asI_i, asU_u, asB_b, bofZ, bof1, bof0, List.getD_cons_zero, List.getD_cons_succ, reduceCtorEq, Bool.not_true, Bool.not_false, decide_eq_true_eq, decide_eq_false_iff_not, Bool.not_eq_true, Bool.not_eq_false, Bool.not_eq_true', Bool.not_eq_false', ne_eq, Decidable.not_not, Int.not_le, Int.not_lt, beq_iff_eq] at h_s))
      | (refine hF ?_; intro _; clear hF)
      | (refine hF ?_; cbv; clear hF)
      | (refine ⟨fun _ => ?_, ?_⟩; (· ((try simp only [nc] at *); first | done | omega | exact ⟨by omega, rfl⟩ | (simp (disch := (first | omega | (simp only [tab_len, List.length_append, List.length_map, List.length_range, List.length_replicate, is_len, us_len, ps_len, evs_len, ids_len, evss_len, idss_len]; omega))) only [nc, nct, w64_of, Int.toNat_natCast, Int.toNat_zero, List.length_map, is_len, us_len, ps_len, is_get, us_get, ps_get, at_i, at_u, at_p0, at_p1, evs_len, ids_len, evss_len, idss_len, evs_get, ids_get, evss_get, idss_get, at_e0, at_e1, at_e2, at_e3, at_e4, at_d0, at_d1, at_l, at_agg, asL_vs, asI_i, asU_u, asB_b, bofZ, bof1, bof0, List.getD_cons_zero, List.getD_cons_succ]; first | done | omega | rfl | exact ⟨by omega, rfl⟩ | (simp; done) | (simp; omega)) | (intros; trivial))); try cbv)
      | fail
    )
    all_goals (try simp only [nc] at *)
    all_goals (try simp (disch := (first | omega | (simp only [tab_len, List.length_append, List.length_map, List.length_range, List.length_replicate, is_len, us_len, ps_len, evs_len, ids_len, evss_len, idss_len]; omega))) only [nc, nct, w64_of, Int.toNat_natCast, Int.toNat_zero, List.length_map, is_len, us_len, ps_len, is_get, us_get, ps_get, at_i, at_u, at_p0, at_p1, evs_len, ids_len, evss_len, idss_len, evs_get, ids_get, evss_get, idss_get, at_e0, at_e1, at_e2, at_e3, at_e4, at_d0, at_d1, at_l, at_agg, asL_vs, asI_i, asU_u, asB_b, bofZ, bof1, bof0, List.getD_cons_zero, List.getD_cons_succ])
    all_goals rfl
  · unfold maskG
    rw [if_neg h]
    refine Pure.go (ty := ty) ty_eq mo Try.func31 rfl Try.ntmps31 Try.results31 Try.call31 (by simp) fun P C CQ D W F E hF => ?_
    cbv
    repeat' (first
      | (refine E.c (SCalls.of_le (viewOf_no g hg h) ?_ ?_); (· (cbv; (try simp only [nc] at *); first | done | (simp; done) | (simp (disch := (first | omega | (simp only [tab_len, List.length_append, List.length_map, List.length_range, List.length_replicate, is_len, us_len, ps_len, evs_len, ids_len, evss_len, idss_len]; omega))) only [nc, nct, w64_of, Int.toNat_natCast, Int.toNat_zero, List.length_map, is_len, us_len, ps_len, is_get, us_get, ps_get, at_i, at_u, at_p0, at_p1, evs_len, ids_len, evss_len, idss_len, evs_get, ids_get, evss_get, idss_get, at_e0, at_e1, at_e2, at_e3, at_e4, at_d0, at_d1, at_l, at_agg, asL_vs, asI_i, asU_u, asB_b, bofZ, bof1, bof0, List.getD_cons_zero, List.getD_cons_succ, implies_true, and_true, true_and, forall_const]; first | done | omega | (refine ⟨?_, ?_⟩ <;> omega)) | (simp (disch := (first | omega | (simp only [tab_len, List.length_append, List.length_map, List.length_range, List.length_replicate, is_len, us_len, ps_len, evs_len, ids_len, evss_len, idss_len]; omega))) [nc, nct, w64_of, Int.toNat_natCast, Int.toNat_zero, List.length_map, is_len, us_len, ps_len, is_get, us_get, ps_get, at_i, at_u, at_p0, at_p1, evs_len, ids_len, evss_len, idss_len, evs_get, ids_get, evss_get, idss_get, at_e0, at_e1, at_e2, at_e3, at_e4, at_d0, at_d1, at_l, at_agg, asL_vs, asI_i, asU_u, asB_b, bofZ, bof1, bof0, List.getD_cons_zero, List.getD_cons_succ]; done))); cbv)
      | (refine ⟨fun _ h_s => ?_, fun _ h_s => ?_⟩ <;> (cbv; (try simp only [nc] at *); try simp (disch := (first | omega | (simp only [tab_len, List.length_append, List.length_map, List.length_range, List.length_replicate, is_len, us_len, ps_len, evs_len, ids_len, evss_len, idss_len]; omega))) only [nc, nct, w64_of, Int.toNat_natCast, Int.toNat_zero, List.length_map, is_len, us_len, ps_len, is_get, us_get, ps_get, at_i, at_u, at_p0, at_p1, evs_len, ids_len, evss_len, idss_len, evs_get, ids_get, evss_get, idss_get, at_e0, at_e1, at_e2, at_e3, at_e4, at_d0, at_d1, at_l, at_agg, asL_vs, asI_i, asU_u, asB_b, bofZ, bof1, bof0, List.getD_cons_zero, List.getD_cons_succ, reduceCtorEq, Bool.not_true, Bool.not_false, decide_eq_true_eq, decide_eq_false_iff_not, Bool.not_eq_true, Bool.not_eq_false, Bool.not_eq_true', Bool.not_eq_false', ne_eq, Decidable.not_not, Int.not_le, Int.not_lt, beq_iff_eq] at h_s))
      | (refine hF ?_; intro _; clear hF)
      | (refine hF ?_; cbv; clear hF)
      | (refine ⟨fun _ => ?_, ?_⟩; (· ((try simp only [nc] at *); first | done | omega | exact ⟨by omega, rfl⟩ | (simp (disch := (first | omega | (simp only [tab_len, List.length_append, List.length_map, List.length_range, List.length_replicate, is_len, us_len, ps_len, evs_len, ids_len, evss_len, idss_len]; omega))) only [nc, nct, w64_of, Int.toNat_natCast, Int.toNat_zero, List.length_map, is_len, us_len, ps_len, is_get, us_get, ps_get, at_i, at_u, at_p0, at_p1, evs_len, ids_len, evss_len, idss_len, evs_get, ids_get, evss_get, idss_get, at_e0, at_e1, at_e2, at_e3, at_e4, at_d0, at_d1, at_l, at_agg, asL_vs, asI_i, asU_u, asB_b, bofZ, bof1, bof0, List.getD_cons_zero, List.getD_cons_succ]; first | done | omega | rfl | exact ⟨by omega, rfl⟩ | (simp; done) | (simp; omega)) | (intros; trivial))); try cbv)
      | fail
    )
    all_goals (try simp only [nc] at *)
    all_goals (try simp (disch := (first | omega | (simp only [tab_len, List.length_append, List.length_map, List.length_range, List.length_replicate, is_len, us_len, ps_len, evs_len, ids_len, evss_len, idss_len]; omega))) only [nc, nct, w64_of, Int.toNat_natCast, Int.toNat_zero, List.length_map, is_len, us_len, ps_len, is_get, us_get, ps_get, at_i, at_u, at_p0, at_p1, evs_len, ids_len, evss_len, idss_len, evs_get, ids_get, evss_get, idss_get, at_e0, at_e1, at_e2, at_e3, at_e4, at_d0, at_d1, at_l, at_agg, asL_vs, asI_i, asU_u, asB_b, bofZ, bof1, bof0, List.getD_cons_zero, List.getD_cons_succ])
end Go.AL.Rl

namespace Go.AL.Rl
open Go Go.AL Go.Proofs
set_option maxRecDepth 100000
set_option maxHeartbeats 1600000
variable {γ : Nat → Option AV}

abbrev aDer (n : Int) (po rf co fr eco porf loc sw hb : List (BitVec 64)) : AV :=
  .agg [.i fun _ => n, .vs 1 fun _ => us po, .i fun _ => n, .vs 1 fun _ => us rf, .i fun _ => n, .vs 1 fun _ => us co, .i fun _ => n, .vs 1 fun _ => us fr, .i fun _ => n, .vs 1 fun _ => us eco, .i fun _ => n, .vs 1 fun _ => us porf, .i fun _ => n, .vs 1 fun _ => us loc, .i fun _ => n, .vs 1 fun _ => us sw, .i fun _ => n, .vs 1 fun _ => us hb]
theorem or3 (n : Nat) (a b c : List (BitVec 64)) (ha : Fits n a) (hb : Fits n b) (hc : Fits n c) : Pure Try.prog γ false 81 [.vs 2 fun _ => rls [((n : Int), a), ((n : Int), b), ((n : Int), c)]] (encRel n (orM n [((n : Int), a), ((n : Int), b), ((n : Int), c)])) :=
  or_yes _ (by simp) (alike3 n a b c ha hb hc) n rfl
theorem dAll_yes (g : Gr) (hg : Rd g) (h : GOk g) : Pure Try.prog γ false 17 [aGr g] (.tup [aDer (nG g : Nat) (poF (viewG g) (nG g)) (rfF (viewG g) (nG g)) (coF (viewG g) (nG g)) (frF (viewG g) (nG g)) (ecoF (viewG g) (nG g)) (porfF (viewG g) (nG g)) (locF (viewG g) (nG g)) (swF (viewG g) (nG g)) (hbF (viewG g) (nG g)), .i fun _ => 0]) := by
  have hV := viewG_wf h
  have a1 := vpoF_ok (γ := γ) (viewG g) hV
  have a2 := vrfF_ok (γ := γ) (viewG g) hV
  have a3 := vcoF_ok (γ := γ) (viewG g) hV
  have a4 := vfrF_ok (γ := γ) (viewG g) hV
  have a5 := vlocF_ok (γ := γ) (viewG g) hV
  have a6 := vswF_ok (γ := γ) (viewG g) hV
  have f1 := fits_poF (viewG g) hV.small
  have f2 := fits_rfF (viewG g) hV.small
  have f3 := fits_coF (viewG g) hV.small
  have f4 := fits_frF (viewG g) hV.small
  have f6 := fits_swF (viewG g) hV.small
  have o1 := or3 (γ := γ) (nG g) _ _ _ f2 f3 f4
  have o2 := or2 (γ := γ) (nG g) _ _ f1 f2
  have o3 := or2 (γ := γ) (nG g) _ _ f1 f6
  have p1 := plus_ok (γ := γ) (nG g) _ (fits_or (by have := hV.small; omega) (l := [((nG g : Int), rfF (viewG g) (nG g)), ((nG g : Int), coF (viewG g) (nG g)), ((nG g : Int), frF (viewG g) (nG g))]) (by simp [f2, f3, f4]))
  have p2 := plus_ok (γ := γ) (nG g) _ (fits_or2 f1 f2)
  have p3 := plus_ok (γ := γ) (nG g) _ (fits_or2 f1 f6)
  refine Pure.go (ty := ty) ty_eq mo Try.func17 rfl Try.ntmps17 Try.results17 Try.call17 (by simp) fun P C CQ D W F E hF => ?_
  cbv
  repeat' (first
    | (refine E.c (SCalls.of_le (p3) ?_ ?_); (· (cbv; (try simp only [nc] at *); first | done | (simp; done) | (simp (disch := (first | omega | (simp only [tab_len, List.length_append, List.length_map, List.length_range, List.length_replicate, is_len, us_len, ps_len, evs_len, ids_len, evss_len, idss_len]; omega))) only [nc, nct, w64_of, Int.toNat_natCast, Int.toNat_zero, List.length_map, is_len, us_len, ps_len, is_get, us_get, ps_get, at_i, at_u, at_p0, at_p1, evs_len, ids_len, evss_len, idss_len, evs_get, ids_get, evss_get, idss_get, at_e0, at_e1, at_e2, at_e3, at_e4, at_d0, at_d1, at_l, at_agg, asL_vs, asI_i, asU_u, asB_b, bofZ, bof1, bof0, List.getD_cons_zero, List.getD_cons_succ, implies_true, and_true, true_and, forall_const]; first | done | omega | (refine ⟨?_, ?_⟩ <;> omega)) | (simp (disch := (first | omega | (simp only [tab_len, List.length_append, List.length_map, List.length_range, List.length_replicate, is_len, us_len, ps_len, evs_len, ids_len, evss_len, idss_len]; omega))) [nc, nct, w64_of, Int.toNat_natCast, Int.toNat_zero, List.length_map, is_len, us_len, ps_len, is_get, us_get, ps_get, at_i, at_u, at_p0, at_p1, evs_len, ids_len, evss_len, idss_len, evs_get, ids_get, evss_get, idss_get, at_e0, at_e1, at_e2, at_e3, at_e4, at_d0, at_d1, at_l, at_agg, asL_vs, asI_i, asU_u, asB_b, bofZ, bof1, bof0, List.getD_cons_zero, List.getD_cons_succ]; done))); cbv)
    | (refine E.c (SCalls.of_le (p2) ?_ ?_); (· (cbv; (try simp only [nc] at *); first | done | (simp; done) | (simp (disch := (first | omega | (simp only [tab_len, List.length_append, List.length_map, List.length_range, List.length_replicate, is_len, us_len, ps_len, evs_len, ids_len, evss_len, idss_len]; omega))) only [nc, nct, w64_of, Int.toNat_natCast, Int.toNat_zero, List.length_map, is_len, us_len, ps_len, is_get, us_get, ps_get, at_i, at_u, at_p0, at_p1, evs_len, ids_len, evss_len, idss_len, evs_get, ids_get, evss_get, idss_get, at_e0, at_e1, at_e2, at_e3, at_e4, at_d0, at_d1, at_l, at_agg, asL_vs, asI_i, asU_u, asB_b, bofZ, bof1, bof0, List.getD_cons_zero, List.getD_cons_succ, implies_true, and_true, true_and, forall_const]; first | done | omega | (refine ⟨?_, ?_⟩ <;> omega)) | (simp (disch := (first | omega | (simp only [tab_len, List.length_append, List.length_map, List.length_range, List.length_replicate, is_len, us_len, ps_len, evs_len, ids_len, evss_len, idss_len]; omega))) [nc, nct, w64_of, Int.toNat_natCast, Int.toNat_zero, List.length_map, is_len, us_len, ps_len, is_get, us_get, ps_get, at_i, at_u, at_p0, at_p1, evs_len, ids_len, evss_len, idss_len, evs_get, ids_get, evss_get, idss_get, at_e0, at_e1, at_e2, at_e3, at_e4, at_d0, at_d1, at_l, at_agg, asL_vs, asI_i, asU_u, asB_b, bofZ, bof1, bof0, List.getD_cons_zero, List.getD_cons_succ]; done))); cbv)
    | (refine E.c (SCalls.of_le (p1) ?_ ?_); (· (cbv; (try simp only [nc] at *); first | done | (simp; done) | (simp (disch := (first | omega | (simp only [tab_len, List.length_append, List.length_map, List.length_range, List.length_replicate, is_len, us_len, ps_len, evs_len, ids_len, evss_len, idss_len]; omega))) only [nc, nct, w64_of, Int.toNat_natCast, Int.toNat_zero, List.length_map, is_len, us_len, ps_len, is_get, us_get, ps_get, at_i, at_u, at_p0, at_p1, evs_len, ids_len, evss_len, idss_len, evs_get, ids_get, evss_get, idss_get, at_e0, at_e1, at_e2, at_e3, at_e4, at_d0, at_d1, at_l, at_agg, asL_vs, asI_i, asU_u, asB_b, bofZ, bof1, bof0, List.getD_cons_zero, List.getD_cons_succ, implies_true, and_true, true_and, forall_const]; first | done | omega | (refine ⟨?_, ?_⟩ <;> omega)) | (simp (disch := (first | omega | (simp only [tab_len, List.length_append, List.length_map, List.length_range, List.length_replicate, is_len, us_len, ps_len, evs_len, ids_len, evss_len, idss_len]; omega))) [nc, nct, w64_of, Int.toNat_natCast, Int.toNat_zero, List.length_map, is_len, us_len, ps_len, is_get, us_get, ps_get, at_i, at_u, at_p0, at_p1, evs_len, ids_len, evss_len, idss_len, evs_get, ids_get, evss_get, idss_get, at_e0, at_e1, at_e2, at_e3, at_e4, at_d0, at_d1, at_l, at_agg, asL_vs, asI_i, asU_u, asB_b, bofZ, bof1, bof0, List.getD_cons_zero, List.getD_cons_succ]; done))); cbv)
    | (refine E.c (SCalls.of_bare (o3) rfl ?_ ?_); (· (cbv; simp [rls, ps, us, is, LV.of]; done)); cbv)
    | (refine E.c (SCalls.of_le (o3) ?_ ?_); (· (cbv; simp [rls, ps, us, is, LV.of]; done)); cbv)
    | (refine E.c (SCalls.of_bare (o2) rfl ?_ ?_); (· (cbv; simp [rls, ps, us, is, LV.of]; done)); cbv)
    | (refine E.c (SCalls.of_le (o2) ?_ ?_); (· (cbv; simp [rls, ps, us, is, LV.of]; done)); cbv)
    | (refine E.c (SCalls.of_bare (o1) rfl ?_ ?_); (· (cbv; simp [rls, ps, us, is, LV.of]; done)); cbv)
    | (refine E.c (SCalls.of_le (o1) ?_ ?_); (· (cbv; simp [rls, ps, us, is, LV.of]; done)); cbv)
    | (refine E.c (SCalls.of_le (a6) ?_ ?_); (· (cbv; (try simp only [nc] at *); first | done | (simp; done) | (simp (disch := (first | omega | (simp only [tab_len, List.length_append, List.length_map, List.length_range, List.length_replicate, is_len, us_len, ps_len, evs_len, ids_len, evss_len, idss_len]; omega))) only [nc, nct, w64_of, Int.toNat_natCast, Int.toNat_zero, List.length_map, is_len, us_len, ps_len, is_get, us_get, ps_get, at_i, at_u, at_p0, at_p1, evs_len, ids_len, evss_len, idss_len, evs_get, ids_get, evss_get, idss_get, at_e0, at_e1, at_e2, at_e3, at_e4, at_d0, at_d1, at_l, at_agg, asL_vs, asI_i, asU_u, asB_b, bofZ, bof1, bof0, List.getD_cons_zero, List.getD_cons_succ, implies_true, and_true, true_and, forall_const]; first | done | omega | (refine ⟨?_, ?_⟩ <;> omega)) | (simp (disch := (first | omega | (simp only [tab_len, List.length_append, List.length_map, List.length_range, List.length_replicate, is_len, us_len, ps_len, evs_len, ids_len, evss_len, idss_len]; omega))) [nc, nct, w64_of, Int.toNat_natCast, Int.toNat_zero, List.length_map, is_len, us_len, ps_len, is_get, us_get, ps_get, at_i, at_u, at_p0, at_p1, evs_len, ids_len, evss_len, idss_len, evs_get, ids_get, evss_get, idss_get, at_e0, at_e1, at_e2, at_e3, at_e4, at_d0, at_d1, at_l, at_agg, asL_vs, asI_i, asU_u, asB_b, bofZ, bof1, bof0, List.getD_cons_zero, List.getD_cons_succ]; done))); cbv)
    | (refine E.c (SCalls.of_le (a5) ?_ ?_); (· (cbv; (try simp only [nc] at *); first | done | (simp; done) | (simp (disch := (first | omega | (simp only [tab_len, List.length_append, List.length_map, List.length_range, List.length_replicate, is_len, us_len, ps_len, evs_len, ids_len, evss_len, idss_len]; omega))) only [nc, nct, w64_of, Int.toNat_natCast, Int.toNat_zero, List.length_map, is_len, us_len, ps_len, is_get, us_get, ps_get, at_i, at_u, at_p0, at_p1, evs_len, ids_len, evss_len, idss_len, evs_get, ids_get, evss_get, idss_get, at_e0, at_e1, at_e2, at_e3, at_e4, at_d0, at_d1, at_l, at_agg, asL_vs, asI_i, asU_u, asB_b, bofZ, bof1, bof0, List.getD_cons_zero, List.getD_cons_succ, implies_true, and_true, true_and, forall_const]; first | done | omega | (refine ⟨?_, ?_⟩ <;> omega)) | (simp (disch := (first | omega | (simp only [tab_len, List.length_append, List.length_map, List.length_range, List.length_replicate, is_len, us_len, ps_len, evs_len, ids_len, evss_len, idss_len]; omega))) [nc, nct, w64_of, Int.toNat_natCast, Int.toNat_zero, List.length_map, is_len, us_len, ps_len, is_get, us_get, ps_get, at_i, at_u, at_p0, at_p1, evs_len, ids_len, evss_len, idss_len, evs_get, ids_get, evss_get, idss_get, at_e0, at_e1, at_e2, at_e3, at_e4, at_d0, at_d1, at_l, at_agg, asL_vs, asI_i, asU_u, asB_b, bofZ, bof1, bof0, List.getD_cons_zero, List.getD_cons_succ]; done))); cbv)
    | (refine E.c (SCalls.of_le (a4) ?_ ?_); (· (cbv; (try simp only [nc] at *); first | done | (simp; done) | (simp (disch := (first | omega | (simp only [tab_len, List.length_append, List.length_map, List.length_range, List.length_replicate, is_len, us_len, ps_len, evs_len, ids_len, evss_len, idss_len]; omega))) only [nc, nct, w64_of, Int.toNat_natCast, Int.toNat_zero, List.length_map, is_len, us_len, ps_len, is_get, us_get, ps_get, at_i, at_u, at_p0, at_p1, evs_len, ids_len, evss_len, idss_len, evs_get, ids_get, evss_get, idss_get, at_e0, at_e1, at_e2, at_e3, at_e4, at_d0, at_d1, at_l, at_agg, asL_vs, asI_i, asU_u, asB_b, bofZ, bof1, bof0, List.getD_cons_zero, List.getD_cons_succ, implies_true, and_true, true_and, forall_const]; first | done | omega | (refine ⟨?_, ?_⟩ <;> omega)) | (simp (disch := (first | omega | (simp only [tab_len, List.length_append, List.length_map, List.length_range, List.length_replicate, is_len, us_len, ps_len, evs_len, ids_len, evss_len, idss_len]; omega))) [nc, nct, w64_of, Int.toNat_natCast, Int.toNat_zero, List.length_map, is_len, us_len, ps_len, is_get, us_get, ps_get, at_i, at_u, at_p0, at_p1, evs_len, ids_len, evss_len, idss_len, evs_get, ids_get, evss_get, idss_get, at_e0, at_e1, at_e2, at_e3, at_e4, at_d0, at_d1, at_l, at_agg, asL_vs, asI_i, asU_u, asB_b, bofZ, bof1, bof0, List.getD_cons_zero, List.getD_cons_succ]; done))); cbv)
    | (refine E.c (SCalls.of_le (a3) ?_ ?_); (· (cbv; (try simp only [nc] at *); first | done | (simp; done) | (simp (disch := (first | omega | (simp only [tab_len, List.length_append, List.length_map, List.length_range, List.length_replicate, is_len, us_len, ps_len, evs_len, ids_len, evss_len, idss_len]; omega))) only [nc, nct, w64_of, Int.toNat_natCast, Int.toNat_zero, List.length_map, is_len, us_len, ps_len, is_get, us_get, ps_get, at_i, at_u, at_p0, at_p1, evs_len, ids_len, evss_len, idss_len, evs_get, ids_get, evss_get, idss_get, at_e0, at_e1, at_e2, at_e3, at_e4, at_d0, at_d1, at_l, at_agg, asL_vs, asI_i, asU_u, asB_b, bofZ, bof1, bof0, List.getD_cons_zero, List.getD_cons_succ, implies_true, and_true, true_and, forall_const]; first | done | omega | (refine ⟨?_, ?_⟩ <;> omega)) | (simp (disch := (first | omega | (simp only [tab_len, List.length_append, List.length_map, List.length_range, List.length_replicate, is_len, us_len, ps_len, evs_len, ids_len, evss_len, idss_len]; omega))) [nc, nct, w64_of, Int.toNat_natCast, Int.toNat_zero, List.length_map, is_len, us_len, ps_len, is_get, us_get, ps_get, at_i, at_u, at_p0, at_p1, evs_len, ids_len, evss_len, idss_len, evs_get, ids_get, evss_get, idss_get, at_e0, at_e1, at_e2, at_e3, at_e4, at_d0, at_d1, at_l, at_agg, asL_vs, asI_i, asU_u, asB_b, bofZ, bof1, bof0, List.getD_cons_zero, List.getD_cons_succ]; done))); cbv)
    | (refine E.c (SCalls.of_le (a2) ?_ ?_); (· (cbv; (try simp only [nc] at *); first | done | (simp; done) | (simp (disch := (first | omega | (simp only [tab_len, List.length_append, List.length_map, List.length_range, List.length_replicate, is_len, us_len, ps_len, evs_len, ids_len, evss_len, idss_len]; omega))) only [nc, nct, w64_of, Int.toNat_natCast, Int.toNat_zero, List.length_map, is_len, us_len, ps_len, is_get, us_get, ps_get, at_i, at_u, at_p0, at_p1, evs_len, ids_len, evss_len, idss_len, evs_get, ids_get, evss_get, idss_get, at_e0, at_e1, at_e2, at_e3, at_e4, at_d0, at_d1, at_l, at_agg, asL_vs, asI_i, asU_u, asB_b, bofZ, bof1, bof0, List.getD_cons_zero, List.getD_cons_succ, implies_true, and_true, true_and, forall_const]; first | done | omega | (refine ⟨?_, ?_⟩ <;> omega)) | (simp (disch := (first | omega | (simp only [tab_len, List.length_append, List.length_map, List.length_range, List.length_replicate, is_len, us_len, ps_len, evs_len, ids_len, evss_len, idss_len]; omega))) [nc, nct, w64_of, Int.toNat_natCast, Int.toNat_zero, List.length_map, is_len, us_len, ps_len, is_get, us_get, ps_get, at_i, at_u, at_p0, at_p1, evs_len, ids_len, evss_len, idss_len, evs_get, ids_get, evss_get, idss_get, at_e0, at_e1, at_e2, at_e3, at_e4, at_d0, at_d1, at_l, at_agg, asL_vs, asI_i, asU_u, asB_b, bofZ, bof1, bof0, List.getD_cons_zero, List.getD_cons_succ]; done))); cbv)
    | (refine E.c (SCalls.of_le (a1) ?_ ?_); (· (cbv; (try simp only [nc] at *); first | done | (simp; done) | (simp (disch := (first | omega | (simp only [tab_len, List.length_append, List.length_map, List.length_range, List.length_replicate, is_len, us_len, ps_len, evs_len, ids_len, evss_len, idss_len]; omega))) only [nc, nct, w64_of, Int.toNat_natCast, Int.toNat_zero, List.length_map, is_len, us_len, ps_len, is_get, us_get, ps_get, at_i, at_u, at_p0, at_p1, evs_len, ids_len, evss_len, idss_len, evs_get, ids_get, evss_get, idss_get, at_e0, at_e1, at_e2, at_e3, at_e4, at_d0, at_d1, at_l, at_agg, asL_vs, asI_i, asU_u, asB_b, bofZ, bof1, bof0, List.getD_cons_zero, List.getD_cons_succ, implies_true, and_true, true_and, forall_const]; first | done | omega | (refine ⟨?_, ?_⟩ <;> omega)) | (simp (disch := (first | omega | (simp only [tab_len, List.length_append, List.length_map, List.length_range, List.length_replicate, is_len, us_len, ps_len, evs_len, ids_len, evss_len, idss_len]; omega))) [nc, nct, w64_of, Int.toNat_natCast, Int.toNat_zero, List.length_map, is_len, us_len, ps_len, is_get, us_get, ps_get, at_i, at_u, at_p0, at_p1, evs_len, ids_len, evss_len, idss_len, evs_get, ids_get, evss_get, idss_get, at_e0, at_e1, at_e2, at_e3, at_e4, at_d0, at_d1, at_l, at_agg, asL_vs, asI_i, asU_u, asB_b, bofZ, bof1, bof0, List.getD_cons_zero, List.getD_cons_succ]; done))); cbv)
    | (refine E.c (SCalls.of_le (viewOf_ok g hg h) ?_ ?_); (· (cbv; (try simp only [nc] at *); first | done | (simp; done) | (simp (disch := (first | omega | (simp only [tab_len, List.length_append, List.length_map, List.length_range, List.length_replicate, is_len, us_len, ps_len, evs_len, ids_len, evss_len, idss_len]; omega))) only [nc, nct, w64_of, Int.toNat_natCast, Int.toNat_zero, List.length_map, is_len, us_len, ps_len, is_get, us_get, ps_get, at_i, at_u, at_p0, at_p1, evs_len, ids_len, evss_len, idss_len, evs_get, ids_get, evss_get, idss_get, at_e0, at_e1, at_e2, at_e3, at_e4, at_d0, at_d1, at_l, at_agg, asL_vs, asI_i, asU_u, asB_b, bofZ, bof1, bof0, List.getD_cons_zero, List.getD_cons_succ, implies_true, and_true, true_and, forall_const]; first | done | omega | (refine ⟨?_, ?_⟩ <;> omega)) | (simp (disch := (first | omega | (simp only [tab_len, List.length_append, List.length_map, List.length_range, List.length_replicate, is_len, us_len, ps_len, evs_len, ids_len, evss_len, idss_len]; omega))) [nc, nct, w64_of, Int.toNat_natCast, Int.toNat_zero, List.length_map, is_len, us_len, ps_len, is_get, us_get, ps_get, at_i, at_u, at_p0, at_p1, evs_len, ids_len, evss_len, idss_len, evs_get, ids_get, evss_get, idss_get, at_e0, at_e1, at_e2, at_e3, at_e4, at_d0, at_d1, at_l, at_agg, asL_vs, asI_i, asU_u, asB_b, bofZ, bof1, bof0, List.getD_cons_zero, List.getD_cons_succ]; done))); cbv)
    | (refine ⟨fun _ h_s => ?_, fun _ h_s => ?_⟩ <;> (cbv; (try simp only [nc] at *); try simp (disch := (first | omega | (simp only [tab_len, List.length_append, List.length_map, List.length_range, List.length_replicate, is_len, us_len, ps_len, evs_len, ids_len, evss_len, idss_len]; omega))) only [nc, nct, w64_of, Int.toNat_natCast, Int.toNat_zero, List.length_map, is_len, us_len, ps_len, is_get, us_get, ps_get, at_i, at_u, at_p0, at_p1, evs_len, ids_len, evss_len, idss_len, evs_get, ids_get, evss_get, idss_get, at_e0, at_e1, at_e2, at_e3, at_e4, at_d0, at_d1, at_l, at_agg, asL_vs, asI_i, asU_u, asB_b, bofZ, bof1, bof0, List.getD_cons_zero, List.getD_cons_succ, reduceCtorEq, Bool.not_true, Bool.not_false, decide_eq_true_eq, decide_eq_false_iff_not, Bool.not_eq_true, Bool.not_eq_false, Bool.not_eq_true', Bool.not_eq_false', ne_eq, Decidable.not_not, Int.not_le, Int.not_lt, beq_iff_eq] at h_s))
    | (refine hF ?_; intro _; clear hF)
    | (refine hF ?_; cbv; clear hF)
    | (refine ⟨fun _ => ?_, ?_⟩; (· ((try simp only [nc] at *); first | done | omega | exact ⟨by omega, rfl⟩ | (simp (disch := (first | omega | (simp only [tab_len, List.length_append, List.length_map, List.length_range, List.length_replicate, is_len, us_len, ps_len, evs_len, ids_len, evss_len, idss_len]; omega))) only [nc, nct, w64_of, Int.toNat_natCast, Int.toNat_zero, List.length_map, is_len, us_len, ps_len, is_get, us_get, ps_get, at_i, at_u, at_p0, at_p1, evs_len, ids_len, evss_len, idss_len, evs_get, ids_get, evss_get, idss_get, at_e0, at_e1, at_e2, at_e3, at_e4, at_d0, at_d1, at_l, at_agg, asL_vs, asI_i, asU_u, asB_b, bofZ, bof1, bof0, List.getD_cons_zero, List.getD_cons_succ]; first | done | omega | rfl | exact ⟨by omega, rfl⟩ | (simp; done) | (simp; omega)) | (intros; trivial))); try cbv)
    | fail
  )
  all_goals (try simp only [nc] at *)
  all_goals (try simp (disch := (first | omega | (simp only [tab_len, List.length_append, List.length_map, List.length_range, List.length_replicate, is_len, us_len, ps_len, evs_len, ids_len, evss_len, idss_len]; omega))) only [nc, nct, w64_of, Int.toNat_natCast, Int.toNat_zero, List.length_map, is_len, us_len, ps_len, is_get, us_get, ps_get, at_i, at_u, at_p0, at_p1, evs_len, ids_len, evss_len, idss_len, evs_get, ids_get, evss_get, idss_get, at_e0, at_e1, at_e2, at_e3, at_e4, at_d0, at_d1, at_l, at_agg, asL_vs, asI_i, asU_u, asB_b, bofZ, bof1, bof0, List.getD_cons_zero, List.getD_cons_succ])
  simp [ecoF, porfF, hbF]
end Go.AL.Rl

namespace Go.AL.Rl
open Go Go.AL Go.Proofs
set_option maxRecDepth 100000
set_option maxHeartbeats 1600000
variable {γ : Nat → Option AV}

def runL (mx cap : Int) : List Nat → Int → Int
  | [], s => s
  | n :: r, s => if s ≤ cap then runL mx cap r (s + min (mx + 1) n) else s
def sumL (mx : Int) (l : List Nat) (s : Int) (k : Nat) : Int := (l.take k).foldl (fun (a : Int) (n : Nat) => a + min (mx + 1) (n : Int)) s
theorem sumL_zero (mx : Int) (l : List Nat) (s : Int) : sumL mx l s 0 = s := rfl
theorem sumL_succ (mx : Int) (l : List Nat) (s : Int) (k : Nat) (h : k < l.length) : sumL mx l s (k + 1) = sumL mx l s k + min (mx + 1) (l.getD k 0) := by
  simp only [sumL]
  rw [List.take_succ_eq_append_getElem h, List.foldl_append]
  simp [h]
theorem runL_step {mx cap : Int} {l : List Nat} {s : Int} {k : Nat} (h : k < l.length) (hs : sumL mx l s k ≤ cap) (hr : runL mx cap (l.drop k) (sumL mx l s k) = runL mx cap l s) :
    runL mx cap (l.drop (k + 1)) (sumL mx l s (k + 1)) = runL mx cap l s := by
  rw [← hr, List.drop_eq_getElem_cons h, runL, if_pos hs, sumL_succ _ _ _ _ h]
  simp [h]
theorem runL_end {mx cap : Int} {l : List Nat} {s : Int} {k : Nat} (h : l.length ≤ k ∨ ¬ sumL mx l s k ≤ cap) (hr : runL mx cap (l.drop k) (sumL mx l s k) = runL mx cap l s) : sumL mx l s k = runL mx cap l s := by
  rw [← hr]
  by_cases hk : l.length ≤ k
  · rw [List.drop_eq_nil_of_le hk, runL]
  · rw [List.drop_eq_getElem_cons (by omega), runL, if_neg (by rcases h with h | h; omega; exact h)]
theorem runL_bd {mx cap B : Int} (h0 : 0 ≤ mx) (hB : cap + mx + 1 ≤ B) : ∀ (l : List Nat) (s : Int), 0 ≤ s → s ≤ B → 0 ≤ runL mx cap l s ∧ runL mx cap l s ≤ B
  | [], s, h1, h2 => ⟨h1, h2⟩
  | n :: r, s, h1, h2 => by
    rw [runL]
    split
    · exact runL_bd h0 hB r _ (by omega) (by omega)
    · exact ⟨h1, h2⟩
theorem ths_le {g : Gr} (hg : Rd g) (x : Nat) : ((g.th.getD x []).length : Int) ≤ 9223372036854775807 := by
  rcases Nat.lt_or_ge x g.th.length with h1 | h1
  · exact hg.ths _ (getD_mem h1)
  · simp [List.getElem?_eq_none h1]
theorem frs_le {g : Gr} (hg : Rd g) (x : Nat) : ((g.fr.getD x []).length : Int) ≤ 9223372036854775807 := by
  rcases Nat.lt_or_ge x g.fr.length with h1 | h1
  · exact hg.frs _ (getD_mem h1)
  · simp [List.getElem?_eq_none h1]
def lensT (g : Gr) : List Nat := g.th.map (·.length)
def lensF (g : Gr) : List Nat := g.fr.map (·.length)
def lensO (g : Gr) : List Nat := g.ord.map (·.length)
def light0 (mx : Int) (g : Gr) : Int := min (mx + 1) g.init.length + min (mx + 1) g.th.length + min (mx + 1) g.fr.length + min (mx + 1) g.ord.length
def lightM (mx : Int) (g : Gr) : Bool := decide (runL mx (3 * mx) (lensO g) (runL mx (2 * mx) (lensF g) (runL mx mx (lensT g) (light0 mx g))) ≤ 3 * mx)
theorem lensT_get (g : Gr) (k : Nat) (h : k < g.th.length) : (lensT g).getD k 0 = (g.th.getD k []).length := by simp [lensT, h]
theorem lensF_get (g : Gr) (k : Nat) (h : k < g.fr.length) : (lensF g).getD k 0 = (g.fr.getD k []).length := by simp [lensF, h]
theorem lensO_get (g : Gr) (k : Nat) (h : k < g.ord.length) : (lensO g).getD k 0 = (g.ord.getD k []).length := by simp [lensO, h]
theorem light_ok (g : Gr) (hg : Rd g) (mx : Int) (h0 : 0 ≤ mx) (h1 : mx ≤ 1000) : Pure Try.prog γ false 15 [aGr g, .i fun _ => mx] (.b fun _ => lightM mx g) := by
  have b1 := hg.init
  have b2 := hg.th
  have b3 := hg.fr
  have b4 := hg.ord
  have hs0 : 0 ≤ light0 mx g ∧ light0 mx g ≤ 4 * mx + 4 := by unfold light0; omega
  obtain ⟨s0, hs⟩ : ∃ s, s = light0 mx g := ⟨_, rfl⟩
  rw [← hs] at hs0
  unfold lightM
  rw [← hs]
  have hlT : (lensT g).length = g.th.length := by simp [lensT]
  have hlF : (lensF g).length = g.fr.length := by simp [lensF]
  have hlO : (lensO g).length = g.ord.length := by simp [lensO]
  obtain ⟨r1, hr1⟩ : ∃ r, r = runL mx mx (lensT g) s0 := ⟨_, rfl⟩
  obtain ⟨r2, hr2⟩ : ∃ r, r = runL mx (2 * mx) (lensF g) r1 := ⟨_, rfl⟩
  obtain ⟨r3, hr3⟩ : ∃ r, r = runL mx (3 * mx) (lensO g) r2 := ⟨_, rfl⟩
  obtain ⟨S1, hS1⟩ : ∃ S : Nat → Int, ∀ k, S k = sumL mx (lensT g) s0 k := ⟨_, fun _ => rfl⟩
  obtain ⟨S2, hS2⟩ : ∃ S : Nat → Int, ∀ k, S k = sumL mx (lensF g) r1 k := ⟨_, fun _ => rfl⟩
  obtain ⟨S3, hS3⟩ : ∃ S : Nat → Int, ∀ k, S k = sumL mx (lensO g) r2 k := ⟨_, fun _ => rfl⟩
  have z1 : S1 0 = s0 := by rw [hS1, sumL_zero]
  have z2 : S2 0 = r1 := by rw [hS2, sumL_zero]
  have z3 : S3 0 = r2 := by rw [hS3, sumL_zero]
  have n1 : ∀ k, k < g.th.length → S1 (k + 1) = S1 k + min (mx + 1) (g.th.getD k []).length := fun k hk => by rw [hS1, hS1, sumL_succ _ _ _ _ (by omega), lensT_get _ _ hk]
  have n2 : ∀ k, k < g.fr.length → S2 (k + 1) = S2 k + min (mx + 1) (g.fr.getD k []).length := fun k hk => by rw [hS2, hS2, sumL_succ _ _ _ _ (by omega), lensF_get _ _ hk]
  have n3 : ∀ k, k < g.ord.length → S3 (k + 1) = S3 k + min (mx + 1) (g.ord.getD k []).length := fun k hk => by rw [hS3, hS3, sumL_succ _ _ _ _ (by omega), lensO_get _ _ hk]
  rw [← hr1, ← hr2, ← hr3]
  have q1 := runL_bd (mx := mx) (cap := mx) (B := 4 * mx + 4) h0 (by omega) (lensT g) s0 (by omega) (by omega)
  rw [← hr1] at q1
  have q2 := runL_bd (mx := mx) (cap := 2 * mx) (B := 4 * mx + 4) h0 (by omega) (lensF g) r1 (by omega) (by omega)
  rw [← hr2] at q2
  have q3 := runL_bd (mx := mx) (cap := 3 * mx) (B := 4 * mx + 4) h0 (by omega) (lensO g) r2 (by omega) (by omega)
  rw [← hr3] at q3
  refine Pure.goL (ty := ty) ty_eq mo Try.func15 rfl Try.ntmps15 Try.results15 Try.call15 (by simp) fun P C CQ D W F E hF => ?_
  refine E.cut 4 (told 111 [(1, .i fun _ => mx), (2, .ptr 0 0), (5, .i fun _ => r1)] [.box (aGr g)]) (by kernel_rfl) (Nat.zero_le _) (fun I hI => ?_) ?_
  · cbv
    repeat' (first
      | (refine ⟨fun _ h_s => ?_, fun _ h_s => ?_⟩ <;> (cbv; (try simp only [nc] at *); try simp (disch := (first | omega | (simp only [tab_len, List.length_append, List.length_map, List.length_range, List.length_replicate, is_len, us_len, ps_len, evs_len, ids_len, evss_len, idss_len]; omega))) only [nc, nct, w64_of, Int.toNat_natCast, Int.toNat_zero, List.length_map, is_len, us_len, ps_len, is_get, us_get, ps_get, at_i, at_u, at_p0, at_p1, evs_len, ids_len, evss_len, idss_len, evs_get, ids_get, evss_get, idss_get, at_e0, at_e1, at_e2, at_e3, at_e4, at_d0, at_d1, at_l, at_agg, asL_vs, asI_i, asU_u, asB_b, bofZ, bof1, bof0, List.getD_cons_zero, List.getD_cons_succ, reduceCtorEq, Bool.not_true, Bool.not_false, decide_eq_true_eq, decide_eq_false_iff_not, Bool.not_eq_true, Bool.not_eq_false, Bool.not_eq_true', Bool.not_eq_false', ne_eq, Decidable.not_not, Int.not_le, Int.not_lt, beq_iff_eq] at h_s))
      | (refine hF ?_; intro _; clear hF)
      | (refine hF ?_; cbv; clear hF)
      | (refine ⟨fun _ => ?_, ?_⟩; (· ((try simp only [nc] at *); first | done | omega | exact ⟨by omega, rfl⟩ | (simp (disch := (first | omega | (simp only [tab_len, List.length_append, List.length_map, List.length_range, List.length_replicate, is_len, us_len, ps_len, evs_len, ids_len, evss_len, idss_len]; omega))) only [nc, nct, w64_of, Int.toNat_natCast, Int.toNat_zero, List.length_map, is_len, us_len, ps_len, is_get, us_get, ps_get, at_i, at_u, at_p0, at_p1, evs_len, ids_len, evss_len, idss_len, evs_get, ids_get, evss_get, idss_get, at_e0, at_e1, at_e2, at_e3, at_e4, at_d0, at_d1, at_l, at_agg, asL_vs, asI_i, asU_u, asB_b, bofZ, bof1, bof0, List.getD_cons_zero, List.getD_cons_succ]; first | done | omega | rfl | exact ⟨by omega, rfl⟩ | (simp; done) | (simp; omega)) | (intros; trivial))); (try (simp only [nc] at *)); (try simp (disch := (first | omega | (simp only [tab_len, List.length_append, List.length_map, List.length_range, List.length_replicate, is_len, us_len, ps_len, evs_len, ids_len, evss_len, idss_len]; omega))) only [nc, nct, w64_of, Int.toNat_natCast, Int.toNat_zero, List.length_map, is_len, us_len, ps_len, is_get, us_get, ps_get, at_i, at_u, at_p0, at_p1, evs_len, ids_len, evss_len, idss_len, evs_get, ids_get, evss_get, idss_get, at_e0, at_e1, at_e2, at_e3, at_e4, at_d0, at_d1, at_l, at_agg, asL_vs, asI_i, asU_u, asB_b, bofZ, bof1, bof0, List.getD_cons_zero, List.getD_cons_succ]); (try cbv))
      | fail
    )
    refine E.loopS (ι := Nat) (fun k => k ≤ g.th.length ∧ (runL mx mx ((lensT g).drop k) (S1 k) = r1 ∧ 0 ≤ S1 k ∧ S1 k ≤ 4 * mx + 4)) (fun k => g.th.length - k) (fun k => [(6, .i fun _ => ((k : Nat) : Int)), (5, .i fun _ => S1 k)]) (fun k h => h) 0 (fun _ => by first | rfl | simp) ⟨Nat.zero_le _, ?_⟩ ?_ fun k hk I2 hI2 => ?_
    · rw [z1, List.drop_zero]; exact ⟨hr1.symm, by omega⟩
    · cbv
      rw [z1, hs]
      simp (disch := omega) [light0, w64_of]
      repeat' split
      all_goals omega
    cbv
    have hgt := ths_le hg k
    have nk := n1 k
    have ek := fun h1 h2 => runL_step (mx := mx) (cap := mx) (l := lensT g) (s := s0) (k := k) h1 h2
    have fk := fun h1 => runL_end (mx := mx) (cap := mx) (l := lensT g) (s := s0) (k := k) h1
    rw [← hS1, ← hS1, ← hr1] at ek
    rw [← hS1, ← hr1] at fk
    repeat' (first
      | (refine hI2 (k + 1) ?_ ?_ ?_; rotate_left 1; (· ((try simp only [nc] at *); omega)); (cbv; clear hI2; (try clear hF); (try simp only [nc] at *); (try simp (disch := (first | omega | (simp only [tab_len, List.length_append, List.length_map, List.length_range, List.length_replicate, is_len, us_len, ps_len, evs_len, ids_len, evss_len, idss_len]; omega))) only [nc, nct, w64_of, Int.toNat_natCast, Int.toNat_zero, List.length_map, is_len, us_len, ps_len, is_get, us_get, ps_get, at_i, at_u, at_p0, at_p1, evs_len, ids_len, evss_len, idss_len, evs_get, ids_get, evss_get, idss_get, at_e0, at_e1, at_e2, at_e3, at_e4, at_d0, at_d1, at_l, at_agg, asL_vs, asI_i, asU_u, asB_b, bofZ, bof1, bof0, List.getD_cons_zero, List.getD_cons_succ, implies_true, and_true, true_and, forall_const])); rotate_left 1; (try ((try simp only [nc] at *); omega)))
      | (refine ⟨fun _ h_s => ?_, fun _ h_s => ?_⟩ <;> (cbv; (try simp only [nc] at *); try simp (disch := (first | omega | (simp only [tab_len, List.length_append, List.length_map, List.length_range, List.length_replicate, is_len, us_len, ps_len, evs_len, ids_len, evss_len, idss_len]; omega))) only [nc, nct, w64_of, Int.toNat_natCast, Int.toNat_zero, List.length_map, is_len, us_len, ps_len, is_get, us_get, ps_get, at_i, at_u, at_p0, at_p1, evs_len, ids_len, evss_len, idss_len, evs_get, ids_get, evss_get, idss_get, at_e0, at_e1, at_e2, at_e3, at_e4, at_d0, at_d1, at_l, at_agg, asL_vs, asI_i, asU_u, asB_b, bofZ, bof1, bof0, List.getD_cons_zero, List.getD_cons_succ, reduceCtorEq, Bool.not_true, Bool.not_false, decide_eq_true_eq, decide_eq_false_iff_not, Bool.not_eq_true, Bool.not_eq_false, Bool.not_eq_true', Bool.not_eq_false', ne_eq, Decidable.not_not, Int.not_le, Int.not_lt, beq_iff_eq] at h_s))
      | (refine hF ?_; intro _; clear hF)
      | (refine hF ?_; cbv; clear hF)
      | (refine ⟨fun _ => ?_, ?_⟩; (· ((try simp only [nc] at *); first | done | omega | exact ⟨by omega, rfl⟩ | (simp (disch := (first | omega | (simp only [tab_len, List.length_append, List.length_map, List.length_range, List.length_replicate, is_len, us_len, ps_len, evs_len, ids_len, evss_len, idss_len]; omega))) only [nc, nct, w64_of, Int.toNat_natCast, Int.toNat_zero, List.length_map, is_len, us_len, ps_len, is_get, us_get, ps_get, at_i, at_u, at_p0, at_p1, evs_len, ids_len, evss_len, idss_len, evs_get, ids_get, evss_get, idss_get, at_e0, at_e1, at_e2, at_e3, at_e4, at_d0, at_d1, at_l, at_agg, asL_vs, asI_i, asU_u, asB_b, bofZ, bof1, bof0, List.getD_cons_zero, List.getD_cons_succ]; first | done | omega | rfl | exact ⟨by omega, rfl⟩ | (simp; done) | (simp; omega)) | (intros; trivial))); (try (simp only [nc] at *)); (try simp (disch := (first | omega | (simp only [tab_len, List.length_append, List.length_map, List.length_range, List.length_replicate, is_len, us_len, ps_len, evs_len, ids_len, evss_len, idss_len]; omega))) only [nc, nct, w64_of, Int.toNat_natCast, Int.toNat_zero, List.length_map, is_len, us_len, ps_len, is_get, us_get, ps_get, at_i, at_u, at_p0, at_p1, evs_len, ids_len, evss_len, idss_len, evs_get, ids_get, evss_get, idss_get, at_e0, at_e1, at_e2, at_e3, at_e4, at_d0, at_d1, at_l, at_agg, asL_vs, asI_i, asU_u, asB_b, bofZ, bof1, bof0, List.getD_cons_zero, List.getD_cons_succ]); (try cbv))
      | fail
    )
    · refine ⟨?_, ?_⟩ <;> first | omega | (rw [nk (by ((try simp only [nc] at *); omega))]; split <;> omega)
    all_goals
      have hfk := fk (by ((try simp only [nc] at *); omega)) hk.2.1
      refine hI ?_
      cbv
      clear hI hI2 ek fk nk
      simp [hfk]
  refine E.cut 2 (told 111 [(1, .i fun _ => mx), (2, .ptr 0 0), (5, .i fun _ => r2)] [.box (aGr g)]) (by kernel_rfl) (Nat.zero_le _) (fun I hI => ?_) ?_
  · cbv
    repeat' (first
      | (refine ⟨fun _ h_s => ?_, fun _ h_s => ?_⟩ <;> (cbv; (try simp only [nc] at *); try simp (disch := (first | omega | (simp only [tab_len, List.length_append, List.length_map, List.length_range, List.length_replicate, is_len, us_len, ps_len, evs_len, ids_len, evss_len, idss_len]; omega))) only [nc, nct, w64_of, Int.toNat_natCast, Int.toNat_zero, List.length_map, is_len, us_len, ps_len, is_get, us_get, ps_get, at_i, at_u, at_p0, at_p1, evs_len, ids_len, evss_len, idss_len, evs_get, ids_get, evss_get, idss_get, at_e0, at_e1, at_e2, at_e3, at_e4, at_d0, at_d1, at_l, at_agg, asL_vs, asI_i, asU_u, asB_b, bofZ, bof1, bof0, List.getD_cons_zero, List.getD_cons_succ, reduceCtorEq, Bool.not_true, Bool.not_false, decide_eq_true_eq, decide_eq_false_iff_not, Bool.not_eq_true, Bool.not_eq_false, Bool.not_eq_true', Bool.not_eq_false', ne_eq, Decidable.not_not, Int.not_le, Int.not_lt, beq_iff_eq] at h_s))
      | (refine hF ?_; intro _; clear hF)
      | (refine hF ?_; cbv; clear hF)
      | (refine ⟨fun _ => ?_, ?_⟩; (· ((try simp only [nc] at *); first | done | omega | exact ⟨by omega, rfl⟩ | (simp (disch := (first | omega | (simp only [tab_len, List.length_append, List.length_map, List.length_range, List.length_replicate, is_len, us_len, ps_len, evs_len, ids_len, evss_len, idss_len]; omega))) only [nc, nct, w64_of, Int.toNat_natCast, Int.toNat_zero, List.length_map, is_len, us_len, ps_len, is_get, us_get, ps_get, at_i, at_u, at_p0, at_p1, evs_len, ids_len, evss_len, idss_len, evs_get, ids_get, evss_get, idss_get, at_e0, at_e1, at_e2, at_e3, at_e4, at_d0, at_d1, at_l, at_agg, asL_vs, asI_i, asU_u, asB_b, bofZ, bof1, bof0, List.getD_cons_zero, List.getD_cons_succ]; first | done | omega | rfl | exact ⟨by omega, rfl⟩ | (simp; done) | (simp; omega)) | (intros; trivial))); (try (simp only [nc] at *)); (try simp (disch := (first | omega | (simp only [tab_len, List.length_append, List.length_map, List.length_range, List.length_replicate, is_len, us_len, ps_len, evs_len, ids_len, evss_len, idss_len]; omega))) only [nc, nct, w64_of, Int.toNat_natCast, Int.toNat_zero, List.length_map, is_len, us_len, ps_len, is_get, us_get, ps_get, at_i, at_u, at_p0, at_p1, evs_len, ids_len, evss_len, idss_len, evs_get, ids_get, evss_get, idss_get, at_e0, at_e1, at_e2, at_e3, at_e4, at_d0, at_d1, at_l, at_agg, asL_vs, asI_i, asU_u, asB_b, bofZ, bof1, bof0, List.getD_cons_zero, List.getD_cons_succ]); (try cbv))
      | fail
    )
    refine E.loopS (ι := Nat) (fun k => k ≤ g.fr.length ∧ (runL mx (2 * mx) ((lensF g).drop k) (S2 k) = r2 ∧ 0 ≤ S2 k ∧ S2 k ≤ 4 * mx + 4)) (fun k => g.fr.length - k) (fun k => [(7, .i fun _ => ((k : Nat) : Int)), (5, .i fun _ => S2 k)]) (fun k h => h) 0 (fun _ => by first | rfl | simp) ⟨Nat.zero_le _, ?_⟩ ?_ fun k hk I2 hI2 => ?_
    · rw [z2, List.drop_zero]; exact ⟨hr2.symm, by omega⟩
    · cbv
      rw [z2]
      simp
    cbv
    have hgt := frs_le hg k
    have nk := n2 k
    have ek := fun h1 h2 => runL_step (mx := mx) (cap := (2 * mx)) (l := lensF g) (s := r1) (k := k) h1 h2
    have fk := fun h1 => runL_end (mx := mx) (cap := (2 * mx)) (l := lensF g) (s := r1) (k := k) h1
    rw [← hS2, ← hS2, ← hr2] at ek
    rw [← hS2, ← hr2] at fk
    repeat' (first
      | (refine hI2 (k + 1) ?_ ?_ ?_; rotate_left 1; (· ((try simp only [nc] at *); omega)); (cbv; clear hI2; (try clear hF); (try simp only [nc] at *); (try simp (disch := (first | omega | (simp only [tab_len, List.length_append, List.length_map, List.length_range, List.length_replicate, is_len, us_len, ps_len, evs_len, ids_len, evss_len, idss_len]; omega))) only [nc, nct, w64_of, Int.toNat_natCast, Int.toNat_zero, List.length_map, is_len, us_len, ps_len, is_get, us_get, ps_get, at_i, at_u, at_p0, at_p1, evs_len, ids_len, evss_len, idss_len, evs_get, ids_get, evss_get, idss_get, at_e0, at_e1, at_e2, at_e3, at_e4, at_d0, at_d1, at_l, at_agg, asL_vs, asI_i, asU_u, asB_b, bofZ, bof1, bof0, List.getD_cons_zero, List.getD_cons_succ, implies_true, and_true, true_and, forall_const])); rotate_left 1; (try ((try simp only [nc] at *); omega)))
      | (refine ⟨fun _ h_s => ?_, fun _ h_s => ?_⟩ <;> (cbv; (try simp only [nc] at *); try simp (disch := (first | omega | (simp only [tab_len, List.length_append, List.length_map, List.length_range, List.length_replicate, is_len, us_len, ps_len, evs_len, ids_len, evss_len, idss_len]; omega))) only [nc, nct, w64_of, Int.toNat_natCast, Int.toNat_zero, List.length_map, is_len, us_len, ps_len, is_get, us_get, ps_get, at_i, at_u, at_p0, at_p1, evs_len, ids_len, evss_len, idss_len, evs_get, ids_get, evss_get, idss_get, at_e0, at_e1, at_e2, at_e3, at_e4, at_d0, at_d1, at_l, at_agg, asL_vs, asI_i, asU_u, asB_b, bofZ, bof1, bof0, List.getD_cons_zero, List.getD_cons_succ, reduceCtorEq, Bool.not_true, Bool.not_false, decide_eq_true_eq, decide_eq_false_iff_not, Bool.not_eq_true, Bool.not_eq_false, Bool.not_eq_true', Bool.not_eq_false', ne_eq, Decidable.not_not, Int.not_le, Int.not_lt, beq_iff_eq] at h_s))
      | (refine hF ?_; intro _; clear hF)
      | (refine hF ?_; cbv; clear hF)
      | (refine ⟨fun _ => ?_, ?_⟩; (· ((try simp only [nc] at *); first | done | omega | exact ⟨by omega, rfl⟩ | (simp (disch := (first | omega | (simp only [tab_len, List.length_append, List.length_map, List.length_range, List.length_replicate, is_len, us_len, ps_len, evs_len, ids_len, evss_len, idss_len]; omega))) only [nc, nct, w64_of, Int.toNat_natCast, Int.toNat_zero, List.length_map, is_len, us_len, ps_len, is_get, us_get, ps_get, at_i, at_u, at_p0, at_p1, evs_len, ids_len, evss_len, idss_len, evs_get, ids_get, evss_get, idss_get, at_e0, at_e1, at_e2, at_e3, at_e4, at_d0, at_d1, at_l, at_agg, asL_vs, asI_i, asU_u, asB_b, bofZ, bof1, bof0, List.getD_cons_zero, List.getD_cons_succ]; first | done | omega | rfl | exact ⟨by omega, rfl⟩ | (simp; done) | (simp; omega)) | (intros; trivial))); (try (simp only [nc] at *)); (try simp (disch := (first | omega | (simp only [tab_len, List.length_append, List.length_map, List.length_range, List.length_replicate, is_len, us_len, ps_len, evs_len, ids_len, evss_len, idss_len]; omega))) only [nc, nct, w64_of, Int.toNat_natCast, Int.toNat_zero, List.length_map, is_len, us_len, ps_len, is_get, us_get, ps_get, at_i, at_u, at_p0, at_p1, evs_len, ids_len, evss_len, idss_len, evs_get, ids_get, evss_get, idss_get, at_e0, at_e1, at_e2, at_e3, at_e4, at_d0, at_d1, at_l, at_agg, asL_vs, asI_i, asU_u, asB_b, bofZ, bof1, bof0, List.getD_cons_zero, List.getD_cons_succ]); (try cbv))
      | fail
    )
    · refine ⟨?_, ?_⟩ <;> first | omega | (rw [nk (by ((try simp only [nc] at *); omega))]; split <;> omega)
    all_goals
      have hfk := fk (by ((try simp only [nc] at *); omega)) hk.2.1
      refine hI ?_
      cbv
      clear hI hI2 ek fk nk
      simp [hfk]
  refine E.cut 2 (told 111 [(1, .i fun _ => mx), (2, .ptr 0 0), (5, .i fun _ => r3)] [.box (aGr g)]) (by kernel_rfl) (Nat.zero_le _) (fun I hI => ?_) (E.bl ?_)
  · cbv
    repeat' (first
      | (refine ⟨fun _ h_s => ?_, fun _ h_s => ?_⟩ <;> (cbv; (try simp only [nc] at *); try simp (disch := (first | omega | (simp only [tab_len, List.length_append, List.length_map, List.length_range, List.length_replicate, is_len, us_len, ps_len, evs_len, ids_len, evss_len, idss_len]; omega))) only [nc, nct, w64_of, Int.toNat_natCast, Int.toNat_zero, List.length_map, is_len, us_len, ps_len, is_get, us_get, ps_get, at_i, at_u, at_p0, at_p1, evs_len, ids_len, evss_len, idss_len, evs_get, ids_get, evss_get, idss_get, at_e0, at_e1, at_e2, at_e3, at_e4, at_d0, at_d1, at_l, at_agg, asL_vs, asI_i, asU_u, asB_b, bofZ, bof1, bof0, List.getD_cons_zero, List.getD_cons_succ, reduceCtorEq, Bool.not_true, Bool.not_false, decide_eq_true_eq, decide_eq_false_iff_not, Bool.not_eq_true, Bool.not_eq_false, Bool.not_eq_true', Bool.not_eq_false', ne_eq, Decidable.not_not, Int.not_le, Int.not_lt, beq_iff_eq] at h_s))
      | (refine hF ?_; intro _; clear hF)
      | (refine hF ?_; cbv; clear hF)
      | (refine ⟨fun _ => ?_, ?_⟩; (· ((try simp only [nc] at *); first | done | omega | exact ⟨by omega, rfl⟩ | (simp (disch := (first | omega | (simp only [tab_len, List.length_append, List.length_map, List.length_range, List.length_replicate, is_len, us_len, ps_len, evs_len, ids_len, evss_len, idss_len]; omega))) only [nc, nct, w64_of, Int.toNat_natCast, Int.toNat_zero, List.length_map, is_len, us_len, ps_len, is_get, us_get, ps_get, at_i, at_u, at_p0, at_p1, evs_len, ids_len, evss_len, idss_len, evs_get, ids_get, evss_get, idss_get, at_e0, at_e1, at_e2, at_e3, at_e4, at_d0, at_d1, at_l, at_agg, asL_vs, asI_i, asU_u, asB_b, bofZ, bof1, bof0, List.getD_cons_zero, List.getD_cons_succ]; first | done | omega | rfl | exact ⟨by omega, rfl⟩ | (simp; done) | (simp; omega)) | (intros; trivial))); (try (simp only [nc] at *)); (try simp (disch := (first | omega | (simp only [tab_len, List.length_append, List.length_map, List.length_range, List.length_replicate, is_len, us_len, ps_len, evs_len, ids_len, evss_len, idss_len]; omega))) only [nc, nct, w64_of, Int.toNat_natCast, Int.toNat_zero, List.length_map, is_len, us_len, ps_len, is_get, us_get, ps_get, at_i, at_u, at_p0, at_p1, evs_len, ids_len, evss_len, idss_len, evs_get, ids_get, evss_get, idss_get, at_e0, at_e1, at_e2, at_e3, at_e4, at_d0, at_d1, at_l, at_agg, asL_vs, asI_i, asU_u, asB_b, bofZ, bof1, bof0, List.getD_cons_zero, List.getD_cons_succ]); (try cbv))
      | fail
    )
    refine E.loopS (ι := Nat) (fun k => k ≤ g.ord.length ∧ (runL mx (3 * mx) ((lensO g).drop k) (S3 k) = r3 ∧ 0 ≤ S3 k ∧ S3 k ≤ 4 * mx + 4)) (fun k => g.ord.length - k) (fun k => [(8, .i fun _ => ((k : Nat) : Int)), (5, .i fun _ => S3 k)]) (fun k h => h) 0 (fun _ => by first | rfl | simp) ⟨Nat.zero_le _, ?_⟩ ?_ fun k hk I2 hI2 => ?_
    · rw [z3, List.drop_zero]; exact ⟨hr3.symm, by omega⟩
    · cbv
      rw [z3]
      simp
    cbv
    have hgt := ordsAt hg k
    have nk := n3 k
    have ek := fun h1 h2 => runL_step (mx := mx) (cap := (3 * mx)) (l := lensO g) (s := r2) (k := k) h1 h2
    have fk := fun h1 => runL_end (mx := mx) (cap := (3 * mx)) (l := lensO g) (s := r2) (k := k) h1
    rw [← hS3, ← hS3, ← hr3] at ek
    rw [← hS3, ← hr3] at fk
    repeat' (first
      | (refine hI2 (k + 1) ?_ ?_ ?_; rotate_left 1; (· ((try simp only [nc] at *); omega)); (cbv; clear hI2; (try clear hF); (try simp only [nc] at *); (try simp (disch := (first | omega | (simp only [tab_len, List.length_append, List.length_map, List.length_range, List.length_replicate, is_len, us_len, ps_len, evs_len, ids_len, evss_len, idss_len]; omega))) only [nc, nct, w64_of, Int.toNat_natCast, Int.toNat_zero, List.length_map, is_len, us_len, ps_len, is_get, us_get, ps_get, at_i, at_u, at_p0, at_p1, evs_len, ids_len, evss_len, idss_len, evs_get, ids_get, evss_get, idss_get, at_e0, at_e1, at_e2, at_e3, at_e4, at_d0, at_d1, at_l, at_agg, asL_vs, asI_i, asU_u, asB_b, bofZ, bof1, bof0, List.getD_cons_zero, List.getD_cons_succ, implies_true, and_true, true_and, forall_const])); rotate_left 1; (try ((try simp only [nc] at *); omega)))
      | (refine ⟨fun _ h_s => ?_, fun _ h_s => ?_⟩ <;> (cbv; (try simp only [nc] at *); try simp (disch := (first | omega | (simp only [tab_len, List.length_append, List.length_map, List.length_range, List.length_replicate, is_len, us_len, ps_len, evs_len, ids_len, evss_len, idss_len]; omega))) only [nc, nct, w64_of, Int.toNat_natCast, Int.toNat_zero, List.length_map, is_len, us_len, ps_len, is_get, us_get, ps_get, at_i, at_u, at_p0, at_p1, evs_len, ids_len, evss_len, idss_len, evs_get, ids_get, evss_get, idss_get, at_e0, at_e1, at_e2, at_e3, at_e4, at_d0, at_d1, at_l, at_agg, asL_vs, asI_i, asU_u, asB_b, bofZ, bof1, bof0, List.getD_cons_zero, List.getD_cons_succ, reduceCtorEq, Bool.not_true, Bool.not_false, decide_eq_true_eq, decide_eq_false_iff_not, Bool.not_eq_true, Bool.not_eq_false, Bool.not_eq_true', Bool.not_eq_false', ne_eq, Decidable.not_not, Int.not_le, Int.not_lt, beq_iff_eq] at h_s))
      | (refine hF ?_; intro _; clear hF)
      | (refine hF ?_; cbv; clear hF)
      | (refine ⟨fun _ => ?_, ?_⟩; (· ((try simp only [nc] at *); first | done | omega | exact ⟨by omega, rfl⟩ | (simp (disch := (first | omega | (simp only [tab_len, List.length_append, List.length_map, List.length_range, List.length_replicate, is_len, us_len, ps_len, evs_len, ids_len, evss_len, idss_len]; omega))) only [nc, nct, w64_of, Int.toNat_natCast, Int.toNat_zero, List.length_map, is_len, us_len, ps_len, is_get, us_get, ps_get, at_i, at_u, at_p0, at_p1, evs_len, ids_len, evss_len, idss_len, evs_get, ids_get, evss_get, idss_get, at_e0, at_e1, at_e2, at_e3, at_e4, at_d0, at_d1, at_l, at_agg, asL_vs, asI_i, asU_u, asB_b, bofZ, bof1, bof0, List.getD_cons_zero, List.getD_cons_succ]; first | done | omega | rfl | exact ⟨by omega, rfl⟩ | (simp; done) | (simp; omega)) | (intros; trivial))); (try (simp only [nc] at *)); (try simp (disch := (first | omega | (simp only [tab_len, List.length_append, List.length_map, List.length_range, List.length_replicate, is_len, us_len, ps_len, evs_len, ids_len, evss_len, idss_len]; omega))) only [nc, nct, w64_of, Int.toNat_natCast, Int.toNat_zero, List.length_map, is_len, us_len, ps_len, is_get, us_get, ps_get, at_i, at_u, at_p0, at_p1, evs_len, ids_len, evss_len, idss_len, evs_get, ids_get, evss_get, idss_get, at_e0, at_e1, at_e2, at_e3, at_e4, at_d0, at_d1, at_l, at_agg, asL_vs, asI_i, asU_u, asB_b, bofZ, bof1, bof0, List.getD_cons_zero, List.getD_cons_succ]); (try cbv))
      | fail
    )
    · refine ⟨?_, ?_⟩ <;> first | omega | (rw [nk (by ((try simp only [nc] at *); omega))]; split <;> omega)
    all_goals
      have hfk := fk (by ((try simp only [nc] at *); omega)) hk.2.1
      refine hI ?_
      cbv
      clear hI hI2 ek fk nk
      simp [hfk]
  · cbv
    repeat' (first
      | (refine ⟨fun _ h_s => ?_, fun _ h_s => ?_⟩ <;> (cbv; (try simp only [nc] at *); try simp (disch := (first | omega | (simp only [tab_len, List.length_append, List.length_map, List.length_range, List.length_replicate, is_len, us_len, ps_len, evs_len, ids_len, evss_len, idss_len]; omega))) only [nc, nct, w64_of, Int.toNat_natCast, Int.toNat_zero, List.length_map, is_len, us_len, ps_len, is_get, us_get, ps_get, at_i, at_u, at_p0, at_p1, evs_len, ids_len, evss_len, idss_len, evs_get, ids_get, evss_get, idss_get, at_e0, at_e1, at_e2, at_e3, at_e4, at_d0, at_d1, at_l, at_agg, asL_vs, asI_i, asU_u, asB_b, bofZ, bof1, bof0, List.getD_cons_zero, List.getD_cons_succ, reduceCtorEq, Bool.not_true, Bool.not_false, decide_eq_true_eq, decide_eq_false_iff_not, Bool.not_eq_true, Bool.not_eq_false, Bool.not_eq_true', Bool.not_eq_false', ne_eq, Decidable.not_not, Int.not_le, Int.not_lt, beq_iff_eq] at h_s))
      | (refine hF ?_; intro _; clear hF)
      | (refine hF ?_; cbv; clear hF)
      | (refine ⟨fun _ => ?_, ?_⟩; (· ((try simp only [nc] at *); first | done | omega | exact ⟨by omega, rfl⟩ | (simp (disch := (first | omega | (simp only [tab_len, List.length_append, List.length_map, List.length_range, List.length_replicate, is_len, us_len, ps_len, evs_len, ids_len, evss_len, idss_len]; omega))) only [nc, nct, w64_of, Int.toNat_natCast, Int.toNat_zero, List.length_map, is_len, us_len, ps_len, is_get, us_get, ps_get, at_i, at_u, at_p0, at_p1, evs_len, ids_len, evss_len, idss_len, evs_get, ids_get, evss_get, idss_get, at_e0, at_e1, at_e2, at_e3, at_e4, at_d0, at_d1, at_l, at_agg, asL_vs, asI_i, asU_u, asB_b, bofZ, bof1, bof0, List.getD_cons_zero, List.getD_cons_succ]; first | done | omega | rfl | exact ⟨by omega, rfl⟩ | (simp; done) | (simp; omega)) | (intros; trivial))); (try (simp only [nc] at *)); (try simp (disch := (first | omega | (simp only [tab_len, List.length_append, List.length_map, List.length_range, List.length_replicate, is_len, us_len, ps_len, evs_len, ids_len, evss_len, idss_len]; omega))) only [nc, nct, w64_of, Int.toNat_natCast, Int.toNat_zero, List.length_map, is_len, us_len, ps_len, is_get, us_get, ps_get, at_i, at_u, at_p0, at_p1, evs_len, ids_len, evss_len, idss_len, evs_get, ids_get, evss_get, idss_get, at_e0, at_e1, at_e2, at_e3, at_e4, at_d0, at_d1, at_l, at_agg, asL_vs, asI_i, asU_u, asB_b, bofZ, bof1, bof0, List.getD_cons_zero, List.getD_cons_succ]); (try cbv))
      | fail
    )
    rw [w64_of (by omega) (by omega)]
end Go.AL.Rl

namespace Go.AL.Rl
open Go Go.AL Go.Proofs
set_option maxRecDepth 100000
set_option maxHeartbeats 1600000
variable {γ : Nat → Option AV}

theorem count_ok (g : Gr) (hg : Rd g) : Pure Try.prog γ false 22 [aGr g] (.i fun _ => NG g) := by
  by_cases h : GOk g
  · unfold NG
    rw [if_pos h]
    have hc := gcheck0 h
    have hsh := h.short
    have hin := hsh.init
    have hth := hsh.th
    obtain ⟨S, hS⟩ : ∃ S : Nat → Nat, ∀ t, S t = g.init.length + (evsT g t).length := ⟨_, fun _ => rfl⟩
    have z : S 0 = g.init.length := by rw [hS]; simp [evsT]
    have st : ∀ t, S (t + 1) = S t + (g.th.getD t []).length := fun t => by rw [hS, hS, evsT_succ, List.length_append]; omega
    have bd : ∀ t, S t ≤ 6 + 14 * t := fun t => by rw [hS]; have := evsT_len hsh t; omega
    have en : S g.th.length = nG g := by rw [hS, nG, idsG_len, evsG, List.length_append, evsI_len]
    refine Pure.go (ty := ty) ty_eq mo Try.func22 rfl Try.ntmps22 Try.results22 Try.call22 (by simp) fun P C CQ D W F E hF => ?_
    cbv
    repeat' (first
      | (refine E.c (SCalls.of_le (check14_ok g hg) ?_ ?_); (· (cbv; (try simp only [nc] at *); first | done | (simp; done) | (simp (disch := (first | omega | (simp only [tab_len, List.length_append, List.length_map, List.length_range, List.length_replicate, is_len, us_len, ps_len, evs_len, ids_len, evss_len, idss_len]; omega))) only [nc, nct, w64_of, Int.toNat_natCast, Int.toNat_zero, List.length_map, is_len, us_len, ps_len, is_get, us_get, ps_get, at_i, at_u, at_p0, at_p1, evs_len, ids_len, evss_len, idss_len, evs_get, ids_get, evss_get, idss_get, at_e0, at_e1, at_e2, at_e3, at_e4, at_d0, at_d1, at_l, at_agg, asL_vs, asI_i, asU_u, asB_b, bofZ, bof1, bof0, List.getD_cons_zero, List.getD_cons_succ, implies_true, and_true, true_and, forall_const]; first | done | omega | (refine ⟨?_, ?_⟩ <;> omega)) | (simp (disch := (first | omega | (simp only [tab_len, List.length_append, List.length_map, List.length_range, List.length_replicate, is_len, us_len, ps_len, evs_len, ids_len, evss_len, idss_len]; omega))) [nc, nct, w64_of, Int.toNat_natCast, Int.toNat_zero, List.length_map, is_len, us_len, ps_len, is_get, us_get, ps_get, at_i, at_u, at_p0, at_p1, evs_len, ids_len, evss_len, idss_len, evs_get, ids_get, evss_get, idss_get, at_e0, at_e1, at_e2, at_e3, at_e4, at_d0, at_d1, at_l, at_agg, asL_vs, asI_i, asU_u, asB_b, bofZ, bof1, bof0, List.getD_cons_zero, List.getD_cons_succ]; done))); cbv)
      | (refine ⟨fun _ h_s => ?_, fun _ h_s => ?_⟩ <;> (cbv; (try simp only [nc] at *); try simp (disch := (first | omega | (simp only [tab_len, List.length_append, List.length_map, List.length_range, List.length_replicate, is_len, us_len, ps_len, evs_len, ids_len, evss_len, idss_len]; omega))) only [nc, nct, w64_of, Int.toNat_natCast, Int.toNat_zero, List.length_map, is_len, us_len, ps_len, is_get, us_get, ps_get, at_i, at_u, at_p0, at_p1, evs_len, ids_len, evss_len, idss_len, evs_get, ids_get, evss_get, idss_get, at_e0, at_e1, at_e2, at_e3, at_e4, at_d0, at_d1, at_l, at_agg, asL_vs, asI_i, asU_u, asB_b, bofZ, bof1, bof0, List.getD_cons_zero, List.getD_cons_succ, reduceCtorEq, Bool.not_true, Bool.not_false, decide_eq_true_eq, decide_eq_false_iff_not, Bool.not_eq_true, Bool.not_eq_false, Bool.not_eq_true', Bool.not_eq_false', ne_eq, Decidable.not_not, Int.not_le, Int.not_lt, beq_iff_eq] at h_s))
      | (refine hF ?_; intro _; clear hF)
      | (refine hF ?_; cbv; clear hF)
      | (refine ⟨fun _ => ?_, ?_⟩; (· ((try simp only [nc] at *); first | done | omega | exact ⟨by omega, rfl⟩ | (simp (disch := (first | omega | (simp only [tab_len, List.length_append, List.length_map, List.length_range, List.length_replicate, is_len, us_len, ps_len, evs_len, ids_len, evss_len, idss_len]; omega))) only [nc, nct, w64_of, Int.toNat_natCast, Int.toNat_zero, List.length_map, is_len, us_len, ps_len, is_get, us_get, ps_get, at_i, at_u, at_p0, at_p1, evs_len, ids_len, evss_len, idss_len, evs_get, ids_get, evss_get, idss_get, at_e0, at_e1, at_e2, at_e3, at_e4, at_d0, at_d1, at_l, at_agg, asL_vs, asI_i, asU_u, asB_b, bofZ, bof1, bof0, List.getD_cons_zero, List.getD_cons_succ]; first | done | omega | rfl | exact ⟨by omega, rfl⟩ | (simp; done) | (simp; omega)) | (intros; trivial))); (try (simp only [nc] at *)); (try simp (disch := (first | omega | (simp only [tab_len, List.length_append, List.length_map, List.length_range, List.length_replicate, is_len, us_len, ps_len, evs_len, ids_len, evss_len, idss_len]; omega))) only [nc, nct, w64_of, Int.toNat_natCast, Int.toNat_zero, List.length_map, is_len, us_len, ps_len, is_get, us_get, ps_get, at_i, at_u, at_p0, at_p1, evs_len, ids_len, evss_len, idss_len, evs_get, ids_get, evss_get, idss_get, at_e0, at_e1, at_e2, at_e3, at_e4, at_d0, at_d1, at_l, at_agg, asL_vs, asI_i, asU_u, asB_b, bofZ, bof1, bof0, List.getD_cons_zero, List.getD_cons_succ]); (try cbv))
      | fail
    )
    · simp [hc] at *
    refine E.loopS (ι := Nat) (fun k => k ≤ g.th.length) (fun k => g.th.length - k) (fun k => [(4, .i fun _ => ((k : Nat) : Int)), (3, .i fun _ => (S k : Int))]) (fun k h => h) 0 (fun _ => by first | rfl | simp) (Nat.zero_le _) ?_ fun k hk I2 hI2 => ?_
    · cbv; simp [z]
    cbv
    have hgt := hsh.at k
    have bk := bd k
    have sk := st k
    repeat' (first
      | (refine hI2 (k + 1) ?_ ?_ ?_; rotate_left 1; (· ((try simp only [nc] at *); omega)); (cbv; clear hI2; (try clear hF); (try simp only [nc] at *); (try simp (disch := (first | omega | (simp only [tab_len, List.length_append, List.length_map, List.length_range, List.length_replicate, is_len, us_len, ps_len, evs_len, ids_len, evss_len, idss_len]; omega))) only [nc, nct, w64_of, Int.toNat_natCast, Int.toNat_zero, List.length_map, is_len, us_len, ps_len, is_get, us_get, ps_get, at_i, at_u, at_p0, at_p1, evs_len, ids_len, evss_len, idss_len, evs_get, ids_get, evss_get, idss_get, at_e0, at_e1, at_e2, at_e3, at_e4, at_d0, at_d1, at_l, at_agg, asL_vs, asI_i, asU_u, asB_b, bofZ, bof1, bof0, List.getD_cons_zero, List.getD_cons_succ, implies_true, and_true, true_and, forall_const])); rotate_left 1; (try ((try simp only [nc] at *); omega)))
      | (refine ⟨fun _ h_s => ?_, fun _ h_s => ?_⟩ <;> (cbv; (try simp only [nc] at *); try simp (disch := (first | omega | (simp only [tab_len, List.length_append, List.length_map, List.length_range, List.length_replicate, is_len, us_len, ps_len, evs_len, ids_len, evss_len, idss_len]; omega))) only [nc, nct, w64_of, Int.toNat_natCast, Int.toNat_zero, List.length_map, is_len, us_len, ps_len, is_get, us_get, ps_get, at_i, at_u, at_p0, at_p1, evs_len, ids_len, evss_len, idss_len, evs_get, ids_get, evss_get, idss_get, at_e0, at_e1, at_e2, at_e3, at_e4, at_d0, at_d1, at_l, at_agg, asL_vs, asI_i, asU_u, asB_b, bofZ, bof1, bof0, List.getD_cons_zero, List.getD_cons_succ, reduceCtorEq, Bool.not_true, Bool.not_false, decide_eq_true_eq, decide_eq_false_iff_not, Bool.not_eq_true, Bool.not_eq_false, Bool.not_eq_true', Bool.not_eq_false', ne_eq, Decidable.not_not, Int.not_le, Int.not_lt, beq_iff_eq] at h_s))
      | (refine hF ?_; intro _; clear hF)
      | (refine hF ?_; cbv; clear hF)
      | (refine ⟨fun _ => ?_, ?_⟩; (· ((try simp only [nc] at *); first | done | omega | exact ⟨by omega, rfl⟩ | (simp (disch := (first | omega | (simp only [tab_len, List.length_append, List.length_map, List.length_range, List.length_replicate, is_len, us_len, ps_len, evs_len, ids_len, evss_len, idss_len]; omega))) only [nc, nct, w64_of, Int.toNat_natCast, Int.toNat_zero, List.length_map, is_len, us_len, ps_len, is_get, us_get, ps_get, at_i, at_u, at_p0, at_p1, evs_len, ids_len, evss_len, idss_len, evs_get, ids_get, evss_get, idss_get, at_e0, at_e1, at_e2, at_e3, at_e4, at_d0, at_d1, at_l, at_agg, asL_vs, asI_i, asU_u, asB_b, bofZ, bof1, bof0, List.getD_cons_zero, List.getD_cons_succ]; first | done | omega | rfl | exact ⟨by omega, rfl⟩ | (simp; done) | (simp; omega)) | (intros; trivial))); (try (simp only [nc] at *)); (try simp (disch := (first | omega | (simp only [tab_len, List.length_append, List.length_map, List.length_range, List.length_replicate, is_len, us_len, ps_len, evs_len, ids_len, evss_len, idss_len]; omega))) only [nc, nct, w64_of, Int.toNat_natCast, Int.toNat_zero, List.length_map, is_len, us_len, ps_len, is_get, us_get, ps_get, at_i, at_u, at_p0, at_p1, evs_len, ids_len, evss_len, idss_len, evs_get, ids_get, evss_get, idss_get, at_e0, at_e1, at_e2, at_e3, at_e4, at_d0, at_d1, at_l, at_agg, asL_vs, asI_i, asU_u, asB_b, bofZ, bof1, bof0, List.getD_cons_zero, List.getD_cons_succ]); (try cbv))
      | fail
    )
    · refine ⟨?_, ?_⟩ <;> omega
    · have e : k = g.th.length := by ((try simp only [nc] at *); omega)
      rw [e, en]
  · have hc : gcheckM g ≠ 0 := by unfold gcheckM; split <;> simp [h]
    unfold NG
    rw [if_neg h]
    refine Pure.go (ty := ty) ty_eq mo Try.func22 rfl Try.ntmps22 Try.results22 Try.call22 (by simp) fun P C CQ D W F E hF => ?_
    cbv
    refine E.c (SCalls.of_le (check14_ok g hg) ?_ ?_)
    · (cbv; (try simp only [nc] at *); first | done | (simp; done) | (simp (disch := (first | omega | (simp only [tab_len, List.length_append, List.length_map, List.length_range, List.length_replicate, is_len, us_len, ps_len, evs_len, ids_len, evss_len, idss_len]; omega))) only [nc, nct, w64_of, Int.toNat_natCast, Int.toNat_zero, List.length_map, is_len, us_len, ps_len, is_get, us_get, ps_get, at_i, at_u, at_p0, at_p1, evs_len, ids_len, evss_len, idss_len, evs_get, ids_get, evss_get, idss_get, at_e0, at_e1, at_e2, at_e3, at_e4, at_d0, at_d1, at_l, at_agg, asL_vs, asI_i, asU_u, asB_b, bofZ, bof1, bof0, List.getD_cons_zero, List.getD_cons_succ, implies_true, and_true, true_and, forall_const]; first | done | omega | (refine ⟨?_, ?_⟩ <;> omega)) | (simp (disch := (first | omega | (simp only [tab_len, List.length_append, List.length_map, List.length_range, List.length_replicate, is_len, us_len, ps_len, evs_len, ids_len, evss_len, idss_len]; omega))) [nc, nct, w64_of, Int.toNat_natCast, Int.toNat_zero, List.length_map, is_len, us_len, ps_len, is_get, us_get, ps_get, at_i, at_u, at_p0, at_p1, evs_len, ids_len, evss_len, idss_len, evs_get, ids_get, evss_get, idss_get, at_e0, at_e1, at_e2, at_e3, at_e4, at_d0, at_d1, at_l, at_agg, asL_vs, asI_i, asU_u, asB_b, bofZ, bof1, bof0, List.getD_cons_zero, List.getD_cons_succ]; done))
    cbv
    refine br_t (by simpa using hc) ?_
    cbv
    refine hF ?_
    cbv
    simp
def gS (o : Int) : Gr := ⟨[0], [[⟨2, 0, o, 0, 1⟩], [⟨1, 0, 3, 1, 0⟩]], [[⟨0, 0⟩], [⟨1, 0⟩]], [[⟨1, 0⟩]]⟩
theorem small_ok (o : Int) : Pure Try.prog γ false 39 [.i fun _ => o] (aGr (gS o)) := by
  refine Pure.go (ty := ty) ty_eq mo Try.func39 rfl Try.ntmps39 Try.results39 Try.call39 (by simp) fun P C CQ D W F E hF => ?_
  cbv
  repeat' (first
    | (refine ⟨fun _ h_s => ?_, fun _ h_s => ?_⟩ <;> (cbv; (try simp only [nc] at *); try simp (disch := (first | omega | (simp only [tab_len, List.length_append, List.length_map, List.length_range, List.length_replicate, is_len, us_len, ps_len, evs_len, ids_len, evss_len, idss_len]; omega))) only [nc, nct, w64_of, Int.toNat_natCast, Int.toNat_zero, List.length_map, is_len, us_len, ps_len, is_get, us_get, ps_get, at_i, at_u, at_p0, at_p1, evs_len, ids_len, evss_len, idss_len, evs_get, ids_get, evss_get, idss_get, at_e0, at_e1, at_e2, at_e3, at_e4, at_d0, at_d1, at_l, at_agg, asL_vs, asI_i, asU_u, asB_b, bofZ, bof1, bof0, List.getD_cons_zero, List.getD_cons_succ, reduceCtorEq, Bool.not_true, Bool.not_false, decide_eq_true_eq, decide_eq_false_iff_not, Bool.not_eq_true, Bool.not_eq_false, Bool.not_eq_true', Bool.not_eq_false', ne_eq, Decidable.not_not, Int.not_le, Int.not_lt, beq_iff_eq] at h_s))
    | (refine hF ?_; intro _; clear hF)
    | (refine hF ?_; cbv; clear hF)
    | (refine ⟨fun _ => ?_, ?_⟩; (· ((try simp only [nc] at *); first | done | omega | exact ⟨by omega, rfl⟩ | (simp (disch := (first | omega | (simp only [tab_len, List.length_append, List.length_map, List.length_range, List.length_replicate, is_len, us_len, ps_len, evs_len, ids_len, evss_len, idss_len]; omega))) only [nc, nct, w64_of, Int.toNat_natCast, Int.toNat_zero, List.length_map, is_len, us_len, ps_len, is_get, us_get, ps_get, at_i, at_u, at_p0, at_p1, evs_len, ids_len, evss_len, idss_len, evs_get, ids_get, evss_get, idss_get, at_e0, at_e1, at_e2, at_e3, at_e4, at_d0, at_d1, at_l, at_agg, asL_vs, asI_i, asU_u, asB_b, bofZ, bof1, bof0, List.getD_cons_zero, List.getD_cons_succ]; first | done | omega | rfl | exact ⟨by omega, rfl⟩ | (simp; done) | (simp; omega)) | (intros; trivial))); (try (simp only [nc] at *)); (try simp (disch := (first | omega | (simp only [tab_len, List.length_append, List.length_map, List.length_range, List.length_replicate, is_len, us_len, ps_len, evs_len, ids_len, evss_len, idss_len]; omega))) only [nc, nct, w64_of, Int.toNat_natCast, Int.toNat_zero, List.length_map, is_len, us_len, ps_len, is_get, us_get, ps_get, at_i, at_u, at_p0, at_p1, evs_len, ids_len, evss_len, idss_len, evs_get, ids_get, evss_get, idss_get, at_e0, at_e1, at_e2, at_e3, at_e4, at_d0, at_d1, at_l, at_agg, asL_vs, asI_i, asU_u, asB_b, bofZ, bof1, bof0, List.getD_cons_zero, List.getD_cons_succ]); (try cbv))
    | fail
  )
def tgtC (V : Vw) (n w : Nat) : BitVec 64 := maskTo (fun a => acqM (V.ev.getD a ev0) && behM V n (maskTo (rdrM V (1#64 <<< w)) n) a) n
def rowC (V : Vw) (n : Nat) : Nat → Nat → BitVec 64
  | 0, _ => 0#64
  | w + 1, r => if swR V w r = true then rowC V n w r ||| tgtC V n w else rowC V n w r
def swC (V : Vw) (n : Nat) : List (BitVec 64) := relRows n (bit (tab n (rowC V n n)))
theorem seq_plain {V : Vw} {n w : Nat} (hn : n ≤ 64) (hw : w < n) (h : ∀ i < n, (V.ev.getD i ev0).kind ≠ 3) : 1#64 <<< w = seqM V n w := by
  refine seq_unique hn hw ?_ (fun j hj => ?_) fun i hi hk => absurd hk (h i hi)
  · rw [BitVec.getLsbD_shiftLeft, BitVec.getLsbD_one]; simp; omega
  · rw [BitVec.getLsbD_shiftLeft, BitVec.getLsbD_one] at hj
    simp at hj
    have : j = w := by omega
    subst this
    exact .base
theorem rowC_eq {V : Vw} {n : Nat} (hn : n ≤ 64) (h : ∀ i < n, (V.ev.getD i ev0).kind ≠ 3) : ∀ k, k ≤ n → ∀ r, rowT V n k r = rowC V n k r
  | 0, _, _ => rfl
  | k + 1, hk, r => by
    have e : tgtM V n k = tgtC V n k := by unfold tgtM tgtC; rw [seq_plain hn (by omega) h]
    show (if swR V k r = true then rowT V n k r ||| tgtM V n k else rowT V n k r) = if swR V k r = true then rowC V n k r ||| tgtC V n k else rowC V n k r
    rw [rowC_eq hn h k (by omega) r, e]
theorem swC_eq {V : Vw} {n : Nat} (hn : n ≤ 64) (h : ∀ i < n, (V.ev.getD i ev0).kind ≠ 3) : swF V n = swC V n := by
  unfold swF swC swRows
  rw [show rowT V n n = rowC V n n from funext fun r => rowC_eq hn h n (Nat.le_refl _) r]
def vS (o : Int) : Vw := ⟨[⟨0, 0⟩, ⟨1, 0⟩, ⟨2, 0⟩], [⟨2, 0, 1, 0, 0⟩, ⟨2, 0, o, 0, 1⟩, ⟨1, 0, 3, 1, 0⟩], [-1, -1, 1], [0, 1, -1]⟩
theorem gS4 : GOk (gS 4) := by decide +kernel
theorem gS4v : viewG (gS 4) = vS 4 := by
  unfold viewG vS
  simp only [Vw.mk.injEq]
  decide +kernel
theorem gSn (o : Int) : nG (gS o) = 3 := rfl
theorem NG4 : NG (gS 4) = 3 := by unfold NG; rw [if_pos gS4, gSn]; rfl
theorem rows4 (f : Vw → Nat → List (BitVec 64)) : rowsG (gS 4) f = f (vS 4) 3 := by unfold rowsG; rw [if_pos gS4, gSn, gS4v]
theorem po4 : rowsG (gS 4) poF = [6, 0, 0] := by rw [rows4]; decide +kernel
theorem rf4 : rowsG (gS 4) rfF = [0, 4, 0] := by rw [rows4]; decide +kernel
theorem sw4 : rowsG (gS 4) swF = [0, 4, 0] := by rw [rows4, swC_eq (by omega) (by decide +kernel)]; decide +kernel
theorem hb4 : rowsG (gS 4) hbF = [6, 4, 0] := by
  rw [rows4]
  have := sw4
  rw [rows4] at this
  unfold hbF
  rw [this]
  decide +kernel
theorem rdS (o : Int) : Rd (gS o) := by
  refine ⟨by simp [gS], by simp [gS], by simp [gS], by simp [gS], ?_, ?_, ?_⟩ <;> simp [gS]
end Go.AL.Rl

namespace Go.AL.Rl
open Go Go.AL Go.Proofs
set_option maxRecDepth 100000
set_option maxHeartbeats 1600000
variable {γ : Nat → Option AV}

theorem lives15_ok : Pure Try.prog γ false 14 [] (.b fun _ => true) := by
  have p1 := dPo_ok (γ := γ) (gS 4) (rdS 4)
  have p2 := dRf_ok (γ := γ) (gS 4) (rdS 4)
  have p3 := dSw_ok (γ := γ) (gS 4) (rdS 4)
  have p4 := dHb_ok (γ := γ) (gS 4) (rdS 4)
  rw [NG4, po4] at p1
  rw [NG4, rf4] at p2
  rw [NG4, sw4] at p3
  rw [NG4, hb4] at p4
  have o1 := rof_in (γ := γ) 3 [(0, 1), (0, 2)] (by omega) (by omega) (by simp)
  have o2 := rof_in (γ := γ) 3 [(1, 2)] (by omega) (by omega) (by simp)
  have o3 := rof_in (γ := γ) 3 [(0, 1), (0, 2), (1, 2)] (by omega) (by omega) (by simp)
  rw [show ofTo 3 [(0, 1), (0, 2)] [((0 : Int), (1 : Int)), (0, 2)].length = [6, 0, 0] by decide +kernel] at o1
  rw [show ofTo 3 [(1, 2)] [((1 : Int), (2 : Int))].length = [0, 4, 0] by decide +kernel] at o2
  rw [show ofTo 3 [(0, 1), (0, 2), (1, 2)] [((0 : Int), (1 : Int)), (0, 2), (1, 2)].length = [6, 4, 0] by decide +kernel] at o3
  have k1 := kitRel_ok (γ := γ) 3 3 [6, 0, 0] [6, 0, 0] (by simp)
  have k2 := kitRel_ok (γ := γ) 3 3 [0, 4, 0] [0, 4, 0] (by simp)
  have k3 := kitRel_ok (γ := γ) 3 3 [6, 4, 0] [6, 4, 0] (by simp)
  simp only [and_self, decide_true] at k1 k2 k3
  refine Pure.go (ty := ty) ty_eq mo Try.func14 rfl Try.ntmps14 Try.results14 Try.call14 (by simp) fun P C CQ D W F E hF => ?_
  cbv
  repeat' (first
    | (refine E.c (SCalls.of_le (k3) ?_ ?_); (· (cbv; (try simp only [nc] at *); first | done | (simp; done) | (simp (disch := (first | omega | (simp only [tab_len, List.length_append, List.length_map, List.length_range, List.length_replicate, is_len, us_len, ps_len, evs_len, ids_len, evss_len, idss_len]; omega))) only [nc, nct, w64_of, Int.toNat_natCast, Int.toNat_zero, List.length_map, is_len, us_len, ps_len, is_get, us_get, ps_get, at_i, at_u, at_p0, at_p1, evs_len, ids_len, evss_len, idss_len, evs_get, ids_get, evss_get, idss_get, at_e0, at_e1, at_e2, at_e3, at_e4, at_d0, at_d1, at_l, at_agg, asL_vs, asI_i, asU_u, asB_b, bofZ, bof1, bof0, List.getD_cons_zero, List.getD_cons_succ, implies_true, and_true, true_and, forall_const]; first | done | omega | (refine ⟨?_, ?_⟩ <;> omega)) | (simp (disch := (first | omega | (simp only [tab_len, List.length_append, List.length_map, List.length_range, List.length_replicate, is_len, us_len, ps_len, evs_len, ids_len, evss_len, idss_len]; omega))) [nc, nct, w64_of, Int.toNat_natCast, Int.toNat_zero, List.length_map, is_len, us_len, ps_len, is_get, us_get, ps_get, at_i, at_u, at_p0, at_p1, evs_len, ids_len, evss_len, idss_len, evs_get, ids_get, evss_get, idss_get, at_e0, at_e1, at_e2, at_e3, at_e4, at_d0, at_d1, at_l, at_agg, asL_vs, asI_i, asU_u, asB_b, bofZ, bof1, bof0, List.getD_cons_zero, List.getD_cons_succ]; done))); cbv)
    | (refine E.c (SCalls.of_le (k2) ?_ ?_); (· (cbv; (try simp only [nc] at *); first | done | (simp; done) | (simp (disch := (first | omega | (simp only [tab_len, List.length_append, List.length_map, List.length_range, List.length_replicate, is_len, us_len, ps_len, evs_len, ids_len, evss_len, idss_len]; omega))) only [nc, nct, w64_of, Int.toNat_natCast, Int.toNat_zero, List.length_map, is_len, us_len, ps_len, is_get, us_get, ps_get, at_i, at_u, at_p0, at_p1, evs_len, ids_len, evss_len, idss_len, evs_get, ids_get, evss_get, idss_get, at_e0, at_e1, at_e2, at_e3, at_e4, at_d0, at_d1, at_l, at_agg, asL_vs, asI_i, asU_u, asB_b, bofZ, bof1, bof0, List.getD_cons_zero, List.getD_cons_succ, implies_true, and_true, true_and, forall_const]; first | done | omega | (refine ⟨?_, ?_⟩ <;> omega)) | (simp (disch := (first | omega | (simp only [tab_len, List.length_append, List.length_map, List.length_range, List.length_replicate, is_len, us_len, ps_len, evs_len, ids_len, evss_len, idss_len]; omega))) [nc, nct, w64_of, Int.toNat_natCast, Int.toNat_zero, List.length_map, is_len, us_len, ps_len, is_get, us_get, ps_get, at_i, at_u, at_p0, at_p1, evs_len, ids_len, evss_len, idss_len, evs_get, ids_get, evss_get, idss_get, at_e0, at_e1, at_e2, at_e3, at_e4, at_d0, at_d1, at_l, at_agg, asL_vs, asI_i, asU_u, asB_b, bofZ, bof1, bof0, List.getD_cons_zero, List.getD_cons_succ]; done))); cbv)
    | (refine E.c (SCalls.of_le (k1) ?_ ?_); (· (cbv; (try simp only [nc] at *); first | done | (simp; done) | (simp (disch := (first | omega | (simp only [tab_len, List.length_append, List.length_map, List.length_range, List.length_replicate, is_len, us_len, ps_len, evs_len, ids_len, evss_len, idss_len]; omega))) only [nc, nct, w64_of, Int.toNat_natCast, Int.toNat_zero, List.length_map, is_len, us_len, ps_len, is_get, us_get, ps_get, at_i, at_u, at_p0, at_p1, evs_len, ids_len, evss_len, idss_len, evs_get, ids_get, evss_get, idss_get, at_e0, at_e1, at_e2, at_e3, at_e4, at_d0, at_d1, at_l, at_agg, asL_vs, asI_i, asU_u, asB_b, bofZ, bof1, bof0, List.getD_cons_zero, List.getD_cons_succ, implies_true, and_true, true_and, forall_const]; first | done | omega | (refine ⟨?_, ?_⟩ <;> omega)) | (simp (disch := (first | omega | (simp only [tab_len, List.length_append, List.length_map, List.length_range, List.length_replicate, is_len, us_len, ps_len, evs_len, ids_len, evss_len, idss_len]; omega))) [nc, nct, w64_of, Int.toNat_natCast, Int.toNat_zero, List.length_map, is_len, us_len, ps_len, is_get, us_get, ps_get, at_i, at_u, at_p0, at_p1, evs_len, ids_len, evss_len, idss_len, evs_get, ids_get, evss_get, idss_get, at_e0, at_e1, at_e2, at_e3, at_e4, at_d0, at_d1, at_l, at_agg, asL_vs, asI_i, asU_u, asB_b, bofZ, bof1, bof0, List.getD_cons_zero, List.getD_cons_succ]; done))); cbv)
    | (refine E.c (SCalls.of_bare (o3) rfl ?_ ?_); (· (cbv; simp [rls, ps, us, is, LV.of]; done)); cbv)
    | (refine E.c (SCalls.of_le (o3) ?_ ?_); (· (cbv; simp [rls, ps, us, is, LV.of]; done)); cbv)
    | (refine E.c (SCalls.of_bare (o2) rfl ?_ ?_); (· (cbv; simp [rls, ps, us, is, LV.of]; done)); cbv)
    | (refine E.c (SCalls.of_le (o2) ?_ ?_); (· (cbv; simp [rls, ps, us, is, LV.of]; done)); cbv)
    | (refine E.c (SCalls.of_bare (o1) rfl ?_ ?_); (· (cbv; simp [rls, ps, us, is, LV.of]; done)); cbv)
    | (refine E.c (SCalls.of_le (o1) ?_ ?_); (· (cbv; simp [rls, ps, us, is, LV.of]; done)); cbv)
    | (refine E.c (SCalls.of_le (p4) ?_ ?_); (· (cbv; (try simp only [nc] at *); first | done | (simp; done) | (simp (disch := (first | omega | (simp only [tab_len, List.length_append, List.length_map, List.length_range, List.length_replicate, is_len, us_len, ps_len, evs_len, ids_len, evss_len, idss_len]; omega))) only [nc, nct, w64_of, Int.toNat_natCast, Int.toNat_zero, List.length_map, is_len, us_len, ps_len, is_get, us_get, ps_get, at_i, at_u, at_p0, at_p1, evs_len, ids_len, evss_len, idss_len, evs_get, ids_get, evss_get, idss_get, at_e0, at_e1, at_e2, at_e3, at_e4, at_d0, at_d1, at_l, at_agg, asL_vs, asI_i, asU_u, asB_b, bofZ, bof1, bof0, List.getD_cons_zero, List.getD_cons_succ, implies_true, and_true, true_and, forall_const]; first | done | omega | (refine ⟨?_, ?_⟩ <;> omega)) | (simp (disch := (first | omega | (simp only [tab_len, List.length_append, List.length_map, List.length_range, List.length_replicate, is_len, us_len, ps_len, evs_len, ids_len, evss_len, idss_len]; omega))) [nc, nct, w64_of, Int.toNat_natCast, Int.toNat_zero, List.length_map, is_len, us_len, ps_len, is_get, us_get, ps_get, at_i, at_u, at_p0, at_p1, evs_len, ids_len, evss_len, idss_len, evs_get, ids_get, evss_get, idss_get, at_e0, at_e1, at_e2, at_e3, at_e4, at_d0, at_d1, at_l, at_agg, asL_vs, asI_i, asU_u, asB_b, bofZ, bof1, bof0, List.getD_cons_zero, List.getD_cons_succ]; done))); cbv)
    | (refine E.c (SCalls.of_le (p3) ?_ ?_); (· (cbv; (try simp only [nc] at *); first | done | (simp; done) | (simp (disch := (first | omega | (simp only [tab_len, List.length_append, List.length_map, List.length_range, List.length_replicate, is_len, us_len, ps_len, evs_len, ids_len, evss_len, idss_len]; omega))) only [nc, nct, w64_of, Int.toNat_natCast, Int.toNat_zero, List.length_map, is_len, us_len, ps_len, is_get, us_get, ps_get, at_i, at_u, at_p0, at_p1, evs_len, ids_len, evss_len, idss_len, evs_get, ids_get, evss_get, idss_get, at_e0, at_e1, at_e2, at_e3, at_e4, at_d0, at_d1, at_l, at_agg, asL_vs, asI_i, asU_u, asB_b, bofZ, bof1, bof0, List.getD_cons_zero, List.getD_cons_succ, implies_true, and_true, true_and, forall_const]; first | done | omega | (refine ⟨?_, ?_⟩ <;> omega)) | (simp (disch := (first | omega | (simp only [tab_len, List.length_append, List.length_map, List.length_range, List.length_replicate, is_len, us_len, ps_len, evs_len, ids_len, evss_len, idss_len]; omega))) [nc, nct, w64_of, Int.toNat_natCast, Int.toNat_zero, List.length_map, is_len, us_len, ps_len, is_get, us_get, ps_get, at_i, at_u, at_p0, at_p1, evs_len, ids_len, evss_len, idss_len, evs_get, ids_get, evss_get, idss_get, at_e0, at_e1, at_e2, at_e3, at_e4, at_d0, at_d1, at_l, at_agg, asL_vs, asI_i, asU_u, asB_b, bofZ, bof1, bof0, List.getD_cons_zero, List.getD_cons_succ]; done))); cbv)
    | (refine E.c (SCalls.of_le (p2) ?_ ?_); (· (cbv; (try simp only [nc] at *); first | done | (simp; done) | (simp (disch := (first | omega | (simp only [tab_len, List.length_append, List.length_map, List.length_range, List.length_replicate, is_len, us_len, ps_len, evs_len, ids_len, evss_len, idss_len]; omega))) only [nc, nct, w64_of, Int.toNat_natCast, Int.toNat_zero, List.length_map, is_len, us_len, ps_len, is_get, us_get, ps_get, at_i, at_u, at_p0, at_p1, evs_len, ids_len, evss_len, idss_len, evs_get, ids_get, evss_get, idss_get, at_e0, at_e1, at_e2, at_e3, at_e4, at_d0, at_d1, at_l, at_agg, asL_vs, asI_i, asU_u, asB_b, bofZ, bof1, bof0, List.getD_cons_zero, List.getD_cons_succ, implies_true, and_true, true_and, forall_const]; first | done | omega | (refine ⟨?_, ?_⟩ <;> omega)) | (simp (disch := (first | omega | (simp only [tab_len, List.length_append, List.length_map, List.length_range, List.length_replicate, is_len, us_len, ps_len, evs_len, ids_len, evss_len, idss_len]; omega))) [nc, nct, w64_of, Int.toNat_natCast, Int.toNat_zero, List.length_map, is_len, us_len, ps_len, is_get, us_get, ps_get, at_i, at_u, at_p0, at_p1, evs_len, ids_len, evss_len, idss_len, evs_get, ids_get, evss_get, idss_get, at_e0, at_e1, at_e2, at_e3, at_e4, at_d0, at_d1, at_l, at_agg, asL_vs, asI_i, asU_u, asB_b, bofZ, bof1, bof0, List.getD_cons_zero, List.getD_cons_succ]; done))); cbv)
    | (refine E.c (SCalls.of_le (p1) ?_ ?_); (· (cbv; (try simp only [nc] at *); first | done | (simp; done) | (simp (disch := (first | omega | (simp only [tab_len, List.length_append, List.length_map, List.length_range, List.length_replicate, is_len, us_len, ps_len, evs_len, ids_len, evss_len, idss_len]; omega))) only [nc, nct, w64_of, Int.toNat_natCast, Int.toNat_zero, List.length_map, is_len, us_len, ps_len, is_get, us_get, ps_get, at_i, at_u, at_p0, at_p1, evs_len, ids_len, evss_len, idss_len, evs_get, ids_get, evss_get, idss_get, at_e0, at_e1, at_e2, at_e3, at_e4, at_d0, at_d1, at_l, at_agg, asL_vs, asI_i, asU_u, asB_b, bofZ, bof1, bof0, List.getD_cons_zero, List.getD_cons_succ, implies_true, and_true, true_and, forall_const]; first | done | omega | (refine ⟨?_, ?_⟩ <;> omega)) | (simp (disch := (first | omega | (simp only [tab_len, List.length_append, List.length_map, List.length_range, List.length_replicate, is_len, us_len, ps_len, evs_len, ids_len, evss_len, idss_len]; omega))) [nc, nct, w64_of, Int.toNat_natCast, Int.toNat_zero, List.length_map, is_len, us_len, ps_len, is_get, us_get, ps_get, at_i, at_u, at_p0, at_p1, evs_len, ids_len, evss_len, idss_len, evs_get, ids_get, evss_get, idss_get, at_e0, at_e1, at_e2, at_e3, at_e4, at_d0, at_d1, at_l, at_agg, asL_vs, asI_i, asU_u, asB_b, bofZ, bof1, bof0, List.getD_cons_zero, List.getD_cons_succ]; done))); cbv)
    | (refine E.c (SCalls.of_le (small_ok 4) ?_ ?_); (· (cbv; (try simp only [nc] at *); first | done | (simp; done) | (simp (disch := (first | omega | (simp only [tab_len, List.length_append, List.length_map, List.length_range, List.length_replicate, is_len, us_len, ps_len, evs_len, ids_len, evss_len, idss_len]; omega))) only [nc, nct, w64_of, Int.toNat_natCast, Int.toNat_zero, List.length_map, is_len, us_len, ps_len, is_get, us_get, ps_get, at_i, at_u, at_p0, at_p1, evs_len, ids_len, evss_len, idss_len, evs_get, ids_get, evss_get, idss_get, at_e0, at_e1, at_e2, at_e3, at_e4, at_d0, at_d1, at_l, at_agg, asL_vs, asI_i, asU_u, asB_b, bofZ, bof1, bof0, List.getD_cons_zero, List.getD_cons_succ, implies_true, and_true, true_and, forall_const]; first | done | omega | (refine ⟨?_, ?_⟩ <;> omega)) | (simp (disch := (first | omega | (simp only [tab_len, List.length_append, List.length_map, List.length_range, List.length_replicate, is_len, us_len, ps_len, evs_len, ids_len, evss_len, idss_len]; omega))) [nc, nct, w64_of, Int.toNat_natCast, Int.toNat_zero, List.length_map, is_len, us_len, ps_len, is_get, us_get, ps_get, at_i, at_u, at_p0, at_p1, evs_len, ids_len, evss_len, idss_len, evs_get, ids_get, evss_get, idss_get, at_e0, at_e1, at_e2, at_e3, at_e4, at_d0, at_d1, at_l, at_agg, asL_vs, asI_i, asU_u, asB_b, bofZ, bof1, bof0, List.getD_cons_zero, List.getD_cons_succ]; done))); cbv)
    | (refine ⟨fun _ h_s => ?_, fun _ h_s => ?_⟩ <;> (cbv; (try simp only [nc] at *); try simp (disch := (first | omega | (simp only [tab_len, List.length_append, List.length_map, List.length_range, List.length_replicate, is_len, us_len, ps_len, evs_len, ids_len, evss_len, idss_len]; omega))) only [nc, nct, w64_of, Int.toNat_natCast, Int.toNat_zero, List.length_map, is_len, us_len, ps_len, is_get, us_get, ps_get, at_i, at_u, at_p0, at_p1, evs_len, ids_len, evss_len, idss_len, evs_get, ids_get, evss_get, idss_get, at_e0, at_e1, at_e2, at_e3, at_e4, at_d0, at_d1, at_l, at_agg, asL_vs, asI_i, asU_u, asB_b, bofZ, bof1, bof0, List.getD_cons_zero, List.getD_cons_succ, reduceCtorEq, Bool.not_true, Bool.not_false, decide_eq_true_eq, decide_eq_false_iff_not, Bool.not_eq_true, Bool.not_eq_false, Bool.not_eq_true', Bool.not_eq_false', ne_eq, Decidable.not_not, Int.not_le, Int.not_lt, beq_iff_eq] at h_s))
    | (refine hF ?_; intro _; clear hF)
    | (refine hF ?_; cbv; clear hF)
    | (refine ⟨fun _ => ?_, ?_⟩; (· ((try simp only [nc] at *); first | done | omega | exact ⟨by omega, rfl⟩ | (simp (disch := (first | omega | (simp only [tab_len, List.length_append, List.length_map, List.length_range, List.length_replicate, is_len, us_len, ps_len, evs_len, ids_len, evss_len, idss_len]; omega))) only [nc, nct, w64_of, Int.toNat_natCast, Int.toNat_zero, List.length_map, is_len, us_len, ps_len, is_get, us_get, ps_get, at_i, at_u, at_p0, at_p1, evs_len, ids_len, evss_len, idss_len, evs_get, ids_get, evss_get, idss_get, at_e0, at_e1, at_e2, at_e3, at_e4, at_d0, at_d1, at_l, at_agg, asL_vs, asI_i, asU_u, asB_b, bofZ, bof1, bof0, List.getD_cons_zero, List.getD_cons_succ]; first | done | omega | rfl | exact ⟨by omega, rfl⟩ | (simp; done) | (simp; omega)) | (intros; trivial))); (try (simp only [nc] at *)); (try simp (disch := (first | omega | (simp only [tab_len, List.length_append, List.length_map, List.length_range, List.length_replicate, is_len, us_len, ps_len, evs_len, ids_len, evss_len, idss_len]; omega))) only [nc, nct, w64_of, Int.toNat_natCast, Int.toNat_zero, List.length_map, is_len, us_len, ps_len, is_get, us_get, ps_get, at_i, at_u, at_p0, at_p1, evs_len, ids_len, evss_len, idss_len, evs_get, ids_get, evss_get, idss_get, at_e0, at_e1, at_e2, at_e3, at_e4, at_d0, at_d1, at_l, at_agg, asL_vs, asI_i, asU_u, asB_b, bofZ, bof1, bof0, List.getD_cons_zero, List.getD_cons_succ]); (try cbv))
    | fail
  )
  all_goals rfl
end Go.AL.Rl

namespace Go.AL.Rl
open Go Go.AL Go.Proofs
set_option maxRecDepth 100000

theorem plus_self {n : Nat} {rows : List (BitVec 64)} (hf : Fits n rows) (h : ∀ i k j, bit rows i k = true → bit rows k j = true → bit rows i j = true) : plusM n rows = rows :=
  fits_ext (fits_plus hf) hf fun i j => ⟨fun hb => plus_least (fun i j => bit rows i j = true) (fun _ _ h => h) h hb, plus_edge⟩
theorem plus_idem {n : Nat} {rows : List (BitVec 64)} (hf : Fits n rows) : plusM n (plusM n rows) = plusM n rows :=
  plus_self (fits_plus hf) fun _ _ _ h1 h2 => plus_trans hf h1 h2
theorem bit_orM {n : Nat} {l : List RelV} (i j : Nat) : bit (orM n l) i j = true ↔ i < n ∧ ∃ r ∈ l, bit r.2 i j = true := by
  rw [orM, bit_tab, Bool.and_eq_true, decide_eq_true_eq, or_bit]
theorem bit_relI {n : Nat} (hn : n ≤ 62) (p : Nat → Nat → Bool) (i j : Nat) : bit (relRows n p) i j = true ↔ i < n ∧ j < n ∧ p i j = true := by
  rw [bit_rel (by omega)]; simp
theorem po_trans (V : Vw) {a b c : Nat} (h1 : poM V a b = true) (h2 : poM V b c = true) : poM V a c = true := by
  unfold poM at *
  simp only [Bool.and_eq_true, Bool.or_eq_true, decide_eq_true_eq] at *
  omega
theorem near_symm (V : Vw) {a b : Nat} (h : nearM V a b = true) : nearM V b a = true := by
  unfold nearM at *
  simp only [Bool.and_eq_true, decide_eq_true_eq] at *
  exact ⟨⟨h.1.2, h.1.1⟩, h.2.symm⟩
theorem near_trans (V : Vw) {a b c : Nat} (h1 : nearM V a b = true) (h2 : nearM V b c = true) : nearM V a c = true := by
  unfold nearM at *
  simp only [Bool.and_eq_true, decide_eq_true_eq] at *
  exact ⟨⟨h1.1.1, h2.1.2⟩, h1.2.trans h2.2⟩
theorem co_trans (V : Vw) {a b c : Nat} (h1 : coM V a b = true) (h2 : coM V b c = true) : coM V a c = true := by
  unfold coM at *
  simp only [Bool.and_eq_true, decide_eq_true_eq] at *
  exact ⟨⟨h1.1.1, near_trans V h1.1.2 h2.1.2⟩, by omega⟩
theorem plus_po (V : Vw) {n : Nat} (hn : n ≤ 62) : plusM n (poF V n) = poF V n :=
  plus_self (fits_poF V hn) fun i k j h1 h2 => by
    unfold poF at *
    rw [bit_relI hn] at *
    exact ⟨h1.1, h2.2.1, po_trans V h1.2.2 h2.2.2⟩
theorem plus_co (V : Vw) {n : Nat} (hn : n ≤ 62) : plusM n (coF V n) = coF V n :=
  plus_self (fits_coF V hn) fun i k j h1 h2 => by
    unfold coF at *
    rw [bit_relI hn] at *
    exact ⟨h1.1, h2.2.1, co_trans V h1.2.2 h2.2.2⟩
theorem fits_orP (V : Vw) {n : Nat} (hn : n ≤ 62) : Fits n (orM n [((n : Int), rfF V n), ((n : Int), coF V n), ((n : Int), frF V n)]) :=
  fits_or (by omega) (by simp [fits_rfF V hn, fits_coF V hn, fits_frF V hn])
theorem plus_eco (V : Vw) {n : Nat} (hn : n ≤ 62) : plusM n (ecoF V n) = ecoF V n := plus_idem (fits_orP V hn)
theorem plus_porf (V : Vw) {n : Nat} (hn : n ≤ 62) : plusM n (porfF V n) = porfF V n := plus_idem (fits_or2 (fits_poF V hn) (fits_rfF V hn))
theorem plus_hb (V : Vw) {n : Nat} (hn : n ≤ 62) : plusM n (hbF V n) = hbF V n := plus_idem (fits_or2 (fits_poF V hn) (fits_swF V hn))
/-- from reads, by rf turned round, then co -/
theorem fr_law (V : Vw) {n : Nat} (hV : Wf V n) : lessM n (thenM n [((n : Int), turnM (rfF V n)), ((n : Int), coF V n)]) (selfM n) = frF V n := by
  have hn := hV.small
  have f1 := fits_turn (fits_rfF V hn)
  have f2 := fits_coF V hn
  refine fits_ext (fits_less (fits_then2 f1 f2)) (fits_frF V hn) fun i j => ?_
  rw [bit_less (fits_then2 f1 f2), bit_then2 f1]
  have hs : bit (selfM n) i j = false ↔ ¬ (i = j ∧ i < n) := by rw [← bit_self (by omega), Bool.not_eq_true]
  rw [hs]
  unfold frF
  rw [bit_relI hn]
  simp only [bit_turn (fits_rfF V hn)]
  unfold rfF coF
  simp only [bit_relI hn]
  unfold frM rfM
  simp only [Bool.and_eq_true, decide_eq_true_eq]
  constructor
  · rintro ⟨⟨k, ⟨h1, h2, h3⟩, h4, h5, h6⟩, h7⟩
    refine ⟨h2, h5, ⟨fun e => h7 ⟨e, h2⟩, by omega⟩, ?_⟩
    rw [h3]; simpa using h6
  · rintro ⟨h1, h2, ⟨h3, h4⟩, h5⟩
    have := hV.frl i h1
    exact ⟨⟨(V.fr.getD i 0).toNat, ⟨by omega, h1, by omega⟩, by omega, h2, h5⟩, fun e => h3 e.1⟩
theorem hb_law (V : Vw) {n : Nat} (hn : n ≤ 62) : orM n [((n : Int), hbF V n), ((n : Int), poF V n), ((n : Int), swF V n)] = hbF V n := by
  have f1 := fits_poF V hn
  have f2 := fits_swF V hn
  have f3 : Fits n (hbF V n) := fits_plus (fits_or2 f1 f2)
  refine fits_ext (fits_or (by omega) (by simp [f1, f2, f3])) f3 fun i j => ?_
  rw [bit_orM]
  simp only [List.mem_cons, List.not_mem_nil, or_false, exists_eq_or_imp, exists_eq_left]
  constructor
  · rintro ⟨_, h | h | h⟩
    · exact h
    · exact plus_edge ((bit_or2 f1 f2 i j).2 (.inl h))
    · exact plus_edge ((bit_or2 f1 f2 i j).2 (.inr h))
  · intro h
    have := (fits_bits f3 h).1
    have hl := (fits_n f3).1
    exact ⟨by omega, .inl h⟩
end Go.AL.Rl

namespace Go.AL.Rl
open Go Go.AL Go.Proofs
set_option maxRecDepth 100000

theorem notFence_w {e : Ev} (h : writesM e = true) : fenceM e = false := by
  unfold writesM at h; unfold fenceM
  simp only [Bool.or_eq_true, decide_eq_true_eq, decide_eq_false_iff_not] at *
  omega
theorem notFence_r {e : Ev} (h : readsM e = true) : fenceM e = false := by
  unfold readsM at h; unfold fenceM
  simp only [Bool.or_eq_true, decide_eq_true_eq, decide_eq_false_iff_not] at *
  omega
theorem near_of {V : Vw} {a b : Nat} (h1 : fenceM (V.ev.getD a ev0) = false) (h2 : fenceM (V.ev.getD b ev0) = false) (h : (V.ev.getD a ev0).loc = (V.ev.getD b ev0).loc) : nearM V a b = true := by
  unfold nearM
  simp only [h1, h2, Bool.not_false, Bool.true_and, decide_eq_true_eq]
  exact h
theorem event_init {g : Gr} {d : EId} {e : Ev} (h : eventM g d = some e) (h0 : d.t = 0) : e.kind = 2 ∧ e.loc = d.i ∧ 0 ≤ d.i := by
  unfold eventM at h
  rw [if_pos h0] at h
  split at h
  · rename_i hc
    cases h
    exact ⟨rfl, rfl, hc.1⟩
  · cases h
theorem event_fine {g : Gr} (hg : GOk g) {d : EId} {e : Ev} (h : eventM g d = some e) (h0 : d.t ≠ 0) : fineM g.init.length e = true := by
  unfold eventM at h
  rw [if_neg h0] at h
  split at h
  · rename_i hc
    cases h
    exact (hg.events (d.t - 1).toNat (by omega)).2 d.i.toNat (by omega)
  · cases h
theorem fine_loc {n : Int} {e : Ev} (h : fineM n e = true) (hk : fenceM e = false) : 0 ≤ e.loc ∧ e.loc < n := by
  unfold fineM at h; unfold fenceM at hk
  simp only [Bool.and_eq_true, decide_eq_true_eq, decide_eq_false_iff_not] at *
  have := h.2
  rw [if_neg hk] at this
  simpa using this
/-- each write of a thread stands in its location's order -/
theorem ord_has {g : Gr} (hg : GOk g) {x : Nat} {d : EId} (h : isW g x d = true) : d ∈ g.ord.getD x [] := by
  have hp := (orders_perm hg.lord hg.events).1 hg.orders
  have := hp.symm.subset ((isW_mem g x d).1 h)
  unfold qsT at this
  simp only [List.mem_flatMap, List.mem_range, List.mem_map] at this
  obtain ⟨k, hk, d', hd, he⟩ := this
  obtain ⟨rfl, h2⟩ := Prod.mk.inj he
  have : k = x := by omega
  subst this
  exact hd
theorem isW_of {g : Gr} {d : EId} {e : Ev} (h : eventM g d = some e) (h0 : d.t ≠ 0) (hw : writesM e = true) (x : Int) (hx : e.loc = x) : isW g x d = true := by
  unfold isW
  rw [h]
  simp [h0, hw, hx]
theorem pl_write {g : Gr} (hg : GOk g) {d : EId} {e : Ev} (h : eventM g d = some e) (hw : writesM e = true) :
    d.t = 0 ∧ plOf g d = 0 ∨ d.t ≠ 0 ∧ ∃ k : Nat, plOf g d = k + 1 ∧ k < (g.ord.getD e.loc.toNat []).length ∧ (g.ord.getD e.loc.toNat []).getD k id0 = d := by
  by_cases h0 : d.t = 0
  · exact .inl ⟨h0, by unfold plOf; rw [if_pos h0]⟩
  · refine .inr ⟨h0, ?_⟩
    have hl := fine_loc (event_fine hg h h0) (notFence_w hw)
    have hm := ord_has hg (x := e.loc.toNat) (isW_of h h0 hw _ (by omega))
    have hf := numOf_find hm
    refine ⟨numOf (g.ord.getD e.loc.toNat []) d, ?_, numOf_lt hm, numOf_get hm⟩
    unfold plOf
    rw [if_neg h0, h, Option.getD_some, hf]
theorem pl_other {g : Gr} (hg : GOk g) {d : EId} {e : Ev} (h : eventM g d = some e) (hw : writesM e = false) : plOf g d = -1 := by
  have h0 : d.t ≠ 0 := fun h0 => by
    obtain ⟨hk, _⟩ := event_init h h0
    unfold writesM at hw
    simp [hk] at hw
  unfold plOf
  rw [if_neg h0, h, Option.getD_some]
  split
  · rename_i k hk
    exfalso
    rw [List.findIdx?_eq_some_iff_getElem] at hk
    obtain ⟨h1, h2, _⟩ := hk
    have hm := List.getElem_mem h1
    simp only [decide_eq_true_eq] at h2
    rw [h2] at hm
    have hx : e.loc.toNat < g.init.length := by
      rcases Nat.lt_or_ge e.loc.toNat g.ord.length with hc | hc
      · rw [← hg.lord]; exact hc
      · rw [List.getD_eq_getElem?_getD, List.getElem?_eq_none hc] at hm; simp at hm
    obtain ⟨_, q2, _⟩ := (ordered_iff g e.loc.toNat).1 (hg.orders _ hx)
    obtain ⟨e', he', _, hw', _⟩ := isW_event (q2 _ hm)
    rw [h] at he'
    cases he'
    rw [hw] at hw'; cases hw'
  · rfl
theorem vev {g : Gr} (_ : GOk g) (i : Nat) (hi : i < nG g) : eventM g ((idsG g).getD i id0) = some ((viewG g).ev.getD i ev0) := evsG_get g i hi
theorem vpl {g : Gr} (_ : GOk g) (i : Nat) (hi : i < nG g) : (viewG g).pl.getD i 0 = plOf g ((idsG g).getD i id0) := tabI_get _ _ _ hi
theorem vfr {g : Gr} (_ : GOk g) (i : Nat) (hi : i < nG g) : (viewG g).fr.getD i 0 = frOf g ((idsG g).getD i id0) := tabI_get _ _ _ hi
theorem bit_onlyM {n : Nat} {rows : List (BitVec 64)} (f t : BitVec 64) (i j : Nat) : bit (onlyM n rows f t) i j = true ↔ i < n ∧ f.getLsbD i = true ∧ bit rows i j = true ∧ t.getLsbD j = true := by
  unfold onlyM
  rw [bit_tab]
  by_cases hf : f.getLsbD i = true
  · simp [hf, bit]
  · simp [hf]
theorem init_reads {g : Gr} {d : EId} {e : Ev} (h : eventM g d = some e) (h0 : d.t = 0) : readsM e = false := by
  obtain ⟨hk, _⟩ := event_init h h0
  unfold readsM; rw [hk]; rfl
theorem co_loc {g : Gr} (_ : GOk g) (a b : Nat) (h : coM (viewG g) a b = true) : locM (viewG g) a b = true := by
  unfold coM at h
  simp only [Bool.and_eq_true, decide_eq_true_eq] at h
  unfold locM
  rw [h.1.2]
  simp only [Bool.and_true, decide_eq_true_eq]
  intro e
  subst e
  omega
section
variable {g : Gr} (hg : GOk g)
include hg
theorem pl_iff (i : Nat) (hi : i < nG g) : 0 ≤ (viewG g).pl.getD i 0 ↔ writesM ((viewG g).ev.getD i ev0) = true := by
  rw [vpl hg i hi]
  constructor
  · intro h
    cases hw : writesM ((viewG g).ev.getD i ev0) with
    | true => rfl
    | false => rw [pl_other hg (vev hg i hi) hw] at h; omega
  · intro h
    rcases pl_write hg (vev hg i hi) h with ⟨_, h2⟩ | ⟨_, k, h2, _⟩ <;> omega
theorem pl_inj (i j : Nat) (hi : i < nG g) (hj : j < nG g) (hwi : writesM ((viewG g).ev.getD i ev0) = true) (hwj : writesM ((viewG g).ev.getD j ev0) = true)
    (hl : ((viewG g).ev.getD i ev0).loc = ((viewG g).ev.getD j ev0).loc) (hp : (viewG g).pl.getD i 0 = (viewG g).pl.getD j 0) : i = j := by
  refine getD_inj (idsG_nodup g) hi hj ?_
  rw [vpl hg i hi, vpl hg j hj] at hp
  rcases pl_write hg (vev hg i hi) hwi with ⟨t1, h1⟩ | ⟨t1, k, h1, hk, e1⟩ <;> rcases pl_write hg (vev hg j hj) hwj with ⟨t2, h2⟩ | ⟨t2, k', h2, hk', e2⟩
  · obtain ⟨_, l1, _⟩ := event_init (vev hg i hi) t1
    obtain ⟨_, l2, _⟩ := event_init (vev hg j hj) t2
    exact EId.ext' (by omega) (by omega)
  · omega
  · omega
  · have : k = k' := by omega
    subst this
    rw [← e1, ← e2, hl]
theorem fr_iff (i : Nat) (hi : i < nG g) : 0 ≤ (viewG g).fr.getD i 0 ↔ readsM ((viewG g).ev.getD i ev0) = true := by
  rw [vfr hg i hi]
  have he := vev hg i hi
  unfold frOf
  split
  · rename_i h0
    rw [init_reads he h0]
    constructor
    · intro h; omega
    · intro h; cases h
  · rw [he, Option.getD_some]
    split
    · rename_i h; simp only [h, iff_true]; omega
    · rename_i h; simp only [h, Bool.false_eq_true, iff_false]; omega
/-- what is read from -/
theorem src_of (i : Nat) (hi : i < nG g) (hr : readsM ((viewG g).ev.getD i ev0) = true) : ∃ w : Nat, (viewG g).fr.getD i 0 = w ∧ w < nG g ∧ w ≠ i ∧ writesM ((viewG g).ev.getD w ev0) = true ∧ ((viewG g).ev.getD w ev0).loc = ((viewG g).ev.getD i ev0).loc := by
  have he := vev hg i hi
  have h0 : ((idsG g).getD i id0).t ≠ 0 := fun h0 => by
    rw [init_reads he h0] at hr; cases hr
  have hd : (idsG g).getD i id0 ∈ idsG g := getD_mem hi
  obtain ⟨w, hw, h1, h2, h3, _⟩ := source_mem (src_ok hg hd h0) (by rw [he]; exact hr)
  have hm : srcOf g ((idsG g).getD i id0) ∈ idsG g := idsG_mem.2 (by rw [hw]; rfl)
  have hlt : numOf (idsG g) (srcOf g ((idsG g).getD i id0)) < nG g := numOf_lt hm
  have hev := vev hg _ hlt
  rw [numOf_get hm, hw] at hev
  have hev := Option.some.inj hev
  refine ⟨numOf (idsG g) (srcOf g ((idsG g).getD i id0)), ?_, hlt, fun e => h1 ?_, by rw [← hev]; exact h2, by rw [← hev, h3, he]; rfl⟩
  · rw [vfr hg i hi]; unfold frOf; rw [if_neg h0, he, Option.getD_some, if_pos hr]
  · have := numOf_get hm; rw [e] at this; exact this.symm
theorem rf_loc (a b : Nat) (ha : a < nG g) (hb : b < nG g) (h : rfM (viewG g) a b = true) : locM (viewG g) a b = true ∧ writesM ((viewG g).ev.getD a ev0) = true ∧ readsM ((viewG g).ev.getD b ev0) = true := by
  unfold rfM at h
  simp only [decide_eq_true_eq] at h
  have hr := (fr_iff hg b hb).1 (by omega)
  obtain ⟨w, h1, h2, h3, h4, h5⟩ := src_of hg b hb hr
  have : w = a := by omega
  subst this
  unfold locM
  rw [near_of (notFence_w h4) (notFence_r hr) h5]
  exact ⟨by simpa using h3, h4, hr⟩
theorem fr_loc (a b : Nat) (ha : a < nG g) (h : frM (viewG g) a b = true) : locM (viewG g) a b = true := by
  unfold frM at h
  simp only [Bool.and_eq_true, decide_eq_true_eq] at h
  obtain ⟨⟨h1, h2⟩, h3⟩ := h
  have hwf := viewG_wf hg
  have hlt := hwf.frl a ha
  have hrf : rfM (viewG g) ((viewG g).fr.getD a 0).toNat a = true := by unfold rfM; simp only [decide_eq_true_eq]; omega
  have q1 := (rf_loc hg _ a (by omega) ha hrf).1
  unfold locM at *
  simp only [Bool.and_eq_true, decide_eq_true_eq] at *
  unfold coM at h3
  simp only [Bool.and_eq_true, decide_eq_true_eq] at h3
  exact ⟨h1, near_trans _ (near_symm _ q1.2) h3.1.2⟩
theorem loc_law : orM (nG g) [((nG g : Int), locF (viewG g) (nG g)), ((nG g : Int), rfF (viewG g) (nG g)), ((nG g : Int), coF (viewG g) (nG g)), ((nG g : Int), frF (viewG g) (nG g))] = locF (viewG g) (nG g) := by
  have hn := (viewG_wf hg).small
  have f0 := fits_locF (viewG g) hn
  refine fits_ext (fits_or (by omega) (by simp [f0, fits_rfF (viewG g) hn, fits_coF (viewG g) hn, fits_frF (viewG g) hn])) f0 fun i j => ?_
  rw [bit_orM]
  simp only [List.mem_cons, List.not_mem_nil, or_false, exists_eq_or_imp, exists_eq_left]
  unfold locF rfF coF frF
  simp only [bit_relI hn]
  constructor
  · rintro ⟨_, h | ⟨h1, h2, h⟩ | ⟨h1, h2, h⟩ | ⟨h1, h2, h⟩⟩
    · exact h
    · exact ⟨h1, h2, (rf_loc hg _ _ h1 h2 h).1⟩
    · exact ⟨h1, h2, co_loc hg _ _ h⟩
    · exact ⟨h1, h2, fr_loc hg _ _ h1 h⟩
  · intro h; exact ⟨h.1, .inl h⟩
theorem co_law : orM (nG g) [((nG g : Int), coF (viewG g) (nG g)), ((nG g : Int), turnM (coF (viewG g) (nG g)))] = onlyM (nG g) (locF (viewG g) (nG g)) (writesF (viewG g) (nG g)) (writesF (viewG g) (nG g)) := by
  have hn := (viewG_wf hg).small
  have f1 := fits_coF (viewG g) hn
  have f2 := fits_turn f1
  have hb := fun i j => bit_onlyM (n := nG g) (rows := locF (viewG g) (nG g)) (writesF (viewG g) (nG g)) (writesF (viewG g) (nG g)) i j
  refine fits_ext (fits_or2 f1 f2) (fits_mk (by omega) (by simp [onlyM]) fun i j h => ?_) fun i j => ?_
  · have := ((hb i j).1 h).2.2.1
    unfold locF at this
    rw [bit_relI hn] at this
    exact this.2.1
  rw [hb, bit_or2 f1 f2, bit_turn f1]
  unfold coF locF writesF
  simp only [bit_relI hn, mask_bit _ _ (show nG g ≤ 64 by omega), Bool.and_eq_true, decide_eq_true_eq]
  have hco : ∀ a b, a < nG g → b < nG g → coM (viewG g) a b = true → writesM ((viewG g).ev.getD a ev0) = true ∧ writesM ((viewG g).ev.getD b ev0) = true := fun a b ha hb h => by
    unfold coM at h
    simp only [Bool.and_eq_true, decide_eq_true_eq] at h
    exact ⟨(pl_iff hg a ha).1 h.1.1, (pl_iff hg b hb).1 (by omega)⟩
  constructor
  · rintro (⟨h1, h2, h⟩ | ⟨h1, h2, h⟩)
    · obtain ⟨w1, w2⟩ := hco _ _ h1 h2 h
      exact ⟨h1, ⟨h1, w1⟩, ⟨h1, h2, co_loc hg _ _ h⟩, h2, w2⟩
    · obtain ⟨w1, w2⟩ := hco _ _ h1 h2 h
      have := co_loc hg _ _ h
      refine ⟨h2, ⟨h2, w2⟩, ⟨h2, h1, ?_⟩, h1, w1⟩
      unfold locM at *
      simp only [Bool.and_eq_true, decide_eq_true_eq] at *
      exact ⟨fun e => this.1 e.symm, near_symm _ this.2⟩
  · rintro ⟨h1, ⟨_, w1⟩, ⟨_, h2, h⟩, _, w2⟩
    unfold locM at h
    simp only [Bool.and_eq_true, decide_eq_true_eq] at h
    have hl : ((viewG g).ev.getD i ev0).loc = ((viewG g).ev.getD j ev0).loc := by
      have := h.2
      unfold nearM at this
      simp only [Bool.and_eq_true, decide_eq_true_eq] at this
      exact this.2
    have p1 := (pl_iff hg i h1).2 w1
    have p2 := (pl_iff hg j h2).2 w2
    have hne : (viewG g).pl.getD i 0 ≠ (viewG g).pl.getD j 0 := fun e => h.1 (pl_inj hg i j h1 h2 w1 w2 hl e)
    unfold coM
    simp only [Bool.and_eq_true, decide_eq_true_eq]
    rcases Int.lt_or_gt_of_ne hne with hlt | hlt
    · exact .inl ⟨h1, h2, ⟨p1, h.2⟩, hlt⟩
    · exact .inr ⟨h2, h1, ⟨p2, near_symm _ h.2⟩, hlt⟩
/-- the row of what is read from -/
theorem from_row (i : Nat) (hi : i < nG g) : (turnM (rfF (viewG g) (nG g))).getD i 0 = if readsM ((viewG g).ev.getD i ev0) = true then 1#64 <<< ((viewG g).fr.getD i 0).toNat else 0#64 := by
  have hn := (viewG_wf hg).small
  have f1 := fits_rfF (viewG g) hn
  apply BitVec.eq_of_getLsbD_eq
  intro j hj
  have hb : bit (turnM (rfF (viewG g) (nG g))) i j = true ↔ (j < nG g ∧ rfM (viewG g) j i = true) := by
    rw [bit_turn f1]; unfold rfF; rw [bit_relI hn]
    exact ⟨fun h => ⟨h.1, h.2.2⟩, fun h => ⟨h.1, hi, h.2⟩⟩
  show bit (turnM (rfF (viewG g) (nG g))) i j = _
  rw [Bool.eq_iff_iff, hb]
  unfold rfM
  simp only [decide_eq_true_eq]
  split
  · rename_i hr
    have h0 := (fr_iff hg i hi).2 hr
    have := (viewG_wf hg).frl i hi
    rw [one_shl_bit _ j hj]
    simp only [decide_eq_true_eq]
    omega
  · rename_i hr
    have h0 : ¬ 0 ≤ (viewG g).fr.getD i 0 := fun h => hr ((fr_iff hg i hi).1 h)
    simp only [BitVec.getLsbD_zero, Bool.false_eq_true, iff_false]
    omega
end
theorem pow_and : ∀ w < 64, (1#64 <<< w) &&& (1#64 <<< w) - 1#64 = 0#64 := by decide +kernel
theorem pow_ne : ∀ w < 64, 1#64 <<< w ≠ 0#64 := by decide +kernel
theorem pow_not {m : BitVec 64} {w : Nat} (h : m.getLsbD w = true) : 1#64 <<< w &&& ~~~m = 0#64 := by
  apply BitVec.eq_of_getLsbD_eq
  intro j hj
  rw [BitVec.getLsbD_and, one_shl_bit _ j hj, BitVec.getLsbD_not]
  by_cases e : w = j
  · subst e; simp [h]
  · simp [e]
theorem mod2_bit (x : BitVec 64) (i : Nat) : (x >>> i) % BitVec.ofInt 64 2 = 1#64 ↔ x.getLsbD i = true := by
  rw [← BitVec.toNat_inj, BitVec.toNat_umod, BitVec.toNat_ushiftRight, BitVec.getLsbD, Nat.testBit_eq_decide_div_mod_eq, decide_eq_true_eq, Nat.shiftRight_eq_div_pow]
  rfl
theorem row_facts {g : Gr} (hg : GOk g) (i : Nat) (hi : i < nG g) :
    (turnM (rfF (viewG g) (nG g))).getD i 0 &&& ~~~ writesF (viewG g) (nG g) = 0#64 ∧
    (readsF (viewG g) (nG g) >>> i % BitVec.ofInt 64 2 = 1#64 ↔ (turnM (rfF (viewG g) (nG g))).getD i 0 ≠ 0#64) ∧
    (turnM (rfF (viewG g) (nG g))).getD i 0 &&& (turnM (rfF (viewG g) (nG g))).getD i 0 - 1#64 = 0#64 := by
  have hn := (viewG_wf hg).small
  rw [from_row hg i hi, mod2_bit]
  have hr : (readsF (viewG g) (nG g)).getLsbD i = true ↔ readsM ((viewG g).ev.getD i ev0) = true := by
    unfold readsF; rw [mask_bit _ _ (by omega)]; simp [hi]
  rw [hr]
  by_cases h : readsM ((viewG g).ev.getD i ev0) = true
  · rw [if_pos h]
    obtain ⟨w, h1, h2, _, h4, _⟩ := src_of hg i hi h
    rw [h1, Int.toNat_natCast]
    refine ⟨pow_not ?_, ⟨fun _ => pow_ne w (by omega), fun _ => h⟩, pow_and w (by omega)⟩
    unfold writesF; rw [mask_bit _ _ (by omega)]; simp only [h2, h4, decide_true, Bool.and_self]
  · rw [if_neg h]
    exact ⟨by simp, ⟨fun h' => absurd h' h, fun h' => absurd rfl h'⟩, by simp⟩
end Go.AL.Rl
