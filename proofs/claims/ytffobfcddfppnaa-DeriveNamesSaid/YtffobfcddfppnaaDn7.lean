import Derived.Test.YtffobfcddfppnaaDn6
import Derived.OpenShut
import Derived.ReadAgain
import Derived.Deep.DeepHandedRow
import Derived.Lib.LaidTab
import Derived.ProofKit
import Derived.Test.YtffobfcddfppnaaRows
set_option linter.unusedVariables false
set_option linter.unusedSimpArgs false
namespace Go.AL.Rl
open Go Go.AL Go.Proofs
set_option maxRecDepth 100000
set_option maxHeartbeats 1600000
variable {γ : Nat → Option AV}

theorem of1_ok (V : Vw) {n : Nat} (hV : Wf V n) (loc : Int) (a : Nat) (ha : a < n) : Pure Try.prog γ false 98 [.i fun _ => (a : Int), .vp (fun _ => pVw V) 0, .vp (fun _ => .i fun _ => loc) 0] (.b fun _ => ofM loc (V.ev.getD a ev0)) := by
  have h1 := hV.ev
  refine Pure.go (ty := ty) ty_eq mo Try.func98 rfl Try.ntmps98 Try.results98 Try.call98 (by simp) fun P C CQ D W F E hF => ?_
  cbv
  repeat' (first
    | (refine E.c (SCalls.of_le (dfence_ok V hV a ha) ?_ ?_); (· (cbv; (try simp only [nc] at *); first | done | (simp; done) | (simp (disch := (first | omega | (simp only [tab_len, List.length_append, List.length_map, List.length_range, List.length_replicate, is_len, us_len, ps_len, evs_len, ids_len, evss_len, idss_len]; omega))) only [nc, nct, w64_of, Int.toNat_natCast, Int.toNat_zero, List.length_map, is_len, us_len, ps_len, is_get, us_get, ps_get, at_i, at_u, at_p0, at_p1, evs_len, ids_len, evss_len, idss_len, evs_get, ids_get, evss_get, idss_get, at_e0, at_e1, at_e2, at_e3, at_e4, at_d0, at_d1, at_l, at_agg, asL_vs, asI_i, asU_u, asB_b, bofZ, bof1, bof0, List.getD_cons_zero, List.getD_cons_succ, implies_true, and_true, true_and, forall_const]; first | done | omega | (refine ⟨?_, ?_⟩ <;> omega)) | (simp (disch := (first | omega | (simp only [tab_len, List.length_append, List.length_map, List.length_range, List.length_replicate, is_len, us_len, ps_len, evs_len, ids_len, evss_len, idss_len]; omega))) [nc, nct, w64_of, Int.toNat_natCast, Int.toNat_zero, List.length_map, is_len, us_len, ps_len, is_get, us_get, ps_get, at_i, at_u, at_p0, at_p1, evs_len, ids_len, evss_len, idss_len, evs_get, ids_get, evss_get, idss_get, at_e0, at_e1, at_e2, at_e3, at_e4, at_d0, at_d1, at_l, at_agg, asL_vs, asI_i, asU_u, asB_b, bofZ, bof1, bof0, List.getD_cons_zero, List.getD_cons_succ]; done))); cbv)
    | (refine E.q (QCalls.of_le (dfence_ok V hV a ha) ?_ ?_); (· (cbv; (try simp only [nc] at *); first | done | (simp; done) | (simp (disch := (first | omega | (simp only [tab_len, List.length_append, List.length_map, List.length_range, List.length_replicate, is_len, us_len, ps_len, evs_len, ids_len, evss_len, idss_len]; omega))) only [nc, nct, w64_of, Int.toNat_natCast, Int.toNat_zero, List.length_map, is_len, us_len, ps_len, is_get, us_get, ps_get, at_i, at_u, at_p0, at_p1, evs_len, ids_len, evss_len, idss_len, evs_get, ids_get, evss_get, idss_get, at_e0, at_e1, at_e2, at_e3, at_e4, at_d0, at_d1, at_l, at_agg, asL_vs, asI_i, asU_u, asB_b, bofZ, bof1, bof0, List.getD_cons_zero, List.getD_cons_succ, implies_true, and_true, true_and, forall_const]; first | done | omega | (refine ⟨?_, ?_⟩ <;> omega)) | (simp (disch := (first | omega | (simp only [tab_len, List.length_append, List.length_map, List.length_range, List.length_replicate, is_len, us_len, ps_len, evs_len, ids_len, evss_len, idss_len]; omega))) [nc, nct, w64_of, Int.toNat_natCast, Int.toNat_zero, List.length_map, is_len, us_len, ps_len, is_get, us_get, ps_get, at_i, at_u, at_p0, at_p1, evs_len, ids_len, evss_len, idss_len, evs_get, ids_get, evss_get, idss_get, at_e0, at_e1, at_e2, at_e3, at_e4, at_d0, at_d1, at_l, at_agg, asL_vs, asI_i, asU_u, asB_b, bofZ, bof1, bof0, List.getD_cons_zero, List.getD_cons_succ]; done))); cbv)
    | (refine ⟨fun _ h_s => ?_, fun _ h_s => ?_⟩ <;> (cbv; (try simp only [nc] at *); try simp (disch := (first | omega | (simp only [tab_len, List.length_append, List.length_map, List.length_range, List.length_replicate, is_len, us_len, ps_len, evs_len, ids_len, evss_len, idss_len]; omega))) only [nc, nct, w64_of, Int.toNat_natCast, Int.toNat_zero, List.length_map, is_len, us_len, ps_len, is_get, us_get, ps_get, at_i, at_u, at_p0, at_p1, evs_len, ids_len, evss_len, idss_len, evs_get, ids_get, evss_get, idss_get, at_e0, at_e1, at_e2, at_e3, at_e4, at_d0, at_d1, at_l, at_agg, asL_vs, asI_i, asU_u, asB_b, bofZ, bof1, bof0, List.getD_cons_zero, List.getD_cons_succ, reduceCtorEq, Bool.not_true, Bool.not_false, decide_eq_true_eq, decide_eq_false_iff_not, Bool.not_eq_true, Bool.not_eq_false, Bool.not_eq_true', Bool.not_eq_false', ne_eq, Decidable.not_not, Int.not_le, Int.not_lt, beq_iff_eq] at h_s))
    | (refine hF ?_; intro _; clear hF)
    | (refine hF ?_; cbv; clear hF)
    | (refine ⟨fun _ => ?_, ?_⟩; (· ((try simp only [nc] at *); first | done | omega | exact ⟨by omega, rfl⟩ | (simp (disch := (first | omega | (simp only [tab_len, List.length_append, List.length_map, List.length_range, List.length_replicate, is_len, us_len, ps_len, evs_len, ids_len, evss_len, idss_len]; omega))) only [nc, nct, w64_of, Int.toNat_natCast, Int.toNat_zero, List.length_map, is_len, us_len, ps_len, is_get, us_get, ps_get, at_i, at_u, at_p0, at_p1, evs_len, ids_len, evss_len, idss_len, evs_get, ids_get, evss_get, idss_get, at_e0, at_e1, at_e2, at_e3, at_e4, at_d0, at_d1, at_l, at_agg, asL_vs, asI_i, asU_u, asB_b, bofZ, bof1, bof0, List.getD_cons_zero, List.getD_cons_succ]; first | done | omega | rfl | exact ⟨by omega, rfl⟩ | (simp; done) | (simp; omega)) | (intros; trivial))); (try (simp only [nc] at *)); (try simp (disch := (first | omega | (simp only [tab_len, List.length_append, List.length_map, List.length_range, List.length_replicate, is_len, us_len, ps_len, evs_len, ids_len, evss_len, idss_len]; omega))) only [nc, nct, w64_of, Int.toNat_natCast, Int.toNat_zero, List.length_map, is_len, us_len, ps_len, is_get, us_get, ps_get, at_i, at_u, at_p0, at_p1, evs_len, ids_len, evss_len, idss_len, evs_get, ids_get, evss_get, idss_get, at_e0, at_e1, at_e2, at_e3, at_e4, at_d0, at_d1, at_l, at_agg, asL_vs, asI_i, asU_u, asB_b, bofZ, bof1, bof0, List.getD_cons_zero, List.getD_cons_succ]); (try cbv))
    | (refine E.d 14 (by decide +kernel) ?_; cbv; (fail_if_success guard_target =~ False))
    | fail
  )
  all_goals (try simp only [nc] at *)
  all_goals (try simp (disch := (first | omega | (simp only [tab_len, List.length_append, List.length_map, List.length_range, List.length_replicate, is_len, us_len, ps_len, evs_len, ids_len, evss_len, idss_len]; omega))) only [nc, nct, w64_of, Int.toNat_natCast, Int.toNat_zero, List.length_map, is_len, us_len, ps_len, is_get, us_get, ps_get, at_i, at_u, at_p0, at_p1, evs_len, ids_len, evss_len, idss_len, evs_get, ids_get, evss_get, idss_get, at_e0, at_e1, at_e2, at_e3, at_e4, at_d0, at_d1, at_l, at_agg, asL_vs, asI_i, asU_u, asB_b, bofZ, bof1, bof0, List.getD_cons_zero, List.getD_cons_succ])
  all_goals simp_all [ofM]
theorem least1_ok (V : Vw) {n : Nat} (hV : Wf V n) (a : Nat) (ha : a < n) : Pure Try.prog γ false 102 [.i fun _ => (a : Int), .vp (fun _ => pVw V) 0] (.b fun _ => decide ((V.ev.getD a ev0).order = 6)) := by
  have h1 := hV.ev
  refine Pure.go (ty := ty) ty_eq mo Try.func102 rfl Try.ntmps102 Try.results102 Try.call102 (by simp) fun P C CQ D W F E hF => ?_
  cbv
  repeat' (first
    | (refine ⟨fun _ h_s => ?_, fun _ h_s => ?_⟩ <;> (cbv; (try simp only [nc] at *); try simp (disch := (first | omega | (simp only [tab_len, List.length_append, List.length_map, List.length_range, List.length_replicate, is_len, us_len, ps_len, evs_len, ids_len, evss_len, idss_len]; omega))) only [nc, nct, w64_of, Int.toNat_natCast, Int.toNat_zero, List.length_map, is_len, us_len, ps_len, is_get, us_get, ps_get, at_i, at_u, at_p0, at_p1, evs_len, ids_len, evss_len, idss_len, evs_get, ids_get, evss_get, idss_get, at_e0, at_e1, at_e2, at_e3, at_e4, at_d0, at_d1, at_l, at_agg, asL_vs, asI_i, asU_u, asB_b, bofZ, bof1, bof0, List.getD_cons_zero, List.getD_cons_succ, reduceCtorEq, Bool.not_true, Bool.not_false, decide_eq_true_eq, decide_eq_false_iff_not, Bool.not_eq_true, Bool.not_eq_false, Bool.not_eq_true', Bool.not_eq_false', ne_eq, Decidable.not_not, Int.not_le, Int.not_lt, beq_iff_eq] at h_s))
    | (refine hF ?_; intro _; clear hF)
    | (refine hF ?_; cbv; clear hF)
    | (refine ⟨fun _ => ?_, ?_⟩; (· ((try simp only [nc] at *); first | done | omega | exact ⟨by omega, rfl⟩ | (simp (disch := (first | omega | (simp only [tab_len, List.length_append, List.length_map, List.length_range, List.length_replicate, is_len, us_len, ps_len, evs_len, ids_len, evss_len, idss_len]; omega))) only [nc, nct, w64_of, Int.toNat_natCast, Int.toNat_zero, List.length_map, is_len, us_len, ps_len, is_get, us_get, ps_get, at_i, at_u, at_p0, at_p1, evs_len, ids_len, evss_len, idss_len, evs_get, ids_get, evss_get, idss_get, at_e0, at_e1, at_e2, at_e3, at_e4, at_d0, at_d1, at_l, at_agg, asL_vs, asI_i, asU_u, asB_b, bofZ, bof1, bof0, List.getD_cons_zero, List.getD_cons_succ]; first | done | omega | rfl | exact ⟨by omega, rfl⟩ | (simp; done) | (simp; omega)) | (intros; trivial))); (try (simp only [nc] at *)); (try simp (disch := (first | omega | (simp only [tab_len, List.length_append, List.length_map, List.length_range, List.length_replicate, is_len, us_len, ps_len, evs_len, ids_len, evss_len, idss_len]; omega))) only [nc, nct, w64_of, Int.toNat_natCast, Int.toNat_zero, List.length_map, is_len, us_len, ps_len, is_get, us_get, ps_get, at_i, at_u, at_p0, at_p1, evs_len, ids_len, evss_len, idss_len, evs_get, ids_get, evss_get, idss_get, at_e0, at_e1, at_e2, at_e3, at_e4, at_d0, at_d1, at_l, at_agg, asL_vs, asI_i, asU_u, asB_b, bofZ, bof1, bof0, List.getD_cons_zero, List.getD_cons_succ]); (try cbv))
    | fail
  )
  all_goals (try simp only [nc] at *)
  all_goals (try simp (disch := (first | omega | (simp only [tab_len, List.length_append, List.length_map, List.length_range, List.length_replicate, is_len, us_len, ps_len, evs_len, ids_len, evss_len, idss_len]; omega))) only [nc, nct, w64_of, Int.toNat_natCast, Int.toNat_zero, List.length_map, is_len, us_len, ps_len, is_get, us_get, ps_get, at_i, at_u, at_p0, at_p1, evs_len, ids_len, evss_len, idss_len, evs_get, ids_get, evss_get, idss_get, at_e0, at_e1, at_e2, at_e3, at_e4, at_d0, at_d1, at_l, at_agg, asL_vs, asI_i, asU_u, asB_b, bofZ, bof1, bof0, List.getD_cons_zero, List.getD_cons_succ])
theorem least2_ok (V : Vw) {n : Nat} (hV : Wf V n) (a : Nat) (ha : a < n) : Pure Try.prog γ false 103 [.i fun _ => (a : Int), .vp (fun _ => pVw V) 0] (.b fun _ => decide ((V.ev.getD a ev0).order ≠ 1)) := by
  have h1 := hV.ev
  refine Pure.go (ty := ty) ty_eq mo Try.func103 rfl Try.ntmps103 Try.results103 Try.call103 (by simp) fun P C CQ D W F E hF => ?_
  cbv
  repeat' (first
    | (refine ⟨fun _ h_s => ?_, fun _ h_s => ?_⟩ <;> (cbv; (try simp only [nc] at *); try simp (disch := (first | omega | (simp only [tab_len, List.length_append, List.length_map, List.length_range, List.length_replicate, is_len, us_len, ps_len, evs_len, ids_len, evss_len, idss_len]; omega))) only [nc, nct, w64_of, Int.toNat_natCast, Int.toNat_zero, List.length_map, is_len, us_len, ps_len, is_get, us_get, ps_get, at_i, at_u, at_p0, at_p1, evs_len, ids_len, evss_len, idss_len, evs_get, ids_get, evss_get, idss_get, at_e0, at_e1, at_e2, at_e3, at_e4, at_d0, at_d1, at_l, at_agg, asL_vs, asI_i, asU_u, asB_b, bofZ, bof1, bof0, List.getD_cons_zero, List.getD_cons_succ, reduceCtorEq, Bool.not_true, Bool.not_false, decide_eq_true_eq, decide_eq_false_iff_not, Bool.not_eq_true, Bool.not_eq_false, Bool.not_eq_true', Bool.not_eq_false', ne_eq, Decidable.not_not, Int.not_le, Int.not_lt, beq_iff_eq] at h_s))
    | (refine hF ?_; intro _; clear hF)
    | (refine hF ?_; cbv; clear hF)
    | (refine ⟨fun _ => ?_, ?_⟩; (· ((try simp only [nc] at *); first | done | omega | exact ⟨by omega, rfl⟩ | (simp (disch := (first | omega | (simp only [tab_len, List.length_append, List.length_map, List.length_range, List.length_replicate, is_len, us_len, ps_len, evs_len, ids_len, evss_len, idss_len]; omega))) only [nc, nct, w64_of, Int.toNat_natCast, Int.toNat_zero, List.length_map, is_len, us_len, ps_len, is_get, us_get, ps_get, at_i, at_u, at_p0, at_p1, evs_len, ids_len, evss_len, idss_len, evs_get, ids_get, evss_get, idss_get, at_e0, at_e1, at_e2, at_e3, at_e4, at_d0, at_d1, at_l, at_agg, asL_vs, asI_i, asU_u, asB_b, bofZ, bof1, bof0, List.getD_cons_zero, List.getD_cons_succ]; first | done | omega | rfl | exact ⟨by omega, rfl⟩ | (simp; done) | (simp; omega)) | (intros; trivial))); (try (simp only [nc] at *)); (try simp (disch := (first | omega | (simp only [tab_len, List.length_append, List.length_map, List.length_range, List.length_replicate, is_len, us_len, ps_len, evs_len, ids_len, evss_len, idss_len]; omega))) only [nc, nct, w64_of, Int.toNat_natCast, Int.toNat_zero, List.length_map, is_len, us_len, ps_len, is_get, us_get, ps_get, at_i, at_u, at_p0, at_p1, evs_len, ids_len, evss_len, idss_len, evs_get, ids_get, evss_get, idss_get, at_e0, at_e1, at_e2, at_e3, at_e4, at_d0, at_d1, at_l, at_agg, asL_vs, asI_i, asU_u, asB_b, bofZ, bof1, bof0, List.getD_cons_zero, List.getD_cons_succ]); (try cbv))
    | fail
  )
  all_goals (try simp only [nc] at *)
  all_goals (try simp (disch := (first | omega | (simp only [tab_len, List.length_append, List.length_map, List.length_range, List.length_replicate, is_len, us_len, ps_len, evs_len, ids_len, evss_len, idss_len]; omega))) only [nc, nct, w64_of, Int.toNat_natCast, Int.toNat_zero, List.length_map, is_len, us_len, ps_len, is_get, us_get, ps_get, at_i, at_u, at_p0, at_p1, evs_len, ids_len, evss_len, idss_len, evs_get, ids_get, evss_get, idss_get, at_e0, at_e1, at_e2, at_e3, at_e4, at_d0, at_d1, at_l, at_agg, asL_vs, asI_i, asU_u, asB_b, bofZ, bof1, bof0, List.getD_cons_zero, List.getD_cons_succ])
theorem dOf_ok (g : Gr) (hg : Rd g) (loc : Int) : Pure Try.prog γ false 45 [aGr g, .i fun _ => loc] (.u fun _ => maskG g (ofF loc)) := by
  by_cases h : GOk g
  · unfold maskG
    rw [if_pos h]
    have hV := viewG_wf h
    have hr := dmask3_ok (γ := γ) (viewG g) hV 98 (fun _ => pVw (viewG g)) (fun _ => .i fun _ => loc) _ (fun a ha => of1_ok (viewG g) hV loc a ha)
    refine Pure.go (ty := ty) ty_eq mo Try.func45 rfl Try.ntmps45 Try.results45 Try.call45 (by simp) fun P C CQ D W F E hF => ?_
    cbv
    repeat' (first
      | (refine E.c (SCalls.of_bare (hr) rfl ?_ ?_); (· (cbv; (try simp only [nc] at *); first | done | (simp; done) | (simp (disch := (first | omega | (simp only [tab_len, List.length_append, List.length_map, List.length_range, List.length_replicate, is_len, us_len, ps_len, evs_len, ids_len, evss_len, idss_len]; omega))) only [nc, nct, w64_of, Int.toNat_natCast, Int.toNat_zero, List.length_map, is_len, us_len, ps_len, is_get, us_get, ps_get, at_i, at_u, at_p0, at_p1, evs_len, ids_len, evss_len, idss_len, evs_get, ids_get, evss_get, idss_get, at_e0, at_e1, at_e2, at_e3, at_e4, at_d0, at_d1, at_l, at_agg, asL_vs, asI_i, asU_u, asB_b, bofZ, bof1, bof0, List.getD_cons_zero, List.getD_cons_succ, implies_true, and_true, true_and, forall_const]; first | done | omega | (refine ⟨?_, ?_⟩ <;> omega)) | (simp (disch := (first | omega | (simp only [tab_len, List.length_append, List.length_map, List.length_range, List.length_replicate, is_len, us_len, ps_len, evs_len, ids_len, evss_len, idss_len]; omega))) [nc, nct, w64_of, Int.toNat_natCast, Int.toNat_zero, List.length_map, is_len, us_len, ps_len, is_get, us_get, ps_get, at_i, at_u, at_p0, at_p1, evs_len, ids_len, evss_len, idss_len, evs_get, ids_get, evss_get, idss_get, at_e0, at_e1, at_e2, at_e3, at_e4, at_d0, at_d1, at_l, at_agg, asL_vs, asI_i, asU_u, asB_b, bofZ, bof1, bof0, List.getD_cons_zero, List.getD_cons_succ]; done))); cbv)
      | (refine E.q (QCalls.of_bare (hr) rfl ?_ ?_); (· (cbv; (try simp only [nc] at *); first | done | (simp; done) | (simp (disch := (first | omega | (simp only [tab_len, List.length_append, List.length_map, List.length_range, List.length_replicate, is_len, us_len, ps_len, evs_len, ids_len, evss_len, idss_len]; omega))) only [nc, nct, w64_of, Int.toNat_natCast, Int.toNat_zero, List.length_map, is_len, us_len, ps_len, is_get, us_get, ps_get, at_i, at_u, at_p0, at_p1, evs_len, ids_len, evss_len, idss_len, evs_get, ids_get, evss_get, idss_get, at_e0, at_e1, at_e2, at_e3, at_e4, at_d0, at_d1, at_l, at_agg, asL_vs, asI_i, asU_u, asB_b, bofZ, bof1, bof0, List.getD_cons_zero, List.getD_cons_succ, implies_true, and_true, true_and, forall_const]; first | done | omega | (refine ⟨?_, ?_⟩ <;> omega)) | (simp (disch := (first | omega | (simp only [tab_len, List.length_append, List.length_map, List.length_range, List.length_replicate, is_len, us_len, ps_len, evs_len, ids_len, evss_len, idss_len]; omega))) [nc, nct, w64_of, Int.toNat_natCast, Int.toNat_zero, List.length_map, is_len, us_len, ps_len, is_get, us_get, ps_get, at_i, at_u, at_p0, at_p1, evs_len, ids_len, evss_len, idss_len, evs_get, ids_get, evss_get, idss_get, at_e0, at_e1, at_e2, at_e3, at_e4, at_d0, at_d1, at_l, at_agg, asL_vs, asI_i, asU_u, asB_b, bofZ, bof1, bof0, List.getD_cons_zero, List.getD_cons_succ]; done))); cbv)
      | (refine E.c (SCalls.of_le (viewOf_ok g hg h) ?_ ?_); (· (cbv; (try simp only [nc] at *); first | done | (simp; done) | (simp (disch := (first | omega | (simp only [tab_len, List.length_append, List.length_map, List.length_range, List.length_replicate, is_len, us_len, ps_len, evs_len, ids_len, evss_len, idss_len]; omega))) only [nc, nct, w64_of, Int.toNat_natCast, Int.toNat_zero, List.length_map, is_len, us_len, ps_len, is_get, us_get, ps_get, at_i, at_u, at_p0, at_p1, evs_len, ids_len, evss_len, idss_len, evs_get, ids_get, evss_get, idss_get, at_e0, at_e1, at_e2, at_e3, at_e4, at_d0, at_d1, at_l, at_agg, asL_vs, asI_i, asU_u, asB_b, bofZ, bof1, bof0, List.getD_cons_zero, List.getD_cons_succ, implies_true, and_true, true_and, forall_const]; first | done | omega | (refine ⟨?_, ?_⟩ <;> omega)) | (simp (disch := (first | omega | (simp only [tab_len, List.length_append, List.length_map, List.length_range, List.length_replicate, is_len, us_len, ps_len, evs_len, ids_len, evss_len, idss_len]; omega))) [nc, nct, w64_of, Int.toNat_natCast, Int.toNat_zero, List.length_map, is_len, us_len, ps_len, is_get, us_get, ps_get, at_i, at_u, at_p0, at_p1, evs_len, ids_len, evss_len, idss_len, evs_get, ids_get, evss_get, idss_get, at_e0, at_e1, at_e2, at_e3, at_e4, at_d0, at_d1, at_l, at_agg, asL_vs, asI_i, asU_u, asB_b, bofZ, bof1, bof0, List.getD_cons_zero, List.getD_cons_succ]; done))); cbv)
      | (refine ⟨fun _ h_s => ?_, fun _ h_s => ?_⟩ <;> (cbv; (try simp only [nc] at *); try simp (disch := (first | omega | (simp only [tab_len, List.length_append, List.length_map, List.length_range, List.length_replicate, is_len, us_len, ps_len, evs_len, ids_len, evss_len, idss_len]; omega))) only [nc, nct, w64_of, Int.toNat_natCast, Int.toNat_zero, List.length_map, is_len, us_len, ps_len, is_get, us_get, ps_get, at_i, at_u, at_p0, at_p1, evs_len, ids_len, evss_len, idss_len, evs_get, ids_get, evss_get, idss_get, at_e0, at_e1, at_e2, at_e3, at_e4, at_d0, at_d1, at_l, at_agg, asL_vs, asI_i, asU_u, asB_b, bofZ, bof1, bof0, List.getD_cons_zero, List.getD_cons_succ, reduceCtorEq, Bool.not_true, Bool.not_false, decide_eq_true_eq, decide_eq_false_iff_not, Bool.not_eq_true, Bool.not_eq_false, Bool.not_eq_true', Bool.not_eq_false', ne_eq, Decidable.not_not, Int.not_le, Int.not_lt, beq_iff_eq] at h_s))
      | (refine hF ?_; intro _; clear hF)
      | (refine hF ?_; cbv; clear hF)
      | (refine ⟨fun _ => ?_, ?_⟩; (· ((try simp only [nc] at *); first | done | omega | exact ⟨by omega, rfl⟩ | (simp (disch := (first | omega | (simp only [tab_len, List.length_append, List.length_map, List.length_range, List.length_replicate, is_len, us_len, ps_len, evs_len, ids_len, evss_len, idss_len]; omega))) only [nc, nct, w64_of, Int.toNat_natCast, Int.toNat_zero, List.length_map, is_len, us_len, ps_len, is_get, us_get, ps_get, at_i, at_u, at_p0, at_p1, evs_len, ids_len, evss_len, idss_len, evs_get, ids_get, evss_get, idss_get, at_e0, at_e1, at_e2, at_e3, at_e4, at_d0, at_d1, at_l, at_agg, asL_vs, asI_i, asU_u, asB_b, bofZ, bof1, bof0, List.getD_cons_zero, List.getD_cons_succ]; first | done | omega | rfl | exact ⟨by omega, rfl⟩ | (simp; done) | (simp; omega)) | (intros; trivial))); try cbv)
      | fail
    )
    all_goals (try simp only [nc] at *)
    all_goals (try simp (disch := (first | omega | (simp only [tab_len, List.length_append, List.length_map, List.length_range, List.length_replicate, is_len, us_len, ps_len, evs_len, ids_len, evss_len, idss_len]; omega))) only [nc, nct, w64_of, Int.toNat_natCast, Int.toNat_zero, List.length_map, is_len, us_len, ps_len, is_get, us_get, ps_get, at_i, at_u, at_p0, at_p1, evs_len, ids_len, evss_len, idss_len, evs_get, ids_get, evss_get, idss_get, at_e0, at_e1, at_e2, at_e3, at_e4, at_d0, at_d1, at_l, at_agg, asL_vs, asI_i, asU_u, asB_b, bofZ, bof1, bof0, List.getD_cons_zero, List.getD_cons_succ])
    all_goals rfl
  · unfold maskG
    rw [if_neg h]
    refine Pure.go (ty := ty) ty_eq mo Try.func45 rfl Try.ntmps45 Try.results45 Try.call45 (by simp) fun P C CQ D W F E hF => ?_
    cbv
    repeat' (first
      | (refine E.c (SCalls.of_le (viewOf_no g hg h) ?_ ?_); (· (cbv; (try simp only [nc] at *); first | done | (simp; done) | (simp (disch := (first | omega | (simp only [tab_len, List.length_append, List.length_map, List.length_range, List.length_replicate, is_len, us_len, ps_len, evs_len, ids_len, evss_len, idss_len]; omega))) only [nc, nct, w64_of, Int.toNat_natCast, Int.toNat_zero, List.length_map, is_len, us_len, ps_len, is_get, us_get, ps_get, at_i, at_u, at_p0, at_p1, evs_len, ids_len, evss_len, idss_len, evs_get, ids_get, evss_get, idss_get, at_e0, at_e1, at_e2, at_e3, at_e4, at_d0, at_d1, at_l, at_agg, asL_vs, asI_i, asU_u, asB_b, bofZ, bof1, bof0, List.getD_cons_zero, List.getD_cons_succ, implies_true, and_true, true_and, forall_const]; first | done | omega | (refine ⟨?_, ?_⟩ <;> omega)) | (simp (disch := (first | omega | (simp only [tab_len, List.length_append, List.length_map, List.length_range, List.length_replicate, is_len, us_len, ps_len, evs_len, ids_len, evss_len, idss_len]; omega))) [nc, nct, w64_of, Int.toNat_natCast, Int.toNat_zero, List.length_map, is_len, us_len, ps_len, is_get, us_get, ps_get, at_i, at_u, at_p0, at_p1, evs_len, ids_len, evss_len, idss_len, evs_get, ids_get, evss_get, idss_get, at_e0, at_e1, at_e2, at_e3, at_e4, at_d0, at_d1, at_l, at_agg, asL_vs, asI_i, asU_u, asB_b, bofZ, bof1, bof0, List.getD_cons_zero, List.getD_cons_succ]; done))); cbv)
      | (refine ⟨fun _ h_s => ?_, fun _ h_s => ?_⟩ <;> (cbv; (try simp only [nc] at *); try simp (disch := (first | omega | (simp only [tab_len, List.length_append, List.length_map, List.length_range, List.length_replicate, is_len, us_len, ps_len, evs_len, ids_len, evss_len, idss_len]; omega))) only [nc, nct, w64_of, Int.toNat_natCast, Int.toNat_zero, List.length_map, is_len, us_len, ps_len, is_get, us_get, ps_get, at_i, at_u, at_p0, at_p1, evs_len, ids_len, evss_len, idss_len, evs_get, ids_get, evss_get, idss_get, at_e0, at_e1, at_e2, at_e3, at_e4, at_d0, at_d1, at_l, at_agg, asL_vs, asI_i, asU_u, asB_b, bofZ, bof1, bof0, List.getD_cons_zero, List.getD_cons_succ, reduceCtorEq, Bool.not_true, Bool.not_false, decide_eq_true_eq, decide_eq_false_iff_not, Bool.not_eq_true, Bool.not_eq_false, Bool.not_eq_true', Bool.not_eq_false', ne_eq, Decidable.not_not, Int.not_le, Int.not_lt, beq_iff_eq] at h_s))
      | (refine hF ?_; intro _; clear hF)
      | (refine hF ?_; cbv; clear hF)
      | (refine ⟨fun _ => ?_, ?_⟩; (· ((try simp only [nc] at *); first | done | omega | exact ⟨by omega, rfl⟩ | (simp (disch := (first | omega | (simp only [tab_len, List.length_append, List.length_map, List.length_range, List.length_replicate, is_len, us_len, ps_len, evs_len, ids_len, evss_len, idss_len]; omega))) only [nc, nct, w64_of, Int.toNat_natCast, Int.toNat_zero, List.length_map, is_len, us_len, ps_len, is_get, us_get, ps_get, at_i, at_u, at_p0, at_p1, evs_len, ids_len, evss_len, idss_len, evs_get, ids_get, evss_get, idss_get, at_e0, at_e1, at_e2, at_e3, at_e4, at_d0, at_d1, at_l, at_agg, asL_vs, asI_i, asU_u, asB_b, bofZ, bof1, bof0, List.getD_cons_zero, List.getD_cons_succ]; first | done | omega | rfl | exact ⟨by omega, rfl⟩ | (simp; done) | (simp; omega)) | (intros; trivial))); try cbv)
      | fail
    )
    all_goals (try simp only [nc] at *)
    all_goals (try simp (disch := (first | omega | (simp only [tab_len, List.length_append, List.length_map, List.length_range, List.length_replicate, is_len, us_len, ps_len, evs_len, ids_len, evss_len, idss_len]; omega))) only [nc, nct, w64_of, Int.toNat_natCast, Int.toNat_zero, List.length_map, is_len, us_len, ps_len, is_get, us_get, ps_get, at_i, at_u, at_p0, at_p1, evs_len, ids_len, evss_len, idss_len, evs_get, ids_get, evss_get, idss_get, at_e0, at_e1, at_e2, at_e3, at_e4, at_d0, at_d1, at_l, at_agg, asL_vs, asI_i, asU_u, asB_b, bofZ, bof1, bof0, List.getD_cons_zero, List.getD_cons_succ])
theorem dLeast_ok (g : Gr) (hg : Rd g) (o : Int) : Pure Try.prog γ false 46 [aGr g, .i fun _ => o] (.u fun _ => maskG g (leastF o)) := by
  by_cases h : GOk g
  · unfold maskG
    rw [if_pos h]
    have hV := viewG_wf h
    have r1 := dmask1_ok (γ := γ) (viewG g) hV 100 (fun _ => aVw (viewG g)) _ (fun a ha => dacq_ok (viewG g) hV a ha)
    have r2 := dmask1_ok (γ := γ) (viewG g) hV 101 (fun _ => aVw (viewG g)) _ (fun a ha => drel_ok (viewG g) hV a ha)
    have r3 := dmask2_ok (γ := γ) (viewG g) hV 102 (fun _ => pVw (viewG g)) _ (fun a ha => least1_ok (viewG g) hV a ha)
    have r4 := dmask2_ok (γ := γ) (viewG g) hV 103 (fun _ => pVw (viewG g)) _ (fun a ha => least2_ok (viewG g) hV a ha)
    refine Pure.go (ty := ty) ty_eq mo Try.func46 rfl Try.ntmps46 Try.results46 Try.call46 (by simp) fun P C CQ D W F E hF => ?_
    cbv
    repeat' (first
      | (refine E.c (SCalls.of_bare (r4) rfl ?_ ?_); (· (cbv; (try simp only [nc] at *); first | done | (simp; done) | (simp (disch := (first | omega | (simp only [tab_len, List.length_append, List.length_map, List.length_range, List.length_replicate, is_len, us_len, ps_len, evs_len, ids_len, evss_len, idss_len]; omega))) only [nc, nct, w64_of, Int.toNat_natCast, Int.toNat_zero, List.length_map, is_len, us_len, ps_len, is_get, us_get, ps_get, at_i, at_u, at_p0, at_p1, evs_len, ids_len, evss_len, idss_len, evs_get, ids_get, evss_get, idss_get, at_e0, at_e1, at_e2, at_e3, at_e4, at_d0, at_d1, at_l, at_agg, asL_vs, asI_i, asU_u, asB_b, bofZ, bof1, bof0, List.getD_cons_zero, List.getD_cons_succ, implies_true, and_true, true_and, forall_const]; first | done | omega | (refine ⟨?_, ?_⟩ <;> omega)) | (simp (disch := (first | omega | (simp only [tab_len, List.length_append, List.length_map, List.length_range, List.length_replicate, is_len, us_len, ps_len, evs_len, ids_len, evss_len, idss_len]; omega))) [nc, nct, w64_of, Int.toNat_natCast, Int.toNat_zero, List.length_map, is_len, us_len, ps_len, is_get, us_get, ps_get, at_i, at_u, at_p0, at_p1, evs_len, ids_len, evss_len, idss_len, evs_get, ids_get, evss_get, idss_get, at_e0, at_e1, at_e2, at_e3, at_e4, at_d0, at_d1, at_l, at_agg, asL_vs, asI_i, asU_u, asB_b, bofZ, bof1, bof0, List.getD_cons_zero, List.getD_cons_succ]; done))); cbv)
      | (refine E.q (QCalls.of_bare (r4) rfl ?_ ?_); (· (cbv; (try simp only [nc] at *); first | done | (simp; done) | (simp (disch := (first | omega | (simp only [tab_len, List.length_append, List.length_map, List.length_range, List.length_replicate, is_len, us_len, ps_len, evs_len, ids_len, evss_len, idss_len]; omega))) only [nc, nct, w64_of, Int.toNat_natCast, Int.toNat_zero, List.length_map, is_len, us_len, ps_len, is_get, us_get, ps_get, at_i, at_u, at_p0, at_p1, evs_len, ids_len, evss_len, idss_len, evs_get, ids_get, evss_get, idss_get, at_e0, at_e1, at_e2, at_e3, at_e4, at_d0, at_d1, at_l, at_agg, asL_vs, asI_i, asU_u, asB_b, bofZ, bof1, bof0, List.getD_cons_zero, List.getD_cons_succ, implies_true, and_true, true_and, forall_const]; first | done | omega | (refine ⟨?_, ?_⟩ <;> omega)) | (simp (disch := (first | omega | (simp only [tab_len, List.length_append, List.length_map, List.length_range, List.length_replicate, is_len, us_len, ps_len, evs_len, ids_len, evss_len, idss_len]; omega))) [nc, nct, w64_of, Int.toNat_natCast, Int.toNat_zero, List.length_map, is_len, us_len, ps_len, is_get, us_get, ps_get, at_i, at_u, at_p0, at_p1, evs_len, ids_len, evss_len, idss_len, evs_get, ids_get, evss_get, idss_get, at_e0, at_e1, at_e2, at_e3, at_e4, at_d0, at_d1, at_l, at_agg, asL_vs, asI_i, asU_u, asB_b, bofZ, bof1, bof0, List.getD_cons_zero, List.getD_cons_succ]; done))); cbv)
      | (refine E.c (SCalls.of_bare (r3) rfl ?_ ?_); (· (cbv; (try simp only [nc] at *); first | done | (simp; done) | (simp (disch := (first | omega | (simp only [tab_len, List.length_append, List.length_map, List.length_range, List.length_replicate, is_len, us_len, ps_len, evs_len, ids_len, evss_len, idss_len]; omega))) only [nc, nct, w64_of, Int.toNat_natCast, Int.toNat_zero, List.length_map, is_len, us_len, ps_len, is_get, us_get, ps_get, at_i, at_u, at_p0, at_p1, evs_len, ids_len, evss_len, idss_len, evs_get, ids_get, evss_get, idss_get, at_e0, at_e1, at_e2, at_e3, at_e4, at_d0, at_d1, at_l, at_agg, asL_vs, asI_i, asU_u, asB_b, bofZ, bof1, bof0, List.getD_cons_zero, List.getD_cons_succ, implies_true, and_true, true_and, forall_const]; first | done | omega | (refine ⟨?_, ?_⟩ <;> omega)) | (simp (disch := (first | omega | (simp only [tab_len, List.length_append, List.length_map, List.length_range, List.length_replicate, is_len, us_len, ps_len, evs_len, ids_len, evss_len, idss_len]; omega))) [nc, nct, w64_of, Int.toNat_natCast, Int.toNat_zero, List.length_map, is_len, us_len, ps_len, is_get, us_get, ps_get, at_i, at_u, at_p0, at_p1, evs_len, ids_len, evss_len, idss_len, evs_get, ids_get, evss_get, idss_get, at_e0, at_e1, at_e2, at_e3, at_e4, at_d0, at_d1, at_l, at_agg, asL_vs, asI_i, asU_u, asB_b, bofZ, bof1, bof0, List.getD_cons_zero, List.getD_cons_succ]; done))); cbv)
      | (refine E.q (QCalls.of_bare (r3) rfl ?_ ?_); (· (cbv; (try simp only [nc] at *); first | done | (simp; done) | (simp (disch := (first | omega | (simp only [tab_len, List.length_append, List.length_map, List.length_range, List.length_replicate, is_len, us_len, ps_len, evs_len, ids_len, evss_len, idss_len]; omega))) only [nc, nct, w64_of, Int.toNat_natCast, Int.toNat_zero, List.length_map, is_len, us_len, ps_len, is_get, us_get, ps_get, at_i, at_u, at_p0, at_p1, evs_len, ids_len, evss_len, idss_len, evs_get, ids_get, evss_get, idss_get, at_e0, at_e1, at_e2, at_e3, at_e4, at_d0, at_d1, at_l, at_agg, asL_vs, asI_i, asU_u, asB_b, bofZ, bof1, bof0, List.getD_cons_zero, List.getD_cons_succ, implies_true, and_true, true_and, forall_const]; first | done | omega | (refine ⟨?_, ?_⟩ <;> omega)) | (simp (disch := (first | omega | (simp only [tab_len, List.length_append, List.length_map, List.length_range, List.length_replicate, is_len, us_len, ps_len, evs_len, ids_len, evss_len, idss_len]; omega))) [nc, nct, w64_of, Int.toNat_natCast, Int.toNat_zero, List.length_map, is_len, us_len, ps_len, is_get, us_get, ps_get, at_i, at_u, at_p0, at_p1, evs_len, ids_len, evss_len, idss_len, evs_get, ids_get, evss_get, idss_get, at_e0, at_e1, at_e2, at_e3, at_e4, at_d0, at_d1, at_l, at_agg, asL_vs, asI_i, asU_u, asB_b, bofZ, bof1, bof0, List.getD_cons_zero, List.getD_cons_succ]; done))); cbv)
      | (refine E.c (SCalls.of_bare (r2) rfl ?_ ?_); (· (cbv; (try simp only [nc] at *); first | done | (simp; done) | (simp (disch := (first | omega | (simp only [tab_len, List.length_append, List.length_map, List.length_range, List.length_replicate, is_len, us_len, ps_len, evs_len, ids_len, evss_len, idss_len]; omega))) only [nc, nct, w64_of, Int.toNat_natCast, Int.toNat_zero, List.length_map, is_len, us_len, ps_len, is_get, us_get, ps_get, at_i, at_u, at_p0, at_p1, evs_len, ids_len, evss_len, idss_len, evs_get, ids_get, evss_get, idss_get, at_e0, at_e1, at_e2, at_e3, at_e4, at_d0, at_d1, at_l, at_agg, asL_vs, asI_i, asU_u, asB_b, bofZ, bof1, bof0, List.getD_cons_zero, List.getD_cons_succ, implies_true, and_true, true_and, forall_const]; first | done | omega | (refine ⟨?_, ?_⟩ <;> omega)) | (simp (disch := (first | omega | (simp only [tab_len, List.length_append, List.length_map, List.length_range, List.length_replicate, is_len, us_len, ps_len, evs_len, ids_len, evss_len, idss_len]; omega))) [nc, nct, w64_of, Int.toNat_natCast, Int.toNat_zero, List.length_map, is_len, us_len, ps_len, is_get, us_get, ps_get, at_i, at_u, at_p0, at_p1, evs_len, ids_len, evss_len, idss_len, evs_get, ids_get, evss_get, idss_get, at_e0, at_e1, at_e2, at_e3, at_e4, at_d0, at_d1, at_l, at_agg, asL_vs, asI_i, asU_u, asB_b, bofZ, bof1, bof0, List.getD_cons_zero, List.getD_cons_succ]; done))); cbv)
      | (refine E.q (QCalls.of_bare (r2) rfl ?_ ?_); (· (cbv; (try simp only [nc] at *); first | done | (simp; done) | (simp (disch := (first | omega | (simp only [tab_len, List.length_append, List.length_map, List.length_range, List.length_replicate, is_len, us_len, ps_len, evs_len, ids_len, evss_len, idss_len]; omega))) only [nc, nct, w64_of, Int.toNat_natCast, Int.toNat_zero, List.length_map, is_len, us_len, ps_len, is_get, us_get, ps_get, at_i, at_u, at_p0, at_p1, evs_len, ids_len, evss_len, idss_len, evs_get, ids_get, evss_get, idss_get, at_e0, at_e1, at_e2, at_e3, at_e4, at_d0, at_d1, at_l, at_agg, asL_vs, asI_i, asU_u, asB_b, bofZ, bof1, bof0, List.getD_cons_zero, List.getD_cons_succ, implies_true, and_true, true_and, forall_const]; first | done | omega | (refine ⟨?_, ?_⟩ <;> omega)) | (simp (disch := (first | omega | (simp only [tab_len, List.length_append, List.length_map, List.length_range, List.length_replicate, is_len, us_len, ps_len, evs_len, ids_len, evss_len, idss_len]; omega))) [nc, nct, w64_of, Int.toNat_natCast, Int.toNat_zero, List.length_map, is_len, us_len, ps_len, is_get, us_get, ps_get, at_i, at_u, at_p0, at_p1, evs_len, ids_len, evss_len, idss_len, evs_get, ids_get, evss_get, idss_get, at_e0, at_e1, at_e2, at_e3, at_e4, at_d0, at_d1, at_l, at_agg, asL_vs, asI_i, asU_u, asB_b, bofZ, bof1, bof0, List.getD_cons_zero, List.getD_cons_succ]; done))); cbv)
      | (refine E.c (SCalls.of_bare (r1) rfl ?_ ?_); (· (cbv; (try simp only [nc] at *); first | done | (simp; done) | (simp (disch := (first | omega | (simp only [tab_len, List.length_append, List.length_map, List.length_range, List.length_replicate, is_len, us_len, ps_len, evs_len, ids_len, evss_len, idss_len]; omega))) only [nc, nct, w64_of, Int.toNat_natCast, Int.toNat_zero, List.length_map, is_len, us_len, ps_len, is_get, us_get, ps_get, at_i, at_u, at_p0, at_p1, evs_len, ids_len, evss_len, idss_len, evs_get, ids_get, evss_get, idss_get, at_e0, at_e1, at_e2, at_e3, at_e4, at_d0, at_d1, at_l, at_agg, asL_vs, asI_i, asU_u, asB_b, bofZ, bof1, bof0, List.getD_cons_zero, List.getD_cons_succ, implies_true, and_true, true_and, forall_const]; first | done | omega | (refine ⟨?_, ?_⟩ <;> omega)) | (simp (disch := (first | omega | (simp only [tab_len, List.length_append, List.length_map, List.length_range, List.length_replicate, is_len, us_len, ps_len, evs_len, ids_len, evss_len, idss_len]; omega))) [nc, nct, w64_of, Int.toNat_natCast, Int.toNat_zero, List.length_map, is_len, us_len, ps_len, is_get, us_get, ps_get, at_i, at_u, at_p0, at_p1, evs_len, ids_len, evss_len, idss_len, evs_get, ids_get, evss_get, idss_get, at_e0, at_e1, at_e2, at_e3, at_e4, at_d0, at_d1, at_l, at_agg, asL_vs, asI_i, asU_u, asB_b, bofZ, bof1, bof0, List.getD_cons_zero, List.getD_cons_succ]; done))); cbv)
      | (refine E.q (QCalls.of_bare (r1) rfl ?_ ?_); (· (cbv; (try simp only [nc] at *); first | done | (simp; done) | (simp (disch := (first | omega | (simp only [tab_len, List.length_append, List.length_map, List.length_range, List.length_replicate, is_len, us_len, ps_len, evs_len, ids_len, evss_len, idss_len]; omega))) only [nc, nct, w64_of, Int.toNat_natCast, Int.toNat_zero, List.length_map, is_len, us_len, ps_len, is_get, us_get, ps_get, at_i, at_u, at_p0, at_p1, evs_len, ids_len, evss_len, idss_len, evs_get, ids_get, evss_get, idss_get, at_e0, at_e1, at_e2, at_e3, at_e4, at_d0, at_d1, at_l, at_agg, asL_vs, asI_i, asU_u, asB_b, bofZ, bof1, bof0, List.getD_cons_zero, List.getD_cons_succ, implies_true, and_true, true_and, forall_const]; first | done | omega | (refine ⟨?_, ?_⟩ <;> omega)) | (simp (disch := (first | omega | (simp only [tab_len, List.length_append, List.length_map, List.length_range, List.length_replicate, is_len, us_len, ps_len, evs_len, ids_len, evss_len, idss_len]; omega))) [nc, nct, w64_of, Int.toNat_natCast, Int.toNat_zero, List.length_map, is_len, us_len, ps_len, is_get, us_get, ps_get, at_i, at_u, at_p0, at_p1, evs_len, ids_len, evss_len, idss_len, evs_get, ids_get, evss_get, idss_get, at_e0, at_e1, at_e2, at_e3, at_e4, at_d0, at_d1, at_l, at_agg, asL_vs, asI_i, asU_u, asB_b, bofZ, bof1, bof0, List.getD_cons_zero, List.getD_cons_succ]; done))); cbv)
      | (refine E.c (SCalls.of_le (viewOf_ok g hg h) ?_ ?_); (· (cbv; (try simp only [nc] at *); first | done | (simp; done) | (simp (disch := (first | omega | (simp only [tab_len, List.length_append, List.length_map, List.length_range, List.length_replicate, is_len, us_len, ps_len, evs_len, ids_len, evss_len, idss_len]; omega))) only [nc, nct, w64_of, Int.toNat_natCast, Int.toNat_zero, List.length_map, is_len, us_len, ps_len, is_get, us_get, ps_get, at_i, at_u, at_p0, at_p1, evs_len, ids_len, evss_len, idss_len, evs_get, ids_get, evss_get, idss_get, at_e0, at_e1, at_e2, at_e3, at_e4, at_d0, at_d1, at_l, at_agg, asL_vs, asI_i, asU_u, asB_b, bofZ, bof1, bof0, List.getD_cons_zero, List.getD_cons_succ, implies_true, and_true, true_and, forall_const]; first | done | omega | (refine ⟨?_, ?_⟩ <;> omega)) | (simp (disch := (first | omega | (simp only [tab_len, List.length_append, List.length_map, List.length_range, List.length_replicate, is_len, us_len, ps_len, evs_len, ids_len, evss_len, idss_len]; omega))) [nc, nct, w64_of, Int.toNat_natCast, Int.toNat_zero, List.length_map, is_len, us_len, ps_len, is_get, us_get, ps_get, at_i, at_u, at_p0, at_p1, evs_len, ids_len, evss_len, idss_len, evs_get, ids_get, evss_get, idss_get, at_e0, at_e1, at_e2, at_e3, at_e4, at_d0, at_d1, at_l, at_agg, asL_vs, asI_i, asU_u, asB_b, bofZ, bof1, bof0, List.getD_cons_zero, List.getD_cons_succ]; done))); cbv)
      | (refine ⟨fun _ h_s => ?_, fun _ h_s => ?_⟩ <;> (cbv; (try simp only [nc] at *); try simp (disch := (first | omega | (simp only [tab_len, List.length_append, List.length_map, List.length_range, List.length_replicate, is_len, us_len, ps_len, evs_len, ids_len, evss_len, idss_len]; omega))) only [nc, nct, w64_of, Int.toNat_natCast, Int.toNat_zero, List.length_map, is_len, us_len, ps_len, is_get, us_get, ps_get, at_i, at_u, at_p0, at_p1, evs_len, ids_len, evss_len, idss_len, evs_get, ids_get, evss_get, idss_get, at_e0, at_e1, at_e2, at_e3, at_e4, at_d0, at_d1, at_l, at_agg, asL_vs, asI_i, asU_u, asB_b, bofZ, bof1, bof0, List.getD_cons_zero, List.getD_cons_succ, reduceCtorEq, Bool.not_true, Bool.not_false, decide_eq_true_eq, decide_eq_false_iff_not, Bool.not_eq_true, Bool.not_eq_false, Bool.not_eq_true', Bool.not_eq_false', ne_eq, Decidable.not_not, Int.not_le, Int.not_lt, beq_iff_eq] at h_s))
      | (refine hF ?_; intro _; clear hF)
      | (refine hF ?_; cbv; clear hF)
      | (refine ⟨fun _ => ?_, ?_⟩; (· ((try simp only [nc] at *); first | done | omega | exact ⟨by omega, rfl⟩ | (simp (disch := (first | omega | (simp only [tab_len, List.length_append, List.length_map, List.length_range, List.length_replicate, is_len, us_len, ps_len, evs_len, ids_len, evss_len, idss_len]; omega))) only [nc, nct, w64_of, Int.toNat_natCast, Int.toNat_zero, List.length_map, is_len, us_len, ps_len, is_get, us_get, ps_get, at_i, at_u, at_p0, at_p1, evs_len, ids_len, evss_len, idss_len, evs_get, ids_get, evss_get, idss_get, at_e0, at_e1, at_e2, at_e3, at_e4, at_d0, at_d1, at_l, at_agg, asL_vs, asI_i, asU_u, asB_b, bofZ, bof1, bof0, List.getD_cons_zero, List.getD_cons_succ]; first | done | omega | rfl | exact ⟨by omega, rfl⟩ | (simp; done) | (simp; omega)) | (intros; trivial))); try cbv)
      | fail
    )
    all_goals (try simp only [nc] at *)
    all_goals (try simp (disch := (first | omega | (simp only [tab_len, List.length_append, List.length_map, List.length_range, List.length_replicate, is_len, us_len, ps_len, evs_len, ids_len, evss_len, idss_len]; omega))) only [nc, nct, w64_of, Int.toNat_natCast, Int.toNat_zero, List.length_map, is_len, us_len, ps_len, is_get, us_get, ps_get, at_i, at_u, at_p0, at_p1, evs_len, ids_len, evss_len, idss_len, evs_get, ids_get, evss_get, idss_get, at_e0, at_e1, at_e2, at_e3, at_e4, at_d0, at_d1, at_l, at_agg, asL_vs, asI_i, asU_u, asB_b, bofZ, bof1, bof0, List.getD_cons_zero, List.getD_cons_succ])
    all_goals unfold leastF
    all_goals first
      | (rw [show (fun a => leastM o ((viewG g).ev.getD a ev0)) = fun _ => false from funext fun a => by simp_all [leastM], mask0]; done)
      | exact congrArg (fun p => maskTo p (nG g)) (funext fun a => by simp_all [leastM, ev0])
  · unfold maskG
    rw [if_neg h]
    refine Pure.go (ty := ty) ty_eq mo Try.func46 rfl Try.ntmps46 Try.results46 Try.call46 (by simp) fun P C CQ D W F E hF => ?_
    cbv
    repeat' (first
      | (refine E.c (SCalls.of_le (viewOf_no g hg h) ?_ ?_); (· (cbv; (try simp only [nc] at *); first | done | (simp; done) | (simp (disch := (first | omega | (simp only [tab_len, List.length_append, List.length_map, List.length_range, List.length_replicate, is_len, us_len, ps_len, evs_len, ids_len, evss_len, idss_len]; omega))) only [nc, nct, w64_of, Int.toNat_natCast, Int.toNat_zero, List.length_map, is_len, us_len, ps_len, is_get, us_get, ps_get, at_i, at_u, at_p0, at_p1, evs_len, ids_len, evss_len, idss_len, evs_get, ids_get, evss_get, idss_get, at_e0, at_e1, at_e2, at_e3, at_e4, at_d0, at_d1, at_l, at_agg, asL_vs, asI_i, asU_u, asB_b, bofZ, bof1, bof0, List.getD_cons_zero, List.getD_cons_succ, implies_true, and_true, true_and, forall_const]; first | done | omega | (refine ⟨?_, ?_⟩ <;> omega)) | (simp (disch := (first | omega | (simp only [tab_len, List.length_append, List.length_map, List.length_range, List.length_replicate, is_len, us_len, ps_len, evs_len, ids_len, evss_len, idss_len]; omega))) [nc, nct, w64_of, Int.toNat_natCast, Int.toNat_zero, List.length_map, is_len, us_len, ps_len, is_get, us_get, ps_get, at_i, at_u, at_p0, at_p1, evs_len, ids_len, evss_len, idss_len, evs_get, ids_get, evss_get, idss_get, at_e0, at_e1, at_e2, at_e3, at_e4, at_d0, at_d1, at_l, at_agg, asL_vs, asI_i, asU_u, asB_b, bofZ, bof1, bof0, List.getD_cons_zero, List.getD_cons_succ]; done))); cbv)
      | (refine ⟨fun _ h_s => ?_, fun _ h_s => ?_⟩ <;> (cbv; (try simp only [nc] at *); try simp (disch := (first | omega | (simp only [tab_len, List.length_append, List.length_map, List.length_range, List.length_replicate, is_len, us_len, ps_len, evs_len, ids_len, evss_len, idss_len]; omega))) only [nc, nct, w64_of, Int.toNat_natCast, Int.toNat_zero, List.length_map, is_len, us_len, ps_len, is_get, us_get, ps_get, at_i, at_u, at_p0, at_p1, evs_len, ids_len, evss_len, idss_len, evs_get, ids_get, evss_get, idss_get, at_e0, at_e1, at_e2, at_e3, at_e4, at_d0, at_d1, at_l, at_agg, asL_vs, asI_i, asU_u, asB_b, bofZ, bof1, bof0, List.getD_cons_zero, List.getD_cons_succ, reduceCtorEq, Bool.not_true, Bool.not_false, decide_eq_true_eq, decide_eq_false_iff_not, Bool.not_eq_true, Bool.not_eq_false, Bool.not_eq_true', Bool.not_eq_false', ne_eq, Decidable.not_not, Int.not_le, Int.not_lt, beq_iff_eq] at h_s))
      | (refine hF ?_; intro _; clear hF)
      | (refine hF ?_; cbv; clear hF)
      | (refine ⟨fun _ => ?_, ?_⟩; (· ((try simp only [nc] at *); first | done | omega | exact ⟨by omega, rfl⟩ | (simp (disch := (first | omega | (simp only [tab_len, List.length_append, List.length_map, List.length_range, List.length_replicate, is_len, us_len, ps_len, evs_len, ids_len, evss_len, idss_len]; omega))) only [nc, nct, w64_of, Int.toNat_natCast, Int.toNat_zero, List.length_map, is_len, us_len, ps_len, is_get, us_get, ps_get, at_i, at_u, at_p0, at_p1, evs_len, ids_len, evss_len, idss_len, evs_get, ids_get, evss_get, idss_get, at_e0, at_e1, at_e2, at_e3, at_e4, at_d0, at_d1, at_l, at_agg, asL_vs, asI_i, asU_u, asB_b, bofZ, bof1, bof0, List.getD_cons_zero, List.getD_cons_succ]; first | done | omega | rfl | exact ⟨by omega, rfl⟩ | (simp; done) | (simp; omega)) | (intros; trivial))); try cbv)
      | fail
    )
    all_goals (try simp only [nc] at *)
    all_goals (try simp (disch := (first | omega | (simp only [tab_len, List.length_append, List.length_map, List.length_range, List.length_replicate, is_len, us_len, ps_len, evs_len, ids_len, evss_len, idss_len]; omega))) only [nc, nct, w64_of, Int.toNat_natCast, Int.toNat_zero, List.length_map, is_len, us_len, ps_len, is_get, us_get, ps_get, at_i, at_u, at_p0, at_p1, evs_len, ids_len, evss_len, idss_len, evs_get, ids_get, evss_get, idss_get, at_e0, at_e1, at_e2, at_e3, at_e4, at_d0, at_d1, at_l, at_agg, asL_vs, asI_i, asU_u, asB_b, bofZ, bof1, bof0, List.getD_cons_zero, List.getD_cons_succ])
theorem dSequence_ok (g : Gr) (hg : Rd g) (w : Int) : Pure Try.prog γ false 47 [aGr g, .i fun _ => w] (.u fun _ => maskG g (sequF w)) := by
  by_cases h : GOk g
  · unfold maskG
    rw [if_pos h]
    have hV := viewG_wf h
    have h1 := hV.ids
    have r1 : 0 ≤ w → w < nG g → Pure Try.prog γ false 92 [pVw (viewG g), .i fun _ => w] (.b fun _ => writesM ((viewG g).ev.getD w.toNat ev0)) := fun h1 h2 => by
      have := dwrites_ok (γ := γ) (viewG g) hV w.toNat (by omega)
      rwa [Int.toNat_of_nonneg h1] at this
    have r2 : 0 ≤ w → w < nG g → Pure Try.prog γ false 104 [pVw (viewG g), .i fun _ => w] (.u fun _ => seqM (viewG g) (nG g) w.toNat) := fun h1 h2 => by
      have := sequence_ok (γ := γ) (viewG g) hV w.toNat (by omega)
      rwa [Int.toNat_of_nonneg h1] at this
    refine Pure.go (ty := ty) ty_eq mo Try.func47 rfl Try.ntmps47 Try.results47 Try.call47 (by simp) fun P C CQ D W F E hF => ?_
    cbv
    repeat' (first
      | (refine E.c (SCalls.of_le (r2 (by ((try simp only [nc] at *); omega)) (by ((try simp only [nc] at *); omega))) ?_ ?_); (· (cbv; (try simp only [nc] at *); first | done | (simp; done) | (simp (disch := (first | omega | (simp only [tab_len, List.length_append, List.length_map, List.length_range, List.length_replicate, is_len, us_len, ps_len, evs_len, ids_len, evss_len, idss_len]; omega))) only [nc, nct, w64_of, Int.toNat_natCast, Int.toNat_zero, List.length_map, is_len, us_len, ps_len, is_get, us_get, ps_get, at_i, at_u, at_p0, at_p1, evs_len, ids_len, evss_len, idss_len, evs_get, ids_get, evss_get, idss_get, at_e0, at_e1, at_e2, at_e3, at_e4, at_d0, at_d1, at_l, at_agg, asL_vs, asI_i, asU_u, asB_b, bofZ, bof1, bof0, List.getD_cons_zero, List.getD_cons_succ, implies_true, and_true, true_and, forall_const]; first | done | omega | (refine ⟨?_, ?_⟩ <;> omega)) | (simp (disch := (first | omega | (simp only [tab_len, List.length_append, List.length_map, List.length_range, List.length_replicate, is_len, us_len, ps_len, evs_len, ids_len, evss_len, idss_len]; omega))) [nc, nct, w64_of, Int.toNat_natCast, Int.toNat_zero, List.length_map, is_len, us_len, ps_len, is_get, us_get, ps_get, at_i, at_u, at_p0, at_p1, evs_len, ids_len, evss_len, idss_len, evs_get, ids_get, evss_get, idss_get, at_e0, at_e1, at_e2, at_e3, at_e4, at_d0, at_d1, at_l, at_agg, asL_vs, asI_i, asU_u, asB_b, bofZ, bof1, bof0, List.getD_cons_zero, List.getD_cons_succ]; done))); cbv)
      | (refine E.c (SCalls.of_le (r1 (by ((try simp only [nc] at *); omega)) (by ((try simp only [nc] at *); omega))) ?_ ?_); (· (cbv; (try simp only [nc] at *); first | done | (simp; done) | (simp (disch := (first | omega | (simp only [tab_len, List.length_append, List.length_map, List.length_range, List.length_replicate, is_len, us_len, ps_len, evs_len, ids_len, evss_len, idss_len]; omega))) only [nc, nct, w64_of, Int.toNat_natCast, Int.toNat_zero, List.length_map, is_len, us_len, ps_len, is_get, us_get, ps_get, at_i, at_u, at_p0, at_p1, evs_len, ids_len, evss_len, idss_len, evs_get, ids_get, evss_get, idss_get, at_e0, at_e1, at_e2, at_e3, at_e4, at_d0, at_d1, at_l, at_agg, asL_vs, asI_i, asU_u, asB_b, bofZ, bof1, bof0, List.getD_cons_zero, List.getD_cons_succ, implies_true, and_true, true_and, forall_const]; first | done | omega | (refine ⟨?_, ?_⟩ <;> omega)) | (simp (disch := (first | omega | (simp only [tab_len, List.length_append, List.length_map, List.length_range, List.length_replicate, is_len, us_len, ps_len, evs_len, ids_len, evss_len, idss_len]; omega))) [nc, nct, w64_of, Int.toNat_natCast, Int.toNat_zero, List.length_map, is_len, us_len, ps_len, is_get, us_get, ps_get, at_i, at_u, at_p0, at_p1, evs_len, ids_len, evss_len, idss_len, evs_get, ids_get, evss_get, idss_get, at_e0, at_e1, at_e2, at_e3, at_e4, at_d0, at_d1, at_l, at_agg, asL_vs, asI_i, asU_u, asB_b, bofZ, bof1, bof0, List.getD_cons_zero, List.getD_cons_succ]; done))); cbv)
      | (refine E.c (SCalls.of_le (viewOf_ok g hg h) ?_ ?_); (· (cbv; (try simp only [nc] at *); first | done | (simp; done) | (simp (disch := (first | omega | (simp only [tab_len, List.length_append, List.length_map, List.length_range, List.length_replicate, is_len, us_len, ps_len, evs_len, ids_len, evss_len, idss_len]; omega))) only [nc, nct, w64_of, Int.toNat_natCast, Int.toNat_zero, List.length_map, is_len, us_len, ps_len, is_get, us_get, ps_get, at_i, at_u, at_p0, at_p1, evs_len, ids_len, evss_len, idss_len, evs_get, ids_get, evss_get, idss_get, at_e0, at_e1, at_e2, at_e3, at_e4, at_d0, at_d1, at_l, at_agg, asL_vs, asI_i, asU_u, asB_b, bofZ, bof1, bof0, List.getD_cons_zero, List.getD_cons_succ, implies_true, and_true, true_and, forall_const]; first | done | omega | (refine ⟨?_, ?_⟩ <;> omega)) | (simp (disch := (first | omega | (simp only [tab_len, List.length_append, List.length_map, List.length_range, List.length_replicate, is_len, us_len, ps_len, evs_len, ids_len, evss_len, idss_len]; omega))) [nc, nct, w64_of, Int.toNat_natCast, Int.toNat_zero, List.length_map, is_len, us_len, ps_len, is_get, us_get, ps_get, at_i, at_u, at_p0, at_p1, evs_len, ids_len, evss_len, idss_len, evs_get, ids_get, evss_get, idss_get, at_e0, at_e1, at_e2, at_e3, at_e4, at_d0, at_d1, at_l, at_agg, asL_vs, asI_i, asU_u, asB_b, bofZ, bof1, bof0, List.getD_cons_zero, List.getD_cons_succ]; done))); cbv)
      | (refine ⟨fun _ h_s => ?_, fun _ h_s => ?_⟩ <;> (cbv; (try simp only [nc] at *); try simp (disch := (first | omega | (simp only [tab_len, List.length_append, List.length_map, List.length_range, List.length_replicate, is_len, us_len, ps_len, evs_len, ids_len, evss_len, idss_len]; omega))) only [nc, nct, w64_of, Int.toNat_natCast, Int.toNat_zero, List.length_map, is_len, us_len, ps_len, is_get, us_get, ps_get, at_i, at_u, at_p0, at_p1, evs_len, ids_len, evss_len, idss_len, evs_get, ids_get, evss_get, idss_get, at_e0, at_e1, at_e2, at_e3, at_e4, at_d0, at_d1, at_l, at_agg, asL_vs, asI_i, asU_u, asB_b, bofZ, bof1, bof0, List.getD_cons_zero, List.getD_cons_succ, reduceCtorEq, Bool.not_true, Bool.not_false, decide_eq_true_eq, decide_eq_false_iff_not, Bool.not_eq_true, Bool.not_eq_false, Bool.not_eq_true', Bool.not_eq_false', ne_eq, Decidable.not_not, Int.not_le, Int.not_lt, beq_iff_eq] at h_s))
      | (refine hF ?_; intro _; clear hF)
      | (refine hF ?_; cbv; clear hF)
      | (refine ⟨fun _ => ?_, ?_⟩; (· ((try simp only [nc] at *); first | done | omega | exact ⟨by omega, rfl⟩ | (simp (disch := (first | omega | (simp only [tab_len, List.length_append, List.length_map, List.length_range, List.length_replicate, is_len, us_len, ps_len, evs_len, ids_len, evss_len, idss_len]; omega))) only [nc, nct, w64_of, Int.toNat_natCast, Int.toNat_zero, List.length_map, is_len, us_len, ps_len, is_get, us_get, ps_get, at_i, at_u, at_p0, at_p1, evs_len, ids_len, evss_len, idss_len, evs_get, ids_get, evss_get, idss_get, at_e0, at_e1, at_e2, at_e3, at_e4, at_d0, at_d1, at_l, at_agg, asL_vs, asI_i, asU_u, asB_b, bofZ, bof1, bof0, List.getD_cons_zero, List.getD_cons_succ]; first | done | omega | rfl | exact ⟨by omega, rfl⟩ | (simp; done) | (simp; omega)) | (intros; trivial))); (try (simp only [nc] at *)); (try simp (disch := (first | omega | (simp only [tab_len, List.length_append, List.length_map, List.length_range, List.length_replicate, is_len, us_len, ps_len, evs_len, ids_len, evss_len, idss_len]; omega))) only [nc, nct, w64_of, Int.toNat_natCast, Int.toNat_zero, List.length_map, is_len, us_len, ps_len, is_get, us_get, ps_get, at_i, at_u, at_p0, at_p1, evs_len, ids_len, evss_len, idss_len, evs_get, ids_get, evss_get, idss_get, at_e0, at_e1, at_e2, at_e3, at_e4, at_d0, at_d1, at_l, at_agg, asL_vs, asI_i, asU_u, asB_b, bofZ, bof1, bof0, List.getD_cons_zero, List.getD_cons_succ]); (try cbv))
      | fail
    )
    all_goals (try simp only [nc] at *)
    all_goals (try simp (disch := (first | omega | (simp only [tab_len, List.length_append, List.length_map, List.length_range, List.length_replicate, is_len, us_len, ps_len, evs_len, ids_len, evss_len, idss_len]; omega))) only [nc, nct, w64_of, Int.toNat_natCast, Int.toNat_zero, List.length_map, is_len, us_len, ps_len, is_get, us_get, ps_get, at_i, at_u, at_p0, at_p1, evs_len, ids_len, evss_len, idss_len, evs_get, ids_get, evss_get, idss_get, at_e0, at_e1, at_e2, at_e3, at_e4, at_d0, at_d1, at_l, at_agg, asL_vs, asI_i, asU_u, asB_b, bofZ, bof1, bof0, List.getD_cons_zero, List.getD_cons_succ])
    all_goals first
      | (unfold sequF; rw [if_neg (by first | omega | (rintro ⟨_, _, _⟩; simp_all; done) | (rintro ⟨_, _, _⟩; omega))]; done)
      | (unfold sequF; rw [if_pos ⟨by omega, by omega, by assumption⟩]; done)
  · unfold maskG
    rw [if_neg h]
    refine Pure.go (ty := ty) ty_eq mo Try.func47 rfl Try.ntmps47 Try.results47 Try.call47 (by simp) fun P C CQ D W F E hF => ?_
    cbv
    repeat' (first
      | (refine E.c (SCalls.of_le (viewOf_no g hg h) ?_ ?_); (· (cbv; (try simp only [nc] at *); first | done | (simp; done) | (simp (disch := (first | omega | (simp only [tab_len, List.length_append, List.length_map, List.length_range, List.length_replicate, is_len, us_len, ps_len, evs_len, ids_len, evss_len, idss_len]; omega))) only [nc, nct, w64_of, Int.toNat_natCast, Int.toNat_zero, List.length_map, is_len, us_len, ps_len, is_get, us_get, ps_get, at_i, at_u, at_p0, at_p1, evs_len, ids_len, evss_len, idss_len, evs_get, ids_get, evss_get, idss_get, at_e0, at_e1, at_e2, at_e3, at_e4, at_d0, at_d1, at_l, at_agg, asL_vs, asI_i, asU_u, asB_b, bofZ, bof1, bof0, List.getD_cons_zero, List.getD_cons_succ, implies_true, and_true, true_and, forall_const]; first | done | omega | (refine ⟨?_, ?_⟩ <;> omega)) | (simp (disch := (first | omega | (simp only [tab_len, List.length_append, List.length_map, List.length_range, List.length_replicate, is_len, us_len, ps_len, evs_len, ids_len, evss_len, idss_len]; omega))) [nc, nct, w64_of, Int.toNat_natCast, Int.toNat_zero, List.length_map, is_len, us_len, ps_len, is_get, us_get, ps_get, at_i, at_u, at_p0, at_p1, evs_len, ids_len, evss_len, idss_len, evs_get, ids_get, evss_get, idss_get, at_e0, at_e1, at_e2, at_e3, at_e4, at_d0, at_d1, at_l, at_agg, asL_vs, asI_i, asU_u, asB_b, bofZ, bof1, bof0, List.getD_cons_zero, List.getD_cons_succ]; done))); cbv)
      | (refine ⟨fun _ h_s => ?_, fun _ h_s => ?_⟩ <;> (cbv; (try simp only [nc] at *); try simp (disch := (first | omega | (simp only [tab_len, List.length_append, List.length_map, List.length_range, List.length_replicate, is_len, us_len, ps_len, evs_len, ids_len, evss_len, idss_len]; omega))) only [nc, nct, w64_of, Int.toNat_natCast, Int.toNat_zero, List.length_map, is_len, us_len, ps_len, is_get, us_get, ps_get, at_i, at_u, at_p0, at_p1, evs_len, ids_len, evss_len, idss_len, evs_get, ids_get, evss_get, idss_get, at_e0, at_e1, at_e2, at_e3, at_e4, at_d0, at_d1, at_l, at_agg, asL_vs, asI_i, asU_u, asB_b, bofZ, bof1, bof0, List.getD_cons_zero, List.getD_cons_succ, reduceCtorEq, Bool.not_true, Bool.not_false, decide_eq_true_eq, decide_eq_false_iff_not, Bool.not_eq_true, Bool.not_eq_false, Bool.not_eq_true', Bool.not_eq_false', ne_eq, Decidable.not_not, Int.not_le, Int.not_lt, beq_iff_eq] at h_s))
      | (refine hF ?_; intro _; clear hF)
      | (refine hF ?_; cbv; clear hF)
      | (refine ⟨fun _ => ?_, ?_⟩; (· ((try simp only [nc] at *); first | done | omega | exact ⟨by omega, rfl⟩ | (simp (disch := (first | omega | (simp only [tab_len, List.length_append, List.length_map, List.length_range, List.length_replicate, is_len, us_len, ps_len, evs_len, ids_len, evss_len, idss_len]; omega))) only [nc, nct, w64_of, Int.toNat_natCast, Int.toNat_zero, List.length_map, is_len, us_len, ps_len, is_get, us_get, ps_get, at_i, at_u, at_p0, at_p1, evs_len, ids_len, evss_len, idss_len, evs_get, ids_get, evss_get, idss_get, at_e0, at_e1, at_e2, at_e3, at_e4, at_d0, at_d1, at_l, at_agg, asL_vs, asI_i, asU_u, asB_b, bofZ, bof1, bof0, List.getD_cons_zero, List.getD_cons_succ]; first | done | omega | rfl | exact ⟨by omega, rfl⟩ | (simp; done) | (simp; omega)) | (intros; trivial))); (try (simp only [nc] at *)); (try simp (disch := (first | omega | (simp only [tab_len, List.length_append, List.length_map, List.length_range, List.length_replicate, is_len, us_len, ps_len, evs_len, ids_len, evss_len, idss_len]; omega))) only [nc, nct, w64_of, Int.toNat_natCast, Int.toNat_zero, List.length_map, is_len, us_len, ps_len, is_get, us_get, ps_get, at_i, at_u, at_p0, at_p1, evs_len, ids_len, evss_len, idss_len, evs_get, ids_get, evss_get, idss_get, at_e0, at_e1, at_e2, at_e3, at_e4, at_d0, at_d1, at_l, at_agg, asL_vs, asI_i, asU_u, asB_b, bofZ, bof1, bof0, List.getD_cons_zero, List.getD_cons_succ]); (try cbv))
      | fail
    )
    all_goals (try simp only [nc] at *)
    all_goals (try simp (disch := (first | omega | (simp only [tab_len, List.length_append, List.length_map, List.length_range, List.length_replicate, is_len, us_len, ps_len, evs_len, ids_len, evss_len, idss_len]; omega))) only [nc, nct, w64_of, Int.toNat_natCast, Int.toNat_zero, List.length_map, is_len, us_len, ps_len, is_get, us_get, ps_get, at_i, at_u, at_p0, at_p1, evs_len, ids_len, evss_len, idss_len, evs_get, ids_get, evss_get, idss_get, at_e0, at_e1, at_e2, at_e3, at_e4, at_d0, at_d1, at_l, at_agg, asL_vs, asI_i, asU_u, asB_b, bofZ, bof1, bof0, List.getD_cons_zero, List.getD_cons_succ])
abbrev aDer (n : Int) (po rf co fr eco porf loc sw hb : List (BitVec 64)) : AV :=
  .agg [.i fun _ => n, .vs 1 fun _ => us po, .i fun _ => n, .vs 1 fun _ => us rf, .i fun _ => n, .vs 1 fun _ => us co, .i fun _ => n, .vs 1 fun _ => us fr, .i fun _ => n, .vs 1 fun _ => us eco, .i fun _ => n, .vs 1 fun _ => us porf, .i fun _ => n, .vs 1 fun _ => us loc, .i fun _ => n, .vs 1 fun _ => us sw, .i fun _ => n, .vs 1 fun _ => us hb]
theorem dAll_no (g : Gr) (hg : Rd g) (h : ¬ GOk g) : Pure Try.prog γ false 17 [aGr g] (.tup [aDer 0 [] [] [] [] [] [] [] [] [], .i fun _ => 2]) := by
  refine Pure.go (ty := ty) ty_eq mo Try.func17 rfl Try.ntmps17 Try.results17 Try.call17 (by simp) fun P C CQ D W F E hF => ?_
  cbv
  repeat' (first
    | (refine E.c (SCalls.of_le (viewOf_no g hg h) ?_ ?_); (· (cbv; (try simp only [nc] at *); first | done | (simp; done) | (simp (disch := (first | omega | (simp only [tab_len, List.length_append, List.length_map, List.length_range, List.length_replicate, is_len, us_len, ps_len, evs_len, ids_len, evss_len, idss_len]; omega))) only [nc, nct, w64_of, Int.toNat_natCast, Int.toNat_zero, List.length_map, is_len, us_len, ps_len, is_get, us_get, ps_get, at_i, at_u, at_p0, at_p1, evs_len, ids_len, evss_len, idss_len, evs_get, ids_get, evss_get, idss_get, at_e0, at_e1, at_e2, at_e3, at_e4, at_d0, at_d1, at_l, at_agg, asL_vs, asI_i, asU_u, asB_b, bofZ, bof1, bof0, List.getD_cons_zero, List.getD_cons_succ, implies_true, and_true, true_and, forall_const]; first | done | omega | (refine ⟨?_, ?_⟩ <;> omega)) | (simp (disch := (first | omega | (simp only [tab_len, List.length_append, List.length_map, List.length_range, List.length_replicate, is_len, us_len, ps_len, evs_len, ids_len, evss_len, idss_len]; omega))) [nc, nct, w64_of, Int.toNat_natCast, Int.toNat_zero, List.length_map, is_len, us_len, ps_len, is_get, us_get, ps_get, at_i, at_u, at_p0, at_p1, evs_len, ids_len, evss_len, idss_len, evs_get, ids_get, evss_get, idss_get, at_e0, at_e1, at_e2, at_e3, at_e4, at_d0, at_d1, at_l, at_agg, asL_vs, asI_i, asU_u, asB_b, bofZ, bof1, bof0, List.getD_cons_zero, List.getD_cons_succ]; done))); cbv)
    | (refine ⟨fun _ h_s => ?_, fun _ h_s => ?_⟩ <;> (cbv; (try simp only [nc] at *); try simp (disch := (first | omega | (simp only [tab_len, List.length_append, List.length_map, List.length_range, List.length_replicate, is_len, us_len, ps_len, evs_len, ids_len, evss_len, idss_len]; omega))) only [nc, nct, w64_of, Int.toNat_natCast, Int.toNat_zero, List.length_map, is_len, us_len, ps_len, is_get, us_get, ps_get, at_i, at_u, at_p0, at_p1, evs_len, ids_len, evss_len, idss_len, evs_get, ids_get, evss_get, idss_get, at_e0, at_e1, at_e2, at_e3, at_e4, at_d0, at_d1, at_l, at_agg, asL_vs, asI_i, asU_u, asB_b, bofZ, bof1, bof0, List.getD_cons_zero, List.getD_cons_succ, reduceCtorEq, Bool.not_true, Bool.not_false, decide_eq_true_eq, decide_eq_false_iff_not, Bool.not_eq_true, Bool.not_eq_false, Bool.not_eq_true', Bool.not_eq_false', ne_eq, Decidable.not_not, Int.not_le, Int.not_lt, beq_iff_eq] at h_s))
    | (refine hF ?_; intro _; clear hF)
    | (refine hF ?_; cbv; clear hF)
    | (refine ⟨fun _ => ?_, ?_⟩; (· ((try simp only [nc] at *); first | done | omega | exact ⟨by omega, rfl⟩ | (simp (disch := (first | omega | (simp only [tab_len, List.length_append, List.length_map, List.length_range, List.length_replicate, is_len, us_len, ps_len, evs_len, ids_len, evss_len, idss_len]; omega))) only [nc, nct, w64_of, Int.toNat_natCast, Int.toNat_zero, List.length_map, is_len, us_len, ps_len, is_get, us_get, ps_get, at_i, at_u, at_p0, at_p1, evs_len, ids_len, evss_len, idss_len, evs_get, ids_get, evss_get, idss_get, at_e0, at_e1, at_e2, at_e3, at_e4, at_d0, at_d1, at_l, at_agg, asL_vs, asI_i, asU_u, asB_b, bofZ, bof1, bof0, List.getD_cons_zero, List.getD_cons_succ]; first | done | omega | rfl | exact ⟨by omega, rfl⟩ | (simp; done) | (simp; omega)) | (intros; trivial))); try cbv)
    | fail
  )
  all_goals (try simp only [nc] at *)
  all_goals (try simp (disch := (first | omega | (simp only [tab_len, List.length_append, List.length_map, List.length_range, List.length_replicate, is_len, us_len, ps_len, evs_len, ids_len, evss_len, idss_len]; omega))) only [nc, nct, w64_of, Int.toNat_natCast, Int.toNat_zero, List.length_map, is_len, us_len, ps_len, is_get, us_get, ps_get, at_i, at_u, at_p0, at_p1, evs_len, ids_len, evss_len, idss_len, evs_get, ids_get, evss_get, idss_get, at_e0, at_e1, at_e2, at_e3, at_e4, at_d0, at_d1, at_l, at_agg, asL_vs, asI_i, asU_u, asB_b, bofZ, bof1, bof0, List.getD_cons_zero, List.getD_cons_succ])
  all_goals simp [us, LV.of, LV.l]
end Go.AL.Rl

namespace Go.AL.Rl
open Go Go.AL Go.Proofs
set_option maxRecDepth 100000
set_option maxHeartbeats 1600000
variable {γ : Nat → Option AV}

end Go.AL.Rl

namespace Go.AL.Rl
open Go Go.AL Go.Proofs
set_option maxRecDepth 100000
set_option maxHeartbeats 1600000
variable {γ : Nat → Option AV}

def gS (o : Int) : Gr := ⟨[0], [[⟨2, 0, o, 0, 1⟩], [⟨1, 0, 3, 1, 0⟩]], [[⟨0, 0⟩], [⟨1, 0⟩]], [[⟨1, 0⟩]]⟩
theorem small_ok (o : Int) : Pure Try.prog γ false 39 [.i fun _ => o] (aGr (gS o)) := by
  refine Pure.go (ty := ty) ty_eq mo Try.func39 rfl Try.ntmps39 Try.results39 Try.call39 (by simp) fun P C CQ D W F E hF => ?_
  cbv
  repeat' (first
    | (refine ⟨fun _ h_s => ?_, fun _ h_s => ?_⟩ <;> (cbv; (try simp only [nc] at *); try simp (disch := (first | omega | (simp only [tab_len, List.length_append, List.length_map, List.length_range, List.length_replicate, is_len, us_len, ps_len, evs_len, ids_len, evss_len, idss_len]; omega))) only [nc, nct, w64_of, Int.toNat_natCast, Int.toNat_zero, List.length_map, is_len, us_len, ps_len, is_get, us_get, ps_get, at_i, at_u, at_p0, at_p1, evs_len, ids_len, evss_len, idss_len, evs_get, ids_get, evss_get, idss_get, at_e0, at_e1, at_e2, at_e3, at_e4, at_d0, at_d1, at_l, at_agg, asL_vs, asI_i, asU_u, asB_b, bofZ, bof1, bof0, List.getD_cons_zero, List.getD_cons_succ, reduceCtorEq, Bool.not_true, Bool.not_false, decide_eq_true_eq, decide_eq_false_iff_not, Bool.not_eq_true, Bool.not_eq_false, Bool.not_eq_true', Bool.not_eq_false', ne_eq, Decidable.not_not, Int.not_le, Int.not_lt, beq_iff_eq] at h_s))
    | (refine hF ?_; intro _; clear hF)
    | (refine hF ?_; cbv; clear hF)
    | (refine ⟨fun _ => ?_, ?_⟩; (· ((try simp only [nc] at *); first | done | omega | exact ⟨by omega, rfl⟩ | (simp (disch := (first | omega | (simp only [tab_len, List.length_append, List.length_map, List.length_range, List.length_replicate, is_len, us_len, ps_len, evs_len, ids_len, evss_len, idss_len]; omega))) only [nc, nct, w64_of, Int.toNat_natCast, Int.toNat_zero, List.length_map, is_len, us_len, ps_len, is_get, us_get, ps_get, at_i, at_u, at_p0, at_p1, evs_len, ids_len, evss_len, idss_len, evs_get, ids_get, evss_get, idss_get, at_e0, at_e1, at_e2, at_e3, at_e4, at_d0, at_d1, at_l, at_agg, asL_vs, asI_i, asU_u, asB_b, bofZ, bof1, bof0, List.getD_cons_zero, List.getD_cons_succ]; first | done | omega | rfl | exact ⟨by omega, rfl⟩ | (simp; done) | (simp; omega)) | (intros; trivial))); (try (simp only [nc] at *)); (try simp (disch := (first | omega | (simp only [tab_len, List.length_append, List.length_map, List.length_range, List.length_replicate, is_len, us_len, ps_len, evs_len, ids_len, evss_len, idss_len]; omega))) only [nc, nct, w64_of, Int.toNat_natCast, Int.toNat_zero, List.length_map, is_len, us_len, ps_len, is_get, us_get, ps_get, at_i, at_u, at_p0, at_p1, evs_len, ids_len, evss_len, idss_len, evs_get, ids_get, evss_get, idss_get, at_e0, at_e1, at_e2, at_e3, at_e4, at_d0, at_d1, at_l, at_agg, asL_vs, asI_i, asU_u, asB_b, bofZ, bof1, bof0, List.getD_cons_zero, List.getD_cons_succ]); (try cbv))
    | fail
  )
def tgtC (V : Vw) (n w : Nat) : BitVec 64 := maskTo (fun a => acqM (V.ev.getD a ev0) && behM V n (maskTo (rdrM V (1#64 <<< w)) n) a) n
def rowC (V : Vw) (n : Nat) : Nat → Nat → BitVec 64
  | 0, _ => 0#64
  | w + 1, r => if swR V w r = true then rowC V n w r ||| tgtC V n w else rowC V n w r
def swC (V : Vw) (n : Nat) : List (BitVec 64) := relRows n (bit (tab n (rowC V n n)))
theorem seq_plain {V : Vw} {n w : Nat} (hn : n ≤ 64) (hw : w < n) (h : ∀ i < n, (V.ev.getD i ev0).kind ≠ 3) : 1#64 <<< w = seqM V n w := by
  refine seq_unique hn hw ?_ (fun j hj => ?_) fun i hi hk => absurd hk (h i hi)
  · rw [BitVec.getLsbD_shiftLeft, BitVec.getLsbD_one]; simp; omega
  · rw [BitVec.getLsbD_shiftLeft, BitVec.getLsbD_one] at hj
    simp at hj
    have : j = w := by omega
    subst this
    exact .base
theorem rowC_eq {V : Vw} {n : Nat} (hn : n ≤ 64) (h : ∀ i < n, (V.ev.getD i ev0).kind ≠ 3) : ∀ k, k ≤ n → ∀ r, rowT V n k r = rowC V n k r
  | 0, _, _ => rfl
  | k + 1, hk, r => by
    have e : tgtM V n k = tgtC V n k := by unfold tgtM tgtC; rw [seq_plain hn (by omega) h]
    show (if swR V k r = true then rowT V n k r ||| tgtM V n k else rowT V n k r) = if swR V k r = true then rowC V n k r ||| tgtC V n k else rowC V n k r
    rw [rowC_eq hn h k (by omega) r, e]
theorem swC_eq {V : Vw} {n : Nat} (hn : n ≤ 64) (h : ∀ i < n, (V.ev.getD i ev0).kind ≠ 3) : swF V n = swC V n := by
  unfold swF swC swRows
  rw [show rowT V n n = rowC V n n from funext fun r => rowC_eq hn h n (Nat.le_refl _) r]
def vS (o : Int) : Vw := ⟨[⟨0, 0⟩, ⟨1, 0⟩, ⟨2, 0⟩], [⟨2, 0, 1, 0, 0⟩, ⟨2, 0, o, 0, 1⟩, ⟨1, 0, 3, 1, 0⟩], [-1, -1, 1], [0, 1, -1]⟩
theorem gS4 : GOk (gS 4) := by decide +kernel
theorem gS1 : GOk (gS 2) := by decide +kernel
theorem gS4v : viewG (gS 4) = vS 4 := by
  unfold viewG vS
  simp only [Vw.mk.injEq]
  decide +kernel
theorem gS1v : viewG (gS 2) = vS 2 := by
  unfold viewG vS
  simp only [Vw.mk.injEq]
  decide +kernel
theorem gSn (o : Int) : nG (gS o) = 3 := rfl
theorem NG4 : NG (gS 4) = 3 := by unfold NG; rw [if_pos gS4, gSn]; rfl
theorem NG1 : NG (gS 2) = 3 := by unfold NG; rw [if_pos gS1, gSn]; rfl
theorem rows4 (f : Vw → Nat → List (BitVec 64)) : rowsG (gS 4) f = f (vS 4) 3 := by unfold rowsG; rw [if_pos gS4, gSn, gS4v]
theorem rows1 (f : Vw → Nat → List (BitVec 64)) : rowsG (gS 2) f = f (vS 2) 3 := by unfold rowsG; rw [if_pos gS1, gSn, gS1v]
theorem mask4 (f : Vw → Nat → BitVec 64) : maskG (gS 4) f = f (vS 4) 3 := by unfold maskG; rw [if_pos gS4, gSn, gS4v]
theorem po4 : rowsG (gS 4) poF = [6, 0, 0] := by rw [rows4]; decide +kernel
theorem rf4 : rowsG (gS 4) rfF = [0, 4, 0] := by rw [rows4]; decide +kernel
theorem co4 : rowsG (gS 4) coF = [2, 0, 0] := by rw [rows4]; decide +kernel
theorem fr4 : rowsG (gS 4) frF = [0, 0, 0] := by rw [rows4]; decide +kernel
theorem sw4 : rowsG (gS 4) swF = [0, 4, 0] := by rw [rows4, swC_eq (by omega) (by decide +kernel)]; decide +kernel
theorem sw1 : rowsG (gS 2) swF = [0, 0, 0] := by rw [rows1, swC_eq (by omega) (by decide +kernel)]; decide +kernel
theorem hb4 : rowsG (gS 4) hbF = [6, 4, 0] := by
  rw [rows4]
  have := sw4
  rw [rows4] at this
  unfold hbF
  rw [this]
  decide +kernel
theorem rd4 : maskG (gS 4) readsF = 4 := by rw [mask4]; decide +kernel
theorem wr4 : maskG (gS 4) writesF = 3 := by rw [mask4]; decide +kernel
theorem of4 : maskG (gS 4) (ofF 0) = 7 := by rw [mask4]; decide +kernel
theorem le4 : maskG (gS 4) (leastF 4) = 2 := by rw [mask4]; decide +kernel
theorem sq4 : maskG (gS 4) (sequF 1) = 2 := by
  rw [mask4]
  unfold sequF
  rw [if_pos (by decide +kernel)]
  exact (seq_plain (V := vS 4) (n := 3) (w := 1) (by omega) (by omega) (by decide +kernel)).symm
theorem rdS (o : Int) : Rd (gS o) := by
  refine ⟨by simp [gS], by simp [gS], by simp [gS], by simp [gS], ?_, ?_, ?_⟩ <;> simp [gS]
end Go.AL.Rl

namespace Go.AL.Rl
open Go Go.AL Go.Proofs
set_option maxRecDepth 100000
set_option maxHeartbeats 1600000
variable {γ : Nat → Option AV}

theorem lives15_ok : Pure Try.prog γ false 14 [] (.b fun _ => true) := by
  have p1 := dPo_ok (γ := γ) (gS 4) (rdS 4)
  have p2 := dRf_ok (γ := γ) (gS 4) (rdS 4)
  have p3 := dSw_ok (γ := γ) (gS 4) (rdS 4)
  have p4 := dHb_ok (γ := γ) (gS 4) (rdS 4)
  rw [NG4, po4] at p1
  rw [NG4, rf4] at p2
  rw [NG4, sw4] at p3
  rw [NG4, hb4] at p4
  have o1 := rof_in (γ := γ) 3 [(0, 1), (0, 2)] (by omega) (by omega) (by simp)
  have o2 := rof_in (γ := γ) 3 [(1, 2)] (by omega) (by omega) (by simp)
  have o3 := rof_in (γ := γ) 3 [(0, 1), (0, 2), (1, 2)] (by omega) (by omega) (by simp)
  rw [show ofTo 3 [(0, 1), (0, 2)] [((0 : Int), (1 : Int)), (0, 2)].length = [6, 0, 0] by decide +kernel] at o1
  rw [show ofTo 3 [(1, 2)] [((1 : Int), (2 : Int))].length = [0, 4, 0] by decide +kernel] at o2
  rw [show ofTo 3 [(0, 1), (0, 2), (1, 2)] [((0 : Int), (1 : Int)), (0, 2), (1, 2)].length = [6, 4, 0] by decide +kernel] at o3
  have k1 := kitRel_ok (γ := γ) 3 3 [6, 0, 0] [6, 0, 0] (by simp)
  have k2 := kitRel_ok (γ := γ) 3 3 [0, 4, 0] [0, 4, 0] (by simp)
  have k3 := kitRel_ok (γ := γ) 3 3 [6, 4, 0] [6, 4, 0] (by simp)
  simp only [and_self, decide_true] at k1 k2 k3
  refine Pure.go (ty := ty) ty_eq mo Try.func14 rfl Try.ntmps14 Try.results14 Try.call14 (by simp) fun P C CQ D W F E hF => ?_
  cbv
  repeat' (first
    | (refine E.c (SCalls.of_le (k3) ?_ ?_); (· (cbv; (try simp only [nc] at *); first | done | (simp; done) | (simp (disch := (first | omega | (simp only [tab_len, List.length_append, List.length_map, List.length_range, List.length_replicate, is_len, us_len, ps_len, evs_len, ids_len, evss_len, idss_len]; omega))) only [nc, nct, w64_of, Int.toNat_natCast, Int.toNat_zero, List.length_map, is_len, us_len, ps_len, is_get, us_get, ps_get, at_i, at_u, at_p0, at_p1, evs_len, ids_len, evss_len, idss_len, evs_get, ids_get, evss_get, idss_get, at_e0, at_e1, at_e2, at_e3, at_e4, at_d0, at_d1, at_l, at_agg, asL_vs, asI_i, asU_u, asB_b, bofZ, bof1, bof0, List.getD_cons_zero, List.getD_cons_succ, implies_true, and_true, true_and, forall_const]; first | done | omega | (refine ⟨?_, ?_⟩ <;> omega)) | (simp (disch := (first | omega | (simp only [tab_len, List.length_append, List.length_map, List.length_range, List.length_replicate, is_len, us_len, ps_len, evs_len, ids_len, evss_len, idss_len]; omega))) [nc, nct, w64_of, Int.toNat_natCast, Int.toNat_zero, List.length_map, is_len, us_len, ps_len, is_get, us_get, ps_get, at_i, at_u, at_p0, at_p1, evs_len, ids_len, evss_len, idss_len, evs_get, ids_get, evss_get, idss_get, at_e0, at_e1, at_e2, at_e3, at_e4, at_d0, at_d1, at_l, at_agg, asL_vs, asI_i, asU_u, asB_b, bofZ, bof1, bof0, List.getD_cons_zero, List.getD_cons_succ]; done))); cbv)
    | (refine E.c (SCalls.of_le (k2) ?_ ?_); (· (cbv; (try simp only [nc] at *); first | done | (simp; done) | (simp (disch := (first | omega | (simp only [tab_len, List.length_append, List.length_map, List.length_range, List.length_replicate, is_len, us_len, ps_len, evs_len, ids_len, evss_len, idss_len]; omega))) only [nc, nct, w64_of, Int.toNat_natCast, Int.toNat_zero, List.length_map, is_len, us_len, ps_len, is_get, us_get, ps_get, at_i, at_u, at_p0, at_p1, evs_len, ids_len, evss_len, idss_len, evs_get, ids_get, evss_get, idss_get, at_e0, at_e1, at_e2, at_e3, at_e4, at_d0, at_d1, at_l, at_agg, asL_vs, asI_i, asU_u, asB_b, bofZ, bof1, bof0, List.getD_cons_zero, List.getD_cons_succ, implies_true, and_true, true_and, forall_const]; first | done | omega | (refine ⟨?_, ?_⟩ <;> omega)) | (simp (disch := (first | omega | (simp only [tab_len, List.length_append, List.length_map, List.length_range, List.length_replicate, is_len, us_len, ps_len, evs_len, ids_len, evss_len, idss_len]; omega))) [nc, nct, w64_of, Int.toNat_natCast, Int.toNat_zero, List.length_map, is_len, us_len, ps_len, is_get, us_get, ps_get, at_i, at_u, at_p0, at_p1, evs_len, ids_len, evss_len, idss_len, evs_get, ids_get, evss_get, idss_get, at_e0, at_e1, at_e2, at_e3, at_e4, at_d0, at_d1, at_l, at_agg, asL_vs, asI_i, asU_u, asB_b, bofZ, bof1, bof0, List.getD_cons_zero, List.getD_cons_succ]; done))); cbv)
    | (refine E.c (SCalls.of_le (k1) ?_ ?_); (· (cbv; (try simp only [nc] at *); first | done | (simp; done) | (simp (disch := (first | omega | (simp only [tab_len, List.length_append, List.length_map, List.length_range, List.length_replicate, is_len, us_len, ps_len, evs_len, ids_len, evss_len, idss_len]; omega))) only [nc, nct, w64_of, Int.toNat_natCast, Int.toNat_zero, List.length_map, is_len, us_len, ps_len, is_get, us_get, ps_get, at_i, at_u, at_p0, at_p1, evs_len, ids_len, evss_len, idss_len, evs_get, ids_get, evss_get, idss_get, at_e0, at_e1, at_e2, at_e3, at_e4, at_d0, at_d1, at_l, at_agg, asL_vs, asI_i, asU_u, asB_b, bofZ, bof1, bof0, List.getD_cons_zero, List.getD_cons_succ, implies_true, and_true, true_and, forall_const]; first | done | omega | (refine ⟨?_, ?_⟩ <;> omega)) | (simp (disch := (first | omega | (simp only [tab_len, List.length_append, List.length_map, List.length_range, List.length_replicate, is_len, us_len, ps_len, evs_len, ids_len, evss_len, idss_len]; omega))) [nc, nct, w64_of, Int.toNat_natCast, Int.toNat_zero, List.length_map, is_len, us_len, ps_len, is_get, us_get, ps_get, at_i, at_u, at_p0, at_p1, evs_len, ids_len, evss_len, idss_len, evs_get, ids_get, evss_get, idss_get, at_e0, at_e1, at_e2, at_e3, at_e4, at_d0, at_d1, at_l, at_agg, asL_vs, asI_i, asU_u, asB_b, bofZ, bof1, bof0, List.getD_cons_zero, List.getD_cons_succ]; done))); cbv)
    | (refine E.c (SCalls.of_bare (o3) rfl ?_ ?_); (· (cbv; simp [rls, ps, us, is, LV.of]; done)); cbv)
    | (refine E.c (SCalls.of_le (o3) ?_ ?_); (· (cbv; simp [rls, ps, us, is, LV.of]; done)); cbv)
    | (refine E.c (SCalls.of_bare (o2) rfl ?_ ?_); (· (cbv; simp [rls, ps, us, is, LV.of]; done)); cbv)
    | (refine E.c (SCalls.of_le (o2) ?_ ?_); (· (cbv; simp [rls, ps, us, is, LV.of]; done)); cbv)
    | (refine E.c (SCalls.of_bare (o1) rfl ?_ ?_); (· (cbv; simp [rls, ps, us, is, LV.of]; done)); cbv)
    | (refine E.c (SCalls.of_le (o1) ?_ ?_); (· (cbv; simp [rls, ps, us, is, LV.of]; done)); cbv)
    | (refine E.c (SCalls.of_le (p4) ?_ ?_); (· (cbv; (try simp only [nc] at *); first | done | (simp; done) | (simp (disch := (first | omega | (simp only [tab_len, List.length_append, List.length_map, List.length_range, List.length_replicate, is_len, us_len, ps_len, evs_len, ids_len, evss_len, idss_len]; omega))) only [nc, nct, w64_of, Int.toNat_natCast, Int.toNat_zero, List.length_map, is_len, us_len, ps_len, is_get, us_get, ps_get, at_i, at_u, at_p0, at_p1, evs_len, ids_len, evss_len, idss_len, evs_get, ids_get, evss_get, idss_get, at_e0, at_e1, at_e2, at_e3, at_e4, at_d0, at_d1, at_l, at_agg, asL_vs, asI_i, asU_u, asB_b, bofZ, bof1, bof0, List.getD_cons_zero, List.getD_cons_succ, implies_true, and_true, true_and, forall_const]; first | done | omega | (refine ⟨?_, ?_⟩ <;> omega)) | (simp (disch := (first | omega | (simp only [tab_len, List.length_append, List.length_map, List.length_range, List.length_replicate, is_len, us_len, ps_len, evs_len, ids_len, evss_len, idss_len]; omega))) [nc, nct, w64_of, Int.toNat_natCast, Int.toNat_zero, List.length_map, is_len, us_len, ps_len, is_get, us_get, ps_get, at_i, at_u, at_p0, at_p1, evs_len, ids_len, evss_len, idss_len, evs_get, ids_get, evss_get, idss_get, at_e0, at_e1, at_e2, at_e3, at_e4, at_d0, at_d1, at_l, at_agg, asL_vs, asI_i, asU_u, asB_b, bofZ, bof1, bof0, List.getD_cons_zero, List.getD_cons_succ]; done))); cbv)
    | (refine E.c (SCalls.of_le (p3) ?_ ?_); (· (cbv; (try simp only [nc] at *); first | done | (simp; done) | (simp (disch := (first | omega | (simp only [tab_len, List.length_append, List.length_map, List.length_range, List.length_replicate, is_len, us_len, ps_len, evs_len, ids_len, evss_len, idss_len]; omega))) only [nc, nct, w64_of, Int.toNat_natCast, Int.toNat_zero, List.length_map, is_len, us_len, ps_len, is_get, us_get, ps_get, at_i, at_u, at_p0, at_p1, evs_len, ids_len, evss_len, idss_len, evs_get, ids_get, evss_get, idss_get, at_e0, at_e1, at_e2, at_e3, at_e4, at_d0, at_d1, at_l, at_agg, asL_vs, asI_i, asU_u, asB_b, bofZ, bof1, bof0, List.getD_cons_zero, List.getD_cons_succ, implies_true, and_true, true_and, forall_const]; first | done | omega | (refine ⟨?_, ?_⟩ <;> omega)) | (simp (disch := (first | omega | (simp only [tab_len, List.length_append, List.length_map, List.length_range, List.length_replicate, is_len, us_len, ps_len, evs_len, ids_len, evss_len, idss_len]; omega))) [nc, nct, w64_of, Int.toNat_natCast, Int.toNat_zero, List.length_map, is_len, us_len, ps_len, is_get, us_get, ps_get, at_i, at_u, at_p0, at_p1, evs_len, ids_len, evss_len, idss_len, evs_get, ids_get, evss_get, idss_get, at_e0, at_e1, at_e2, at_e3, at_e4, at_d0, at_d1, at_l, at_agg, asL_vs, asI_i, asU_u, asB_b, bofZ, bof1, bof0, List.getD_cons_zero, List.getD_cons_succ]; done))); cbv)
    | (refine E.c (SCalls.of_le (p2) ?_ ?_); (· (cbv; (try simp only [nc] at *); first | done | (simp; done) | (simp (disch := (first | omega | (simp only [tab_len, List.length_append, List.length_map, List.length_range, List.length_replicate, is_len, us_len, ps_len, evs_len, ids_len, evss_len, idss_len]; omega))) only [nc, nct, w64_of, Int.toNat_natCast, Int.toNat_zero, List.length_map, is_len, us_len, ps_len, is_get, us_get, ps_get, at_i, at_u, at_p0, at_p1, evs_len, ids_len, evss_len, idss_len, evs_get, ids_get, evss_get, idss_get, at_e0, at_e1, at_e2, at_e3, at_e4, at_d0, at_d1, at_l, at_agg, asL_vs, asI_i, asU_u, asB_b, bofZ, bof1, bof0, List.getD_cons_zero, List.getD_cons_succ, implies_true, and_true, true_and, forall_const]; first | done | omega | (refine ⟨?_, ?_⟩ <;> omega)) | (simp (disch := (first | omega | (simp only [tab_len, List.length_append, List.length_map, List.length_range, List.length_replicate, is_len, us_len, ps_len, evs_len, ids_len, evss_len, idss_len]; omega))) [nc, nct, w64_of, Int.toNat_natCast, Int.toNat_zero, List.length_map, is_len, us_len, ps_len, is_get, us_get, ps_get, at_i, at_u, at_p0, at_p1, evs_len, ids_len, evss_len, idss_len, evs_get, ids_get, evss_get, idss_get, at_e0, at_e1, at_e2, at_e3, at_e4, at_d0, at_d1, at_l, at_agg, asL_vs, asI_i, asU_u, asB_b, bofZ, bof1, bof0, List.getD_cons_zero, List.getD_cons_succ]; done))); cbv)
    | (refine E.c (SCalls.of_le (p1) ?_ ?_); (· (cbv; (try simp only [nc] at *); first | done | (simp; done) | (simp (disch := (first | omega | (simp only [tab_len, List.length_append, List.length_map, List.length_range, List.length_replicate, is_len, us_len, ps_len, evs_len, ids_len, evss_len, idss_len]; omega))) only [nc, nct, w64_of, Int.toNat_natCast, Int.toNat_zero, List.length_map, is_len, us_len, ps_len, is_get, us_get, ps_get, at_i, at_u, at_p0, at_p1, evs_len, ids_len, evss_len, idss_len, evs_get, ids_get, evss_get, idss_get, at_e0, at_e1, at_e2, at_e3, at_e4, at_d0, at_d1, at_l, at_agg, asL_vs, asI_i, asU_u, asB_b, bofZ, bof1, bof0, List.getD_cons_zero, List.getD_cons_succ, implies_true, and_true, true_and, forall_const]; first | done | omega | (refine ⟨?_, ?_⟩ <;> omega)) | (simp (disch := (first | omega | (simp only [tab_len, List.length_append, List.length_map, List.length_range, List.length_replicate, is_len, us_len, ps_len, evs_len, ids_len, evss_len, idss_len]; omega))) [nc, nct, w64_of, Int.toNat_natCast, Int.toNat_zero, List.length_map, is_len, us_len, ps_len, is_get, us_get, ps_get, at_i, at_u, at_p0, at_p1, evs_len, ids_len, evss_len, idss_len, evs_get, ids_get, evss_get, idss_get, at_e0, at_e1, at_e2, at_e3, at_e4, at_d0, at_d1, at_l, at_agg, asL_vs, asI_i, asU_u, asB_b, bofZ, bof1, bof0, List.getD_cons_zero, List.getD_cons_succ]; done))); cbv)
    | (refine E.c (SCalls.of_le (small_ok 4) ?_ ?_); (· (cbv; (try simp only [nc] at *); first | done | (simp; done) | (simp (disch := (first | omega | (simp only [tab_len, List.length_append, List.length_map, List.length_range, List.length_replicate, is_len, us_len, ps_len, evs_len, ids_len, evss_len, idss_len]; omega))) only [nc, nct, w64_of, Int.toNat_natCast, Int.toNat_zero, List.length_map, is_len, us_len, ps_len, is_get, us_get, ps_get, at_i, at_u, at_p0, at_p1, evs_len, ids_len, evss_len, idss_len, evs_get, ids_get, evss_get, idss_get, at_e0, at_e1, at_e2, at_e3, at_e4, at_d0, at_d1, at_l, at_agg, asL_vs, asI_i, asU_u, asB_b, bofZ, bof1, bof0, List.getD_cons_zero, List.getD_cons_succ, implies_true, and_true, true_and, forall_const]; first | done | omega | (refine ⟨?_, ?_⟩ <;> omega)) | (simp (disch := (first | omega | (simp only [tab_len, List.length_append, List.length_map, List.length_range, List.length_replicate, is_len, us_len, ps_len, evs_len, ids_len, evss_len, idss_len]; omega))) [nc, nct, w64_of, Int.toNat_natCast, Int.toNat_zero, List.length_map, is_len, us_len, ps_len, is_get, us_get, ps_get, at_i, at_u, at_p0, at_p1, evs_len, ids_len, evss_len, idss_len, evs_get, ids_get, evss_get, idss_get, at_e0, at_e1, at_e2, at_e3, at_e4, at_d0, at_d1, at_l, at_agg, asL_vs, asI_i, asU_u, asB_b, bofZ, bof1, bof0, List.getD_cons_zero, List.getD_cons_succ]; done))); cbv)
    | (refine ⟨fun _ h_s => ?_, fun _ h_s => ?_⟩ <;> (cbv; (try simp only [nc] at *); try simp (disch := (first | omega | (simp only [tab_len, List.length_append, List.length_map, List.length_range, List.length_replicate, is_len, us_len, ps_len, evs_len, ids_len, evss_len, idss_len]; omega))) only [nc, nct, w64_of, Int.toNat_natCast, Int.toNat_zero, List.length_map, is_len, us_len, ps_len, is_get, us_get, ps_get, at_i, at_u, at_p0, at_p1, evs_len, ids_len, evss_len, idss_len, evs_get, ids_get, evss_get, idss_get, at_e0, at_e1, at_e2, at_e3, at_e4, at_d0, at_d1, at_l, at_agg, asL_vs, asI_i, asU_u, asB_b, bofZ, bof1, bof0, List.getD_cons_zero, List.getD_cons_succ, reduceCtorEq, Bool.not_true, Bool.not_false, decide_eq_true_eq, decide_eq_false_iff_not, Bool.not_eq_true, Bool.not_eq_false, Bool.not_eq_true', Bool.not_eq_false', ne_eq, Decidable.not_not, Int.not_le, Int.not_lt, beq_iff_eq] at h_s))
    | (refine hF ?_; intro _; clear hF)
    | (refine hF ?_; cbv; clear hF)
    | (refine ⟨fun _ => ?_, ?_⟩; (· ((try simp only [nc] at *); first | done | omega | exact ⟨by omega, rfl⟩ | (simp (disch := (first | omega | (simp only [tab_len, List.length_append, List.length_map, List.length_range, List.length_replicate, is_len, us_len, ps_len, evs_len, ids_len, evss_len, idss_len]; omega))) only [nc, nct, w64_of, Int.toNat_natCast, Int.toNat_zero, List.length_map, is_len, us_len, ps_len, is_get, us_get, ps_get, at_i, at_u, at_p0, at_p1, evs_len, ids_len, evss_len, idss_len, evs_get, ids_get, evss_get, idss_get, at_e0, at_e1, at_e2, at_e3, at_e4, at_d0, at_d1, at_l, at_agg, asL_vs, asI_i, asU_u, asB_b, bofZ, bof1, bof0, List.getD_cons_zero, List.getD_cons_succ]; first | done | omega | rfl | exact ⟨by omega, rfl⟩ | (simp; done) | (simp; omega)) | (intros; trivial))); (try (simp only [nc] at *)); (try simp (disch := (first | omega | (simp only [tab_len, List.length_append, List.length_map, List.length_range, List.length_replicate, is_len, us_len, ps_len, evs_len, ids_len, evss_len, idss_len]; omega))) only [nc, nct, w64_of, Int.toNat_natCast, Int.toNat_zero, List.length_map, is_len, us_len, ps_len, is_get, us_get, ps_get, at_i, at_u, at_p0, at_p1, evs_len, ids_len, evss_len, idss_len, evs_get, ids_get, evss_get, idss_get, at_e0, at_e1, at_e2, at_e3, at_e4, at_d0, at_d1, at_l, at_agg, asL_vs, asI_i, asU_u, asB_b, bofZ, bof1, bof0, List.getD_cons_zero, List.getD_cons_succ]); (try cbv))
    | fail
  )
  all_goals rfl
def gI : Gr := ⟨[1], [], [], []⟩
theorem gI_no : ¬ GOk gI := by decide +kernel
theorem deriveNames_ok : Pure Try.prog γ false 7 [] (.b fun _ => true) := by
  have a1 := dAll_no (γ := γ) gI (by refine ⟨by simp [gI], by simp [gI], by simp [gI], by simp [gI], ?_, ?_, ?_⟩ <;> simp [gI]) gI_no
  have p1 := dCo_ok (γ := γ) (gS 4) (rdS 4)
  have p2 := dFr_ok (γ := γ) (gS 4) (rdS 4)
  have p3 := dSw_ok (γ := γ) (gS 2) (rdS 2)
  rw [NG4, co4] at p1
  rw [NG4, fr4] at p2
  rw [NG1, sw1] at p3
  have q1 := dReads_ok (γ := γ) (gS 4) (rdS 4)
  have q2 := dWrites_ok (γ := γ) (gS 4) (rdS 4)
  have q3 := dOf_ok (γ := γ) (gS 4) (rdS 4) 0
  have q4 := dLeast_ok (γ := γ) (gS 4) (rdS 4) 4
  have q5 := dSequence_ok (γ := γ) (gS 4) (rdS 4) 1
  rw [rd4] at q1
  rw [wr4] at q2
  rw [of4] at q3
  rw [le4] at q4
  rw [sq4] at q5
  have o1 := rof_in (γ := γ) 3 [(0, 1)] (by omega) (by omega) (by simp)
  rw [show ofTo 3 [(0, 1)] [((0 : Int), (1 : Int))].length = [2, 0, 0] by decide +kernel] at o1
  have o2 := rnone_ok (γ := γ) 3 (by omega)
  have k1 := kitRel_ok (γ := γ) 3 3 [2, 0, 0] [2, 0, 0] (by simp)
  have k2 := kitRel_ok (γ := γ) 3 3 [0, 0, 0] [0, 0, 0] (by simp)
  simp only [and_self, decide_true] at k1 k2
  refine Pure.go (ty := ty) ty_eq mo Try.func7 rfl Try.ntmps7 Try.results7 Try.call7 (by simp) fun P C CQ D W F E hF => ?_
  cbv
  repeat' (first
    | (refine E.c (SCalls.of_le (small_ok 4) ?_ ?_); (· (cbv; (try simp only [nc] at *); first | done | (simp; done) | (simp (disch := (first | omega | (simp only [tab_len, List.length_append, List.length_map, List.length_range, List.length_replicate, is_len, us_len, ps_len, evs_len, ids_len, evss_len, idss_len]; omega))) only [nc, nct, w64_of, Int.toNat_natCast, Int.toNat_zero, List.length_map, is_len, us_len, ps_len, is_get, us_get, ps_get, at_i, at_u, at_p0, at_p1, evs_len, ids_len, evss_len, idss_len, evs_get, ids_get, evss_get, idss_get, at_e0, at_e1, at_e2, at_e3, at_e4, at_d0, at_d1, at_l, at_agg, asL_vs, asI_i, asU_u, asB_b, bofZ, bof1, bof0, List.getD_cons_zero, List.getD_cons_succ, implies_true, and_true, true_and, forall_const]; first | done | omega | (refine ⟨?_, ?_⟩ <;> omega)) | (simp (disch := (first | omega | (simp only [tab_len, List.length_append, List.length_map, List.length_range, List.length_replicate, is_len, us_len, ps_len, evs_len, ids_len, evss_len, idss_len]; omega))) [nc, nct, w64_of, Int.toNat_natCast, Int.toNat_zero, List.length_map, is_len, us_len, ps_len, is_get, us_get, ps_get, at_i, at_u, at_p0, at_p1, evs_len, ids_len, evss_len, idss_len, evs_get, ids_get, evss_get, idss_get, at_e0, at_e1, at_e2, at_e3, at_e4, at_d0, at_d1, at_l, at_agg, asL_vs, asI_i, asU_u, asB_b, bofZ, bof1, bof0, List.getD_cons_zero, List.getD_cons_succ]; done))); cbv)
    | (refine ⟨fun _ h_s => ?_, fun _ h_s => ?_⟩ <;> (cbv; (try simp only [nc] at *); try simp (disch := (first | omega | (simp only [tab_len, List.length_append, List.length_map, List.length_range, List.length_replicate, is_len, us_len, ps_len, evs_len, ids_len, evss_len, idss_len]; omega))) only [nc, nct, w64_of, Int.toNat_natCast, Int.toNat_zero, List.length_map, is_len, us_len, ps_len, is_get, us_get, ps_get, at_i, at_u, at_p0, at_p1, evs_len, ids_len, evss_len, idss_len, evs_get, ids_get, evss_get, idss_get, at_e0, at_e1, at_e2, at_e3, at_e4, at_d0, at_d1, at_l, at_agg, asL_vs, asI_i, asU_u, asB_b, bofZ, bof1, bof0, List.getD_cons_zero, List.getD_cons_succ, reduceCtorEq, Bool.not_true, Bool.not_false, decide_eq_true_eq, decide_eq_false_iff_not, Bool.not_eq_true, Bool.not_eq_false, Bool.not_eq_true', Bool.not_eq_false', ne_eq, Decidable.not_not, Int.not_le, Int.not_lt, beq_iff_eq] at h_s))
    | (refine hF ?_; intro _; clear hF)
    | (refine hF ?_; cbv; clear hF)
    | (refine ⟨fun _ => ?_, ?_⟩; (· ((try simp only [nc] at *); first | done | omega | exact ⟨by omega, rfl⟩ | (simp (disch := (first | omega | (simp only [tab_len, List.length_append, List.length_map, List.length_range, List.length_replicate, is_len, us_len, ps_len, evs_len, ids_len, evss_len, idss_len]; omega))) only [nc, nct, w64_of, Int.toNat_natCast, Int.toNat_zero, List.length_map, is_len, us_len, ps_len, is_get, us_get, ps_get, at_i, at_u, at_p0, at_p1, evs_len, ids_len, evss_len, idss_len, evs_get, ids_get, evss_get, idss_get, at_e0, at_e1, at_e2, at_e3, at_e4, at_d0, at_d1, at_l, at_agg, asL_vs, asI_i, asU_u, asB_b, bofZ, bof1, bof0, List.getD_cons_zero, List.getD_cons_succ]; first | done | omega | rfl | exact ⟨by omega, rfl⟩ | (simp; done) | (simp; omega)) | (intros; trivial))); (try (simp only [nc] at *)); (try simp (disch := (first | omega | (simp only [tab_len, List.length_append, List.length_map, List.length_range, List.length_replicate, is_len, us_len, ps_len, evs_len, ids_len, evss_len, idss_len]; omega))) only [nc, nct, w64_of, Int.toNat_natCast, Int.toNat_zero, List.length_map, is_len, us_len, ps_len, is_get, us_get, ps_get, at_i, at_u, at_p0, at_p1, evs_len, ids_len, evss_len, idss_len, evs_get, ids_get, evss_get, idss_get, at_e0, at_e1, at_e2, at_e3, at_e4, at_d0, at_d1, at_l, at_agg, asL_vs, asI_i, asU_u, asB_b, bofZ, bof1, bof0, List.getD_cons_zero, List.getD_cons_succ]); (try cbv))
    | fail
  )
  refine E.c (SCalls.of_le (a1) ?_ ?_)
  · cbv
    simp [gI, is, evss, idss, LV.of, LV.l, setAll]
  cbv
  repeat' (first
    | (refine E.c (SCalls.of_le (lives15_ok) ?_ ?_); (· (cbv; (try simp only [nc] at *); first | done | (simp; done) | (simp (disch := (first | omega | (simp only [tab_len, List.length_append, List.length_map, List.length_range, List.length_replicate, is_len, us_len, ps_len, evs_len, ids_len, evss_len, idss_len]; omega))) only [nc, nct, w64_of, Int.toNat_natCast, Int.toNat_zero, List.length_map, is_len, us_len, ps_len, is_get, us_get, ps_get, at_i, at_u, at_p0, at_p1, evs_len, ids_len, evss_len, idss_len, evs_get, ids_get, evss_get, idss_get, at_e0, at_e1, at_e2, at_e3, at_e4, at_d0, at_d1, at_l, at_agg, asL_vs, asI_i, asU_u, asB_b, bofZ, bof1, bof0, List.getD_cons_zero, List.getD_cons_succ, implies_true, and_true, true_and, forall_const]; first | done | omega | (refine ⟨?_, ?_⟩ <;> omega)) | (simp (disch := (first | omega | (simp only [tab_len, List.length_append, List.length_map, List.length_range, List.length_replicate, is_len, us_len, ps_len, evs_len, ids_len, evss_len, idss_len]; omega))) [nc, nct, w64_of, Int.toNat_natCast, Int.toNat_zero, List.length_map, is_len, us_len, ps_len, is_get, us_get, ps_get, at_i, at_u, at_p0, at_p1, evs_len, ids_len, evss_len, idss_len, evs_get, ids_get, evss_get, idss_get, at_e0, at_e1, at_e2, at_e3, at_e4, at_d0, at_d1, at_l, at_agg, asL_vs, asI_i, asU_u, asB_b, bofZ, bof1, bof0, List.getD_cons_zero, List.getD_cons_succ]; done))); cbv)
    | (refine E.c (SCalls.of_le (k2) ?_ ?_); (· (cbv; (try simp only [nc] at *); first | done | (simp; done) | (simp (disch := (first | omega | (simp only [tab_len, List.length_append, List.length_map, List.length_range, List.length_replicate, is_len, us_len, ps_len, evs_len, ids_len, evss_len, idss_len]; omega))) only [nc, nct, w64_of, Int.toNat_natCast, Int.toNat_zero, List.length_map, is_len, us_len, ps_len, is_get, us_get, ps_get, at_i, at_u, at_p0, at_p1, evs_len, ids_len, evss_len, idss_len, evs_get, ids_get, evss_get, idss_get, at_e0, at_e1, at_e2, at_e3, at_e4, at_d0, at_d1, at_l, at_agg, asL_vs, asI_i, asU_u, asB_b, bofZ, bof1, bof0, List.getD_cons_zero, List.getD_cons_succ, implies_true, and_true, true_and, forall_const]; first | done | omega | (refine ⟨?_, ?_⟩ <;> omega)) | (simp (disch := (first | omega | (simp only [tab_len, List.length_append, List.length_map, List.length_range, List.length_replicate, is_len, us_len, ps_len, evs_len, ids_len, evss_len, idss_len]; omega))) [nc, nct, w64_of, Int.toNat_natCast, Int.toNat_zero, List.length_map, is_len, us_len, ps_len, is_get, us_get, ps_get, at_i, at_u, at_p0, at_p1, evs_len, ids_len, evss_len, idss_len, evs_get, ids_get, evss_get, idss_get, at_e0, at_e1, at_e2, at_e3, at_e4, at_d0, at_d1, at_l, at_agg, asL_vs, asI_i, asU_u, asB_b, bofZ, bof1, bof0, List.getD_cons_zero, List.getD_cons_succ]; done))); cbv)
    | (refine E.c (SCalls.of_le (k1) ?_ ?_); (· (cbv; (try simp only [nc] at *); first | done | (simp; done) | (simp (disch := (first | omega | (simp only [tab_len, List.length_append, List.length_map, List.length_range, List.length_replicate, is_len, us_len, ps_len, evs_len, ids_len, evss_len, idss_len]; omega))) only [nc, nct, w64_of, Int.toNat_natCast, Int.toNat_zero, List.length_map, is_len, us_len, ps_len, is_get, us_get, ps_get, at_i, at_u, at_p0, at_p1, evs_len, ids_len, evss_len, idss_len, evs_get, ids_get, evss_get, idss_get, at_e0, at_e1, at_e2, at_e3, at_e4, at_d0, at_d1, at_l, at_agg, asL_vs, asI_i, asU_u, asB_b, bofZ, bof1, bof0, List.getD_cons_zero, List.getD_cons_succ, implies_true, and_true, true_and, forall_const]; first | done | omega | (refine ⟨?_, ?_⟩ <;> omega)) | (simp (disch := (first | omega | (simp only [tab_len, List.length_append, List.length_map, List.length_range, List.length_replicate, is_len, us_len, ps_len, evs_len, ids_len, evss_len, idss_len]; omega))) [nc, nct, w64_of, Int.toNat_natCast, Int.toNat_zero, List.length_map, is_len, us_len, ps_len, is_get, us_get, ps_get, at_i, at_u, at_p0, at_p1, evs_len, ids_len, evss_len, idss_len, evs_get, ids_get, evss_get, idss_get, at_e0, at_e1, at_e2, at_e3, at_e4, at_d0, at_d1, at_l, at_agg, asL_vs, asI_i, asU_u, asB_b, bofZ, bof1, bof0, List.getD_cons_zero, List.getD_cons_succ]; done))); cbv)
    | (refine E.c (SCalls.of_le (o2) ?_ ?_); (· (cbv; (try simp only [nc] at *); first | done | (simp; done) | (simp (disch := (first | omega | (simp only [tab_len, List.length_append, List.length_map, List.length_range, List.length_replicate, is_len, us_len, ps_len, evs_len, ids_len, evss_len, idss_len]; omega))) only [nc, nct, w64_of, Int.toNat_natCast, Int.toNat_zero, List.length_map, is_len, us_len, ps_len, is_get, us_get, ps_get, at_i, at_u, at_p0, at_p1, evs_len, ids_len, evss_len, idss_len, evs_get, ids_get, evss_get, idss_get, at_e0, at_e1, at_e2, at_e3, at_e4, at_d0, at_d1, at_l, at_agg, asL_vs, asI_i, asU_u, asB_b, bofZ, bof1, bof0, List.getD_cons_zero, List.getD_cons_succ, implies_true, and_true, true_and, forall_const]; first | done | omega | (refine ⟨?_, ?_⟩ <;> omega)) | (simp (disch := (first | omega | (simp only [tab_len, List.length_append, List.length_map, List.length_range, List.length_replicate, is_len, us_len, ps_len, evs_len, ids_len, evss_len, idss_len]; omega))) [nc, nct, w64_of, Int.toNat_natCast, Int.toNat_zero, List.length_map, is_len, us_len, ps_len, is_get, us_get, ps_get, at_i, at_u, at_p0, at_p1, evs_len, ids_len, evss_len, idss_len, evs_get, ids_get, evss_get, idss_get, at_e0, at_e1, at_e2, at_e3, at_e4, at_d0, at_d1, at_l, at_agg, asL_vs, asI_i, asU_u, asB_b, bofZ, bof1, bof0, List.getD_cons_zero, List.getD_cons_succ]; done))); cbv)
    | (refine E.c (SCalls.of_bare (o1) rfl ?_ ?_); (· (cbv; simp [rls, ps, us, is, LV.of]; done)); cbv)
    | (refine E.c (SCalls.of_le (o1) ?_ ?_); (· (cbv; simp [rls, ps, us, is, LV.of]; done)); cbv)
    | (refine E.c (SCalls.of_le (q5) ?_ ?_); (· (cbv; (try simp only [nc] at *); first | done | (simp; done) | (simp (disch := (first | omega | (simp only [tab_len, List.length_append, List.length_map, List.length_range, List.length_replicate, is_len, us_len, ps_len, evs_len, ids_len, evss_len, idss_len]; omega))) only [nc, nct, w64_of, Int.toNat_natCast, Int.toNat_zero, List.length_map, is_len, us_len, ps_len, is_get, us_get, ps_get, at_i, at_u, at_p0, at_p1, evs_len, ids_len, evss_len, idss_len, evs_get, ids_get, evss_get, idss_get, at_e0, at_e1, at_e2, at_e3, at_e4, at_d0, at_d1, at_l, at_agg, asL_vs, asI_i, asU_u, asB_b, bofZ, bof1, bof0, List.getD_cons_zero, List.getD_cons_succ, implies_true, and_true, true_and, forall_const]; first | done | omega | (refine ⟨?_, ?_⟩ <;> omega)) | (simp (disch := (first | omega | (simp only [tab_len, List.length_append, List.length_map, List.length_range, List.length_replicate, is_len, us_len, ps_len, evs_len, ids_len, evss_len, idss_len]; omega))) [nc, nct, w64_of, Int.toNat_natCast, Int.toNat_zero, List.length_map, is_len, us_len, ps_len, is_get, us_get, ps_get, at_i, at_u, at_p0, at_p1, evs_len, ids_len, evss_len, idss_len, evs_get, ids_get, evss_get, idss_get, at_e0, at_e1, at_e2, at_e3, at_e4, at_d0, at_d1, at_l, at_agg, asL_vs, asI_i, asU_u, asB_b, bofZ, bof1, bof0, List.getD_cons_zero, List.getD_cons_succ]; done))); cbv)
    | (refine E.c (SCalls.of_le (q4) ?_ ?_); (· (cbv; (try simp only [nc] at *); first | done | (simp; done) | (simp (disch := (first | omega | (simp only [tab_len, List.length_append, List.length_map, List.length_range, List.length_replicate, is_len, us_len, ps_len, evs_len, ids_len, evss_len, idss_len]; omega))) only [nc, nct, w64_of, Int.toNat_natCast, Int.toNat_zero, List.length_map, is_len, us_len, ps_len, is_get, us_get, ps_get, at_i, at_u, at_p0, at_p1, evs_len, ids_len, evss_len, idss_len, evs_get, ids_get, evss_get, idss_get, at_e0, at_e1, at_e2, at_e3, at_e4, at_d0, at_d1, at_l, at_agg, asL_vs, asI_i, asU_u, asB_b, bofZ, bof1, bof0, List.getD_cons_zero, List.getD_cons_succ, implies_true, and_true, true_and, forall_const]; first | done | omega | (refine ⟨?_, ?_⟩ <;> omega)) | (simp (disch := (first | omega | (simp only [tab_len, List.length_append, List.length_map, List.length_range, List.length_replicate, is_len, us_len, ps_len, evs_len, ids_len, evss_len, idss_len]; omega))) [nc, nct, w64_of, Int.toNat_natCast, Int.toNat_zero, List.length_map, is_len, us_len, ps_len, is_get, us_get, ps_get, at_i, at_u, at_p0, at_p1, evs_len, ids_len, evss_len, idss_len, evs_get, ids_get, evss_get, idss_get, at_e0, at_e1, at_e2, at_e3, at_e4, at_d0, at_d1, at_l, at_agg, asL_vs, asI_i, asU_u, asB_b, bofZ, bof1, bof0, List.getD_cons_zero, List.getD_cons_succ]; done))); cbv)
    | (refine E.c (SCalls.of_le (q3) ?_ ?_); (· (cbv; (try simp only [nc] at *); first | done | (simp; done) | (simp (disch := (first | omega | (simp only [tab_len, List.length_append, List.length_map, List.length_range, List.length_replicate, is_len, us_len, ps_len, evs_len, ids_len, evss_len, idss_len]; omega))) only [nc, nct, w64_of, Int.toNat_natCast, Int.toNat_zero, List.length_map, is_len, us_len, ps_len, is_get, us_get, ps_get, at_i, at_u, at_p0, at_p1, evs_len, ids_len, evss_len, idss_len, evs_get, ids_get, evss_get, idss_get, at_e0, at_e1, at_e2, at_e3, at_e4, at_d0, at_d1, at_l, at_agg, asL_vs, asI_i, asU_u, asB_b, bofZ, bof1, bof0, List.getD_cons_zero, List.getD_cons_succ, implies_true, and_true, true_and, forall_const]; first | done | omega | (refine ⟨?_, ?_⟩ <;> omega)) | (simp (disch := (first | omega | (simp only [tab_len, List.length_append, List.length_map, List.length_range, List.length_replicate, is_len, us_len, ps_len, evs_len, ids_len, evss_len, idss_len]; omega))) [nc, nct, w64_of, Int.toNat_natCast, Int.toNat_zero, List.length_map, is_len, us_len, ps_len, is_get, us_get, ps_get, at_i, at_u, at_p0, at_p1, evs_len, ids_len, evss_len, idss_len, evs_get, ids_get, evss_get, idss_get, at_e0, at_e1, at_e2, at_e3, at_e4, at_d0, at_d1, at_l, at_agg, asL_vs, asI_i, asU_u, asB_b, bofZ, bof1, bof0, List.getD_cons_zero, List.getD_cons_succ]; done))); cbv)
    | (refine E.c (SCalls.of_le (q2) ?_ ?_); (· (cbv; (try simp only [nc] at *); first | done | (simp; done) | (simp (disch := (first | omega | (simp only [tab_len, List.length_append, List.length_map, List.length_range, List.length_replicate, is_len, us_len, ps_len, evs_len, ids_len, evss_len, idss_len]; omega))) only [nc, nct, w64_of, Int.toNat_natCast, Int.toNat_zero, List.length_map, is_len, us_len, ps_len, is_get, us_get, ps_get, at_i, at_u, at_p0, at_p1, evs_len, ids_len, evss_len, idss_len, evs_get, ids_get, evss_get, idss_get, at_e0, at_e1, at_e2, at_e3, at_e4, at_d0, at_d1, at_l, at_agg, asL_vs, asI_i, asU_u, asB_b, bofZ, bof1, bof0, List.getD_cons_zero, List.getD_cons_succ, implies_true, and_true, true_and, forall_const]; first | done | omega | (refine ⟨?_, ?_⟩ <;> omega)) | (simp (disch := (first | omega | (simp only [tab_len, List.length_append, List.length_map, List.length_range, List.length_replicate, is_len, us_len, ps_len, evs_len, ids_len, evss_len, idss_len]; omega))) [nc, nct, w64_of, Int.toNat_natCast, Int.toNat_zero, List.length_map, is_len, us_len, ps_len, is_get, us_get, ps_get, at_i, at_u, at_p0, at_p1, evs_len, ids_len, evss_len, idss_len, evs_get, ids_get, evss_get, idss_get, at_e0, at_e1, at_e2, at_e3, at_e4, at_d0, at_d1, at_l, at_agg, asL_vs, asI_i, asU_u, asB_b, bofZ, bof1, bof0, List.getD_cons_zero, List.getD_cons_succ]; done))); cbv)
    | (refine E.c (SCalls.of_le (q1) ?_ ?_); (· (cbv; (try simp only [nc] at *); first | done | (simp; done) | (simp (disch := (first | omega | (simp only [tab_len, List.length_append, List.length_map, List.length_range, List.length_replicate, is_len, us_len, ps_len, evs_len, ids_len, evss_len, idss_len]; omega))) only [nc, nct, w64_of, Int.toNat_natCast, Int.toNat_zero, List.length_map, is_len, us_len, ps_len, is_get, us_get, ps_get, at_i, at_u, at_p0, at_p1, evs_len, ids_len, evss_len, idss_len, evs_get, ids_get, evss_get, idss_get, at_e0, at_e1, at_e2, at_e3, at_e4, at_d0, at_d1, at_l, at_agg, asL_vs, asI_i, asU_u, asB_b, bofZ, bof1, bof0, List.getD_cons_zero, List.getD_cons_succ, implies_true, and_true, true_and, forall_const]; first | done | omega | (refine ⟨?_, ?_⟩ <;> omega)) | (simp (disch := (first | omega | (simp only [tab_len, List.length_append, List.length_map, List.length_range, List.length_replicate, is_len, us_len, ps_len, evs_len, ids_len, evss_len, idss_len]; omega))) [nc, nct, w64_of, Int.toNat_natCast, Int.toNat_zero, List.length_map, is_len, us_len, ps_len, is_get, us_get, ps_get, at_i, at_u, at_p0, at_p1, evs_len, ids_len, evss_len, idss_len, evs_get, ids_get, evss_get, idss_get, at_e0, at_e1, at_e2, at_e3, at_e4, at_d0, at_d1, at_l, at_agg, asL_vs, asI_i, asU_u, asB_b, bofZ, bof1, bof0, List.getD_cons_zero, List.getD_cons_succ]; done))); cbv)
    | (refine E.c (SCalls.of_le (p3) ?_ ?_); (· (cbv; (try simp only [nc] at *); first | done | (simp; done) | (simp (disch := (first | omega | (simp only [tab_len, List.length_append, List.length_map, List.length_range, List.length_replicate, is_len, us_len, ps_len, evs_len, ids_len, evss_len, idss_len]; omega))) only [nc, nct, w64_of, Int.toNat_natCast, Int.toNat_zero, List.length_map, is_len, us_len, ps_len, is_get, us_get, ps_get, at_i, at_u, at_p0, at_p1, evs_len, ids_len, evss_len, idss_len, evs_get, ids_get, evss_get, idss_get, at_e0, at_e1, at_e2, at_e3, at_e4, at_d0, at_d1, at_l, at_agg, asL_vs, asI_i, asU_u, asB_b, bofZ, bof1, bof0, List.getD_cons_zero, List.getD_cons_succ, implies_true, and_true, true_and, forall_const]; first | done | omega | (refine ⟨?_, ?_⟩ <;> omega)) | (simp (disch := (first | omega | (simp only [tab_len, List.length_append, List.length_map, List.length_range, List.length_replicate, is_len, us_len, ps_len, evs_len, ids_len, evss_len, idss_len]; omega))) [nc, nct, w64_of, Int.toNat_natCast, Int.toNat_zero, List.length_map, is_len, us_len, ps_len, is_get, us_get, ps_get, at_i, at_u, at_p0, at_p1, evs_len, ids_len, evss_len, idss_len, evs_get, ids_get, evss_get, idss_get, at_e0, at_e1, at_e2, at_e3, at_e4, at_d0, at_d1, at_l, at_agg, asL_vs, asI_i, asU_u, asB_b, bofZ, bof1, bof0, List.getD_cons_zero, List.getD_cons_succ]; done))); cbv)
    | (refine E.c (SCalls.of_le (p2) ?_ ?_); (· (cbv; (try simp only [nc] at *); first | done | (simp; done) | (simp (disch := (first | omega | (simp only [tab_len, List.length_append, List.length_map, List.length_range, List.length_replicate, is_len, us_len, ps_len, evs_len, ids_len, evss_len, idss_len]; omega))) only [nc, nct, w64_of, Int.toNat_natCast, Int.toNat_zero, List.length_map, is_len, us_len, ps_len, is_get, us_get, ps_get, at_i, at_u, at_p0, at_p1, evs_len, ids_len, evss_len, idss_len, evs_get, ids_get, evss_get, idss_get, at_e0, at_e1, at_e2, at_e3, at_e4, at_d0, at_d1, at_l, at_agg, asL_vs, asI_i, asU_u, asB_b, bofZ, bof1, bof0, List.getD_cons_zero, List.getD_cons_succ, implies_true, and_true, true_and, forall_const]; first | done | omega | (refine ⟨?_, ?_⟩ <;> omega)) | (simp (disch := (first | omega | (simp only [tab_len, List.length_append, List.length_map, List.length_range, List.length_replicate, is_len, us_len, ps_len, evs_len, ids_len, evss_len, idss_len]; omega))) [nc, nct, w64_of, Int.toNat_natCast, Int.toNat_zero, List.length_map, is_len, us_len, ps_len, is_get, us_get, ps_get, at_i, at_u, at_p0, at_p1, evs_len, ids_len, evss_len, idss_len, evs_get, ids_get, evss_get, idss_get, at_e0, at_e1, at_e2, at_e3, at_e4, at_d0, at_d1, at_l, at_agg, asL_vs, asI_i, asU_u, asB_b, bofZ, bof1, bof0, List.getD_cons_zero, List.getD_cons_succ]; done))); cbv)
    | (refine E.c (SCalls.of_le (p1) ?_ ?_); (· (cbv; (try simp only [nc] at *); first | done | (simp; done) | (simp (disch := (first | omega | (simp only [tab_len, List.length_append, List.length_map, List.length_range, List.length_replicate, is_len, us_len, ps_len, evs_len, ids_len, evss_len, idss_len]; omega))) only [nc, nct, w64_of, Int.toNat_natCast, Int.toNat_zero, List.length_map, is_len, us_len, ps_len, is_get, us_get, ps_get, at_i, at_u, at_p0, at_p1, evs_len, ids_len, evss_len, idss_len, evs_get, ids_get, evss_get, idss_get, at_e0, at_e1, at_e2, at_e3, at_e4, at_d0, at_d1, at_l, at_agg, asL_vs, asI_i, asU_u, asB_b, bofZ, bof1, bof0, List.getD_cons_zero, List.getD_cons_succ, implies_true, and_true, true_and, forall_const]; first | done | omega | (refine ⟨?_, ?_⟩ <;> omega)) | (simp (disch := (first | omega | (simp only [tab_len, List.length_append, List.length_map, List.length_range, List.length_replicate, is_len, us_len, ps_len, evs_len, ids_len, evss_len, idss_len]; omega))) [nc, nct, w64_of, Int.toNat_natCast, Int.toNat_zero, List.length_map, is_len, us_len, ps_len, is_get, us_get, ps_get, at_i, at_u, at_p0, at_p1, evs_len, ids_len, evss_len, idss_len, evs_get, ids_get, evss_get, idss_get, at_e0, at_e1, at_e2, at_e3, at_e4, at_d0, at_d1, at_l, at_agg, asL_vs, asI_i, asU_u, asB_b, bofZ, bof1, bof0, List.getD_cons_zero, List.getD_cons_succ]; done))); cbv)
    | (refine E.c (SCalls.of_bare (a1) rfl ?_ ?_); (· (cbv; simp [rls, ps, us, is, LV.of]; done)); cbv)
    | (refine E.c (SCalls.of_le (a1) ?_ ?_); (· (cbv; simp [rls, ps, us, is, LV.of]; done)); cbv)
    | (refine E.c (SCalls.of_le (small_ok 2) ?_ ?_); (· (cbv; (try simp only [nc] at *); first | done | (simp; done) | (simp (disch := (first | omega | (simp only [tab_len, List.length_append, List.length_map, List.length_range, List.length_replicate, is_len, us_len, ps_len, evs_len, ids_len, evss_len, idss_len]; omega))) only [nc, nct, w64_of, Int.toNat_natCast, Int.toNat_zero, List.length_map, is_len, us_len, ps_len, is_get, us_get, ps_get, at_i, at_u, at_p0, at_p1, evs_len, ids_len, evss_len, idss_len, evs_get, ids_get, evss_get, idss_get, at_e0, at_e1, at_e2, at_e3, at_e4, at_d0, at_d1, at_l, at_agg, asL_vs, asI_i, asU_u, asB_b, bofZ, bof1, bof0, List.getD_cons_zero, List.getD_cons_succ, implies_true, and_true, true_and, forall_const]; first | done | omega | (refine ⟨?_, ?_⟩ <;> omega)) | (simp (disch := (first | omega | (simp only [tab_len, List.length_append, List.length_map, List.length_range, List.length_replicate, is_len, us_len, ps_len, evs_len, ids_len, evss_len, idss_len]; omega))) [nc, nct, w64_of, Int.toNat_natCast, Int.toNat_zero, List.length_map, is_len, us_len, ps_len, is_get, us_get, ps_get, at_i, at_u, at_p0, at_p1, evs_len, ids_len, evss_len, idss_len, evs_get, ids_get, evss_get, idss_get, at_e0, at_e1, at_e2, at_e3, at_e4, at_d0, at_d1, at_l, at_agg, asL_vs, asI_i, asU_u, asB_b, bofZ, bof1, bof0, List.getD_cons_zero, List.getD_cons_succ]; done))); cbv)
    | (refine ⟨fun _ h_s => ?_, fun _ h_s => ?_⟩ <;> (cbv; (try simp only [nc] at *); try simp (disch := (first | omega | (simp only [tab_len, List.length_append, List.length_map, List.length_range, List.length_replicate, is_len, us_len, ps_len, evs_len, ids_len, evss_len, idss_len]; omega))) only [nc, nct, w64_of, Int.toNat_natCast, Int.toNat_zero, List.length_map, is_len, us_len, ps_len, is_get, us_get, ps_get, at_i, at_u, at_p0, at_p1, evs_len, ids_len, evss_len, idss_len, evs_get, ids_get, evss_get, idss_get, at_e0, at_e1, at_e2, at_e3, at_e4, at_d0, at_d1, at_l, at_agg, asL_vs, asI_i, asU_u, asB_b, bofZ, bof1, bof0, List.getD_cons_zero, List.getD_cons_succ, reduceCtorEq, Bool.not_true, Bool.not_false, decide_eq_true_eq, decide_eq_false_iff_not, Bool.not_eq_true, Bool.not_eq_false, Bool.not_eq_true', Bool.not_eq_false', ne_eq, Decidable.not_not, Int.not_le, Int.not_lt, beq_iff_eq] at h_s))
    | (refine hF ?_; intro _; clear hF)
    | (refine hF ?_; cbv; clear hF)
    | (refine ⟨fun _ => ?_, ?_⟩; (· ((try simp only [nc] at *); first | done | omega | exact ⟨by omega, rfl⟩ | (simp (disch := (first | omega | (simp only [tab_len, List.length_append, List.length_map, List.length_range, List.length_replicate, is_len, us_len, ps_len, evs_len, ids_len, evss_len, idss_len]; omega))) only [nc, nct, w64_of, Int.toNat_natCast, Int.toNat_zero, List.length_map, is_len, us_len, ps_len, is_get, us_get, ps_get, at_i, at_u, at_p0, at_p1, evs_len, ids_len, evss_len, idss_len, evs_get, ids_get, evss_get, idss_get, at_e0, at_e1, at_e2, at_e3, at_e4, at_d0, at_d1, at_l, at_agg, asL_vs, asI_i, asU_u, asB_b, bofZ, bof1, bof0, List.getD_cons_zero, List.getD_cons_succ]; first | done | omega | rfl | exact ⟨by omega, rfl⟩ | (simp; done) | (simp; omega)) | (intros; trivial))); (try (simp only [nc] at *)); (try simp (disch := (first | omega | (simp only [tab_len, List.length_append, List.length_map, List.length_range, List.length_replicate, is_len, us_len, ps_len, evs_len, ids_len, evss_len, idss_len]; omega))) only [nc, nct, w64_of, Int.toNat_natCast, Int.toNat_zero, List.length_map, is_len, us_len, ps_len, is_get, us_get, ps_get, at_i, at_u, at_p0, at_p1, evs_len, ids_len, evss_len, idss_len, evs_get, ids_get, evss_get, idss_get, at_e0, at_e1, at_e2, at_e3, at_e4, at_d0, at_d1, at_l, at_agg, asL_vs, asI_i, asU_u, asB_b, bofZ, bof1, bof0, List.getD_cons_zero, List.getD_cons_succ]); (try cbv))
    | fail
  )
  all_goals first | rfl | (revert h_s; decide)
end Go.AL.Rl

namespace Go.AL
open Go Go.RowKit Go.ChangeShapes Go.WideShapes

section
variable {H : Type} {enc : TypeId × Value → H} {P : Program} {w : World} {spare : Nat → Bool} {held : Bool}

abbrev Old (w : World) : Nat → Prop := fun k => k < w.heap.size

/-- Whatever reads by the type 't' is told by an 'a'. -/
def Dec (P : Program) (t : TypeId) (α : Type) (en : α → List AV) (ok : α → Prop) : Prop :=
  ∀ {H : Type} (enc : TypeId × Value → H) (w : World) (spare : Nat → Bool) (held : Bool) (fuel : Nat) (cs : List Value) (x : DataW H × List MemPlace),
    DataW.trod enc P w 0 spare held fuel t cs = some x → ∃ a, ok a ∧ Rs (Old w) w none (en a) cs

theorem Dec.int {t : TypeId} (ht : P.underlying t = some (.int .i64)) : Dec P t Int (fun n => [.i fun _ => n]) fun n => -9223372036854775808 ≤ n ∧ n ≤ 9223372036854775807 := by
  intro H enc w spare held fuel cs x h
  obtain ⟨n, rfl, _, h2⟩ := DataW.trod_int ht h
  exact ⟨n, bounds_i64 h2, _, _, rfl, rfl, rfl⟩
theorem Dec.u64 {t : TypeId} (ht : P.underlying t = some (.int .u64)) : Dec P t (BitVec 64) (fun n => [.u fun _ => n]) fun _ => True := by
  intro H enc w spare held fuel cs x h
  obtain ⟨n, rfl, _, h2⟩ := DataW.trod_int ht h
  have := bounds_u64 h2
  refine ⟨BitVec.ofInt 64 n, trivial, _, _, rfl, ?_, rfl⟩
  simp only [R]
  congr 1
  simp only [BitVec.toNat_ofInt]
  omega
theorem Dec.bool {t : TypeId} (ht : P.underlying t = some .bool) : Dec P t Bool (fun b => [.b fun _ => b]) fun _ => True := by
  intro H enc w spare held fuel cs x h
  obtain ⟨b, rfl, _⟩ := DataW.trod_bool ht h
  exact ⟨b, trivial, _, _, rfl, rfl, rfl⟩

theorem cells?_get {w : World} {a : Addr} {n : Nat} {cs : List Value} (h : w.cells? 0 a n = some cs) : cs.length = n ∧ ∀ (i : Nat) (c : Value), cs[i]? = some c → w.cell? (a.add i) = some c := by
  simp only [World.cells?, Nat.zero_le, if_true] at h
  have hl : cs.length = n := by have := mapM_some_length h; simpa using this
  refine ⟨hl, fun i c hc => ?_⟩
  have hi : i < n := by have := (List.getElem?_eq_some_iff.1 hc).1; omega
  rw [mapM_some_get h i i (by simp [hi])]; exact hc

theorem list_of_all {α β : Type} {R' : α → β → Prop} : ∀ (l : List β), (∀ b ∈ l, ∃ a, R' a b) → ∃ r : List α, r.length = l.length ∧ ∀ (i : Nat) (a : α) (b : β), r[i]? = some a → l[i]? = some b → R' a b
  | [], _ => ⟨[], rfl, fun i a b h => by simp at h⟩
  | b :: l, h => by
    obtain ⟨a, ha⟩ := h b (by simp)
    obtain ⟨r, h1, h2⟩ := list_of_all l fun b hb => h b (by simp [hb])
    refine ⟨a :: r, by simp [h1], fun i a' b' ha' hb' => ?_⟩
    cases i with
    | zero => simp at ha' hb'; subst ha'; subst hb'; exact ha
    | succ i => exact h2 i a' b' (by simpa using ha') (by simpa using hb')

/-- the elements' values: 'mk' is '.agg' or the one cell -/
structure Elem (mk : List AV → AV) (k : Nat) : Prop where
  val : ∀ {S : Nat → Prop} {w : World} {l : List AV} {cs : List Value}, cs.length = k → l.all AV.one = true → Rs S w none l cs → ∃ v, v.cells.toList = cs ∧ R S w none (mk l) v
theorem Elem.agg (k : Nat) : Elem .agg k := ⟨fun {S w l cs} _ _ h => ⟨.agg cs.toArray, by simp [Value.cells], cs, rfl, h⟩⟩
theorem Elem.one : Elem (fun l => l.headD .any) 1 := ⟨fun {S w l cs} hl h1 h => by
  match cs, hl with
  | [c], _ =>
    match l, h with
    | x :: _, ⟨v, _, e, hx, hr⟩ =>
      cases e
      simp only [List.all_cons, Bool.and_eq_true] at h1
      exact ⟨c, by rw [cells_of_one (R_one hx h1.1)], hx⟩⟩

theorem Dec.slice {t e : TypeId} (ht : P.underlying t = some (.slice e)) {k : Nat} (hk : P.cellsOf e = k) (hk0 : 0 < k) {α : Type} {en : α → List AV} {ok : α → Prop} {mk : List AV → AV} (he : Dec P e α en ok) (hone : ∀ a, (en a).all AV.one = true) (hm : Elem mk k) :
    Dec P t (List α) (fun l => [.vs k fun _ => LV.of (l.map fun a => mk (en a))]) fun l => l.length ≤ maxLen ∧ ∀ a ∈ l, ok a := by
  subst hk
  intro H enc w spare held fuel cs x h
  rcases DataW.trod_slice ht h with ⟨rfl, _⟩ | ⟨a, len, cap, elems, rest, n, rfl, rfl, rfl, _, h2, h3, h4, h5, _⟩
  · exact ⟨[], ⟨by simp, by simp⟩, _, _, rfl, ⟨none, 0, [], rfl, Nat.le_refl _, rfl, .inl rfl⟩, rfl⟩
  · have key : ∀ i : Nat, i < len → ∃ (c : List Value) (a' : α), w.cells? 0 (a.add (i * P.cellsOf e)) (P.cellsOf e) = some c ∧ ok a' ∧ Rs (Old w) w none (en a') c := by
      intro i hi
      have := h5 i hi
      rw [List.getElem?_eq_getElem (by omega)] at this
      simp only [Option.bind_eq_some_iff] at this
      obtain ⟨c, hc, hd⟩ := this
      obtain ⟨a', ha, hr⟩ := he _ _ _ _ _ _ _ hd
      exact ⟨c, a', hc, ha, hr⟩
    have hlist := list_of_all (R' := fun (q : α × Value) (i : Nat) => ok q.1 ∧ q.2.cells.size = P.cellsOf e ∧ (∀ (j : Nat) (c : Value), q.2.cells[j]? = some c → w.cell? ((a.add (i * P.cellsOf e)).add j) = some c) ∧ R (Old w) w none (mk (en q.1)) q.2) (List.range len) fun i hi => by
      obtain ⟨c, a', hc, ha, hr⟩ := key i (by simpa using hi)
      obtain ⟨hl, hg⟩ := cells?_get hc
      obtain ⟨v, hv, hr'⟩ := hm.val hl (hone a') hr
      refine ⟨(a', v), ha, by rw [← Array.length_toList, hv]; exact hl, fun j c' hj => hg j c' ?_, hr'⟩
      rw [← hv]; simpa using hj
    obtain ⟨qs, hq1, hq2⟩ := hlist
    rw [List.length_range] at hq1
    have hq : ∀ (i : Nat) (q : α × Value), qs[i]? = some q → ok q.1 ∧ q.2.cells.size = P.cellsOf e ∧ (∀ (j : Nat) (c : Value), q.2.cells[j]? = some c → w.cell? ((a.add (i * P.cellsOf e)).add j) = some c) ∧ R (Old w) w none (mk (en q.1)) q.2 := fun i q hi =>
      hq2 i q i hi (by
        have := (List.getElem?_eq_some_iff.1 hi).1
        rw [List.getElem?_range (by omega)])
    refine ⟨qs.map (·.1), ⟨by simp; omega, fun a' ha' => ?_⟩, _, _, rfl, ⟨some a, cap, qs.map (·.2), by simp [hq1], by simp; omega, ?_, ?_⟩, rfl⟩
    · obtain ⟨q, hqm, rfl⟩ := List.mem_map.1 ha'
      obtain ⟨i, hi, rfl⟩ := List.mem_iff_getElem.1 hqm
      exact (hq i _ (List.getElem?_eq_getElem hi)).1
    · rw [RL_iff, LV.l_of, Rs_iff]
      refine ⟨by simp, fun i c v hc hv => ?_⟩
      simp only [List.map_map, List.getElem?_map, Option.map_eq_some_iff] at hc hv
      obtain ⟨q, hq', rfl⟩ := hc
      obtain ⟨q', hq'', rfl⟩ := hv
      rw [hq'] at hq''; cases hq''
      exact (hq i q hq').2.2.2
    · cases hqs : qs with
      | nil => exact .inl rfl
      | cons q0 qr =>
        right
        have hlen : 0 < len := by rw [← hq1, hqs]; simp
        obtain ⟨_, hsz, hcell, _⟩ := hq 0 q0 (by rw [hqs]; rfl)
        have hc0 : ∃ c, q0.2.cells[0]? = some c := ⟨_, Array.getElem?_eq_getElem (by omega)⟩
        obtain ⟨c, hc⟩ := hc0
        have hw := hcell 0 c hc
        have ha0 : a.spot = none ∧ a.block < w.heap.size := by
          simp only [Nat.zero_mul, Addr.add, if_true] at hw
          unfold World.cell? at hw
          split at hw
          · rename_i hb
            split at hw
            · cases hw
            · rename_i hs
              exact ⟨by simpa using hs, (Array.getElem?_eq_some_iff.1 hb).1⟩
          · cases hw
        refine ⟨a, rfl, ha0.1, ha0.2, fun i ev hi => ?_⟩
        rw [← hqs] at hi
        simp only [List.getElem?_map, Option.map_eq_some_iff] at hi
        obtain ⟨q, hq', rfl⟩ := hi
        obtain ⟨_, h1, h2, _⟩ := hq i q hq'
        refine ⟨h1, fun j c hj => ?_⟩
        have := h2 j c hj
        have ea : (a.add (i * P.cellsOf e)).add j = ⟨a.block, a.off + (i * P.cellsOf e + j), none⟩ := by
          obtain ⟨b, o, s⟩ := a
          simp only at ha0
          obtain ⟨rfl, _⟩ := ha0
          simp only [Addr.add]
          by_cases h0 : i * P.cellsOf e = 0 <;> by_cases h1 : j = 0 <;> simp [h0, h1] <;> omega
        rw [← ea]; exact this

theorem trodAll_len {W : World} {b : Nat} : ∀ {ts : List TypeId} {vs : List Value} {ds : List (DataW H)} {p : List MemPlace}, DataW.TrodAll enc P W b spare held ts vs ds p → ds.length = ts.length
  | [], [], [], _, _ => rfl
  | _ :: _, _ :: _, _ :: _, _, ⟨_, _, _, h, _⟩ => by simp [trodAll_len h]
  | [], [], _ :: _, _, h => h.elim
  | [], _ :: _, _, _, h => h.elim
  | _ :: _, [], _, _, h => h.elim
  | _ :: _, _ :: _, [], _, h => h.elim
theorem trodAll_carry {W W' : World} (hq : ∀ k, k < W.heap.size → W'.heap[k]? = W.heap[k]?) : ∀ {ts : List TypeId} {vs : List Value} {ds : List (DataW H)} {p : List MemPlace},
    DataW.TrodAll enc P W 0 spare held ts vs ds p → (∀ p' ∈ p, p'.block < W.heap.size) → DataW.TrodAll enc P W' 0 spare held ts vs ds p
  | [], [], [], _, h, _ => h
  | _ :: _, _ :: _, _ :: _, _, ⟨p0, q0, ⟨n, h1⟩, h2, e⟩, lt => by
    subst e
    refine ⟨p0, q0, ⟨n, DataW.trod_carry _ _ _ _ h1 fun pl hpl => ?_⟩, trodAll_carry hq h2 fun p' hp => lt p' (List.mem_append_right _ hp), rfl⟩
    have hlt := lt pl (List.mem_append_left _ hpl)
    cases pl with
    | cell b off => exact World.cell?_of_block (hq b hlt)
    | map b => exact hq b hlt
  | [], [], _ :: _, _, h, _ => h.elim
  | [], _ :: _, _, _, h, _ => h.elim
  | _ :: _, [], _, _, h, _ => h.elim
  | _ :: _, _ :: _, [], _, h, _ => h.elim
theorem post_true {H : Type} {enc : TypeId × Value → H} {f : Func} {s : ChangeSpec} {W W' : World} {args : Array Value} {ds gs : List (DataW H)} {before : List MemPlace} {tb : TypeId}
    (hW : DataW.Whole enc P f.params.toList s.vars false W args.toList ds gs before) (hv : s.vars = []) (hres : f.resultTypes = #[tb]) (htb : P.underlying tb = some .bool)
    (hs : ∀ ds' : List (DataW H), ds'.length = f.params.size → s.fn H ds' = { results := [.lit (.bool true)], args := ds' })
    (hl : laidOutB P = true) (hm : mapsRowed P = true) (hz : ((List.range P.types.size).all fun t => match P.underlying t with | some (.slice e) => decide (0 < P.cellsOf e) | _ => true) = true) (hT : ∀ t ∈ f.params.toList, t < P.types.size)
    (hq : ∀ k, k < W.heap.size → W'.heap[k]? = W.heap[k]?) (fr : Fr W W') : s.post enc P f false true false false W args (.bool true) W' := by
  have hW' := hW
  obtain ⟨p, q, hA, hV, rfl, hfz, hnd⟩ := hW
  rw [hv] at hV
  obtain ⟨rfl, rfl⟩ := trodVars_none hV
  have hlen : ds.length = f.params.size := by have := trodAll_len hA; simpa using this
  have hsd := hs (ds ++ []) (by simpa using hlen)
  have hall : ∀ (b : Nat) (sp : Nat → Bool) (hd : Bool), DataW.TrodAll enc P W' b sp hd [tb] [.bool true] [.lit (.bool true)] [] := fun b sp hd => ⟨[], [], ⟨1, by simp [DataW.trod, htb, Value.cells]⟩, rfl, rfl⟩
  refine post_of_same (pa := p) (pv := []) hW' (fun b sp hd => ?_) (fun sp hsp => ?_) (fun sp _ => ?_) (by simp) ?_ fr.frozen ?_
  · rw [hsd, hres]; exact hall b sp hd
  · rw [hsd]
    simp only [List.append_nil]
    have carry : DataW.TrodAll enc P W' 0 (fun _ => true) true f.params.toList args.toList ds p := trodAll_carry hq hA fun p' hp => hW'.lt p' (by simpa using hp)
    exact carry.respare (kids_rows hl hm) (fun t e ht hu => slices_full_of P hz t e ht hu) hT fun p' hp => hsp p' (by simpa using hp)
  · rw [hsd, hv]; rfl
  · refine ⟨fr.os, fr.output, fun i hi => ?_⟩
    rw [hq i hi]
    cases h : W.heap[i]? with
    | none => trivial
    | some o => cases o <;> simp
  · exact ok_one hres rfl (okWide_bool_mk htb _)

def Arg (P : Program) (t : TypeId) (α : Type) (en : α → AV) (ok : α → Prop) : Prop :=
  ∀ {H : Type} (enc : TypeId × Value → H) (W : World) (base : Nat) (v : Value) (d : DataW H) (p : List MemPlace), Value.okWide P W .any base t v → DataW.Trod enc P W 0 (fun _ => true) true t v d p → ∃ a, ok a ∧ R (Old W) W none (en a) v
theorem Arg.agg {t : TypeId} {a : Array Field} (ht : P.underlying t = some (.struct a)) {α : Type} {en : α → List AV} {ok : α → Prop} (h : Dec P t α en ok) : Arg P t α (fun a => .agg (en a)) ok := by
  intro H enc W base v d p hok ⟨n, hn⟩
  simp only [Value.okWide, ht] at hok
  obtain ⟨cs, rfl, _⟩ := hok
  obtain ⟨x, h1, h2⟩ := h _ _ _ _ _ _ _ hn
  exact ⟨x, h1, cs.toList, by simp, by simpa [Value.cells] using h2⟩
theorem Arg.one {t : TypeId} {k : TypeDesc} (ht : P.underlying t = some k) (hk : match k with | .int _ | .bool | .slice _ => True | _ => False) {α : Type} {en : α → AV} {ok : α → Prop} (h : Dec P t α (fun a => [en a]) ok) : Arg P t α en ok := by
  intro H enc W base v d p hok ⟨n, hn⟩
  obtain ⟨x, h1, y, ys, h2, h3, h4⟩ := h _ _ _ _ _ _ _ hn
  have h4 : ys = [] := h4
  subst h4
  have hv : v = y := by
    cases v
    case agg cs => cases k <;> first | exact hk.elim | simp [Value.okWide, ht, Cell.okWide, Cell.ok] at hok
    all_goals (simp [Value.cells] at h2; exact h2)
  subst hv
  exact ⟨x, h1, h3⟩

/-- A LAW, from its contract. -/
theorem law_true {γ : Nat → Option AV} {f : FuncId} {fn : Func} {s : ChangeSpec} {W : World} {args : Array Value} {ds gs : List (DataW H)} {before : List MemPlace} {tb : TypeId} {avs : List AV} (hp : Pure P γ false f avs (.b fun _ => true)) (hr : Rs (Old W) W none avs args.toList)
    (hγ : ∀ g x, γ g = some x → R (Old W) W none (.vp (fun _ => x) 0) (.pointer (some ⟨g, 0, none⟩)))
    (hW : DataW.Whole enc P fn.params.toList s.vars false W args.toList ds gs before) (hv : s.vars = []) (hres : fn.resultTypes = #[tb]) (htb : P.underlying tb = some .bool)
    (hs : ∀ ds' : List (DataW H), ds'.length = fn.params.size → s.fn H ds' = { results := [.lit (.bool true)], args := ds' })
    (hl : laidOutB P = true) (hm : mapsRowed P = true) (hz : ((List.range P.types.size).all fun t => match P.underlying t with | some (.slice e) => decide (0 < P.cellsOf e) | _ => true) = true) (hT : ∀ t ∈ fn.params.toList, t < P.types.size) :
    Calls P f args W fun e W' => ∃ v, e = .returned v ∧ s.post enc P fn false true false false W args v W' := by
  have := hp.2 (Old W) W args.toList (fun k hk => hk) hγ hr
  refine (this.mono fun e w' ⟨v', S', h1, h2, h3⟩ => ?_)
  have h2 : v' = .bool true := h2
  subst h2
  exact ⟨_, h1, post_true hW hv hres htb hs hl hm hz hT h3.same h3.fr⟩
end
end Go.AL

namespace Go.AL
open Go Go.RowKit Go.ChangeShapes Go.WideShapes
section
variable {P : Program}
end
end Go.AL

namespace Go.AL.Rl
open Go Go.AL Go.Proofs Go.RowKit Go.ChangeShapes Go.WideShapes Go.ChangeAt Go.Proofs.Ytffobfcddfppnaa
set_option maxRecDepth 100000

theorem laidOut : laidOutB Try.prog = true := by kernel_rfl
theorem mapsOk : mapsRowed Try.prog = true := by kernel_rfl
theorem slicesOk : ((List.range Try.prog.types.size).all fun t => match Try.prog.underlying t with | some (.slice e) => decide (0 < Try.prog.cellsOf e) | _ => true) = true := by kernel_rfl
theorem own : ownKnob Try.prog.godebug = none := by kernel_rfl
def γ0 : Nat → Option AV := fun _ => none
theorem gok0 {W : World} : ∀ g x, γ0 g = some x → R (Old W) W none (.vp (fun _ => x) 0) (.pointer (some ⟨g, 0, none⟩)) := fun g x h => by cases h
end Go.AL.Rl

namespace Go.AL.Rl
open Go Go.AL Go.Proofs
set_option maxRecDepth 100000
open Go.RowKit Go.ChangeShapes Go.WideShapes Go.ChangeAt Go.Proofs.Ytffobfcddfppnaa
namespace DeriveNames
theorem contract (H : Type) (enc : TypeId × Value → H) (W : World) (base : Nat) (args : Array Value) (ds gs : List (DataW H)) (before : List MemPlace)
    (hval : ∀ (j : Nat) t v, Try.f7.params[j]? = some t → args[j]? = some v → Value.okWide Try.prog W .any base t v)
    (hW : DataW.Whole enc Try.prog Try.f7.params.toList Rows.deriveNamesSpec.vars false W args.toList ds gs before) (hL : laidMet Try.prog Rows.deriveNamesRow.laid W) :
    Calls Try.prog 7 args W fun e W' => ∃ v, e = .returned v ∧ Rows.deriveNamesSpec.post enc Try.prog Try.f7 false true false false W args v W' := by
  have hW' := hW
  obtain ⟨p, q, hA, hV, rfl, hfz, hnd⟩ := hW
  rw [Try.params7] at hA hval
  obtain ⟨hargs, rfl, rfl⟩ := trodAll_nil hA
  obtain rfl : args = #[] := by cases args; simp_all
  exact law_true (deriveNames_ok (γ := γ0)) rfl gok0 hW' rfl (tb := 4) (by kernel_rfl) Try.underlying4
    (fun ds' h => by match ds', h with | [], _ => rfl) laidOut mapsOk slicesOk (by rw [Try.params7]; decide +kernel)
theorem laid_met (os : Os) : laidMet Try.prog Rows.deriveNamesRow.laid ((World.holding Try.prog os ⟨#[], #[], []⟩).forCall (fun _ _ => 0) ⟨#[], #[], []⟩).memory :=
  laidMet_of_run' 8 (by kernel_rfl) (by kernel_rfl)
theorem reads (os : Os) {H : Type} (enc : TypeId × Value → H) : ∃ places, DataW.whole enc Try.prog ((World.holding Try.prog os ⟨#[], #[], []⟩).forCall (fun _ _ => 0) ⟨#[], #[], []⟩).memory Try.f7.params.toList Rows.deriveNamesSpec.vars false (#[] : Array Value).toList 8 = some ([], [], places) :=
  ⟨[], by kernel_rfl⟩
theorem lifted (os : Os) (started : os.Started) (H : Type) (enc : TypeId × Value → H) (F : Stop.Interp) :
    ReturnsInHanded {} Try.checked os 7 .any ((OpenSpec.ofChange Rows.deriveNamesSpec).preRow enc Try.prog Try.f7 Rows.deriveNamesRow.domain false Rows.deriveNamesRow.laid) (((OpenSpec.ofChange Rows.deriveNamesSpec).at F).post enc Try.prog Try.f7 false true false false) := by
  obtain ⟨places, hx⟩ := reads os enc
  refine returnsInHanded_of_row (C := Try.checked) (s := OpenSpec.ofChange Rows.deriveNamesSpec) own started (by kernel_rfl) Try.func7
    (witness_row_at (enc := enc) (C := Try.checked) false (World.holding Try.prog os ⟨#[], #[], []⟩) #[] rfl (by kernel_rfl) (by kernel_rfl) (by kernel_rfl)
      (OpenSpec.preRow_of_cond 8 hx (by kernel_rfl) (fun k hk => by cases hk) (by kernel_rfl) (laid_met os))) ?_
  intro W base args ds gs before hval hW _ _ _ hL _ _
  exact contract H enc W base args ds gs before hval hW hL
theorem said : Rows.DeriveNamesSaid :=
  OpenClaim.holds_of_cond 7 Try.f7 rfl rfl rfl rfl rfl rfl rfl ⟨rfl, rfl, rfl, rfl, rfl⟩ rfl rfl rfl rfl rfl (by kernel_rfl) Try.func7 (by kernel_rfl)
    (of_decide_eq_true (by kernel_rfl)) (by unfold Func.isWrapper; first | (rw [if_pos (by decide +kernel)]; kernel_rfl) | (rw [if_neg (by decide +kernel)]; exact ⟨rfl, rfl⟩))
    (fun os started H enc _ F => by rw [OpenClaim.pre_eq_preRow]; exact lifted os started H enc F)
end DeriveNames
end Go.AL.Rl
