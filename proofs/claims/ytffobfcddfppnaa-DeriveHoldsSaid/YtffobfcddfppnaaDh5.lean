import Derived.Test.YtffobfcddfppnaaDh4
set_option linter.unusedVariables false
set_option linter.unusedSimpArgs false
namespace Go.AL.Rl
open Go Go.AL Go.Proofs
set_option maxRecDepth 100000
variable {γ : Nat → Option AV}

theorem gevent_ok (g : Gr) (hg : Rd g) (d : EId) : Pure Try.prog γ false 190 [aGr g, aId d] (.tup [aEv ((eventM g d).getD ev0), .b fun _ => (eventM g d).isSome]) := by
  have hg1 := hg.init
  have hg2 := hg.th
  refine Pure.go (ty := ty) ty_eq mo Try.func190 rfl Try.ntmps190 Try.results190 Try.call190 (by simp) fun P C CQ D W F E hF => ?_
  cbv
  repeat' (first
    | (refine ⟨fun _ h_s => ?_, fun _ h_s => ?_⟩ <;> (cbv; (try simp only [nc] at *); try simp (disch := omega) only [nc, nct, w64_of, Int.toNat_natCast, Int.toNat_zero, List.length_map, is_len, us_len, ps_len, is_get, us_get, ps_get, at_i, at_u, at_p0, at_p1, evs_len, ids_len, evss_len, idss_len, evs_get, ids_get, evss_get, idss_get, at_e0, at_e1, at_e2, at_e3, at_e4, at_d0, at_d1, at_l, at_agg, asL_vs, asI_i, asU_u, asB_b, bofZ, bof1, bof0, List.getD_cons_zero, List.getD_cons_succ, decide_eq_true_eq, decide_eq_false_iff_not, Bool.not_eq_true, Bool.not_eq_false, Bool.not_eq_true', Bool.not_eq_false', ne_eq, Decidable.not_not, Int.not_le, Int.not_lt, beq_iff_eq] at h_s))
    | (refine hF ?_; intro _; clear hF)
    | (refine hF ?_; cbv; clear hF)
    | (refine ⟨fun _ => ?_, ?_⟩; (· ((try simp only [nc] at *); first | done | omega | (simp (disch := omega) only [nc, nct, w64_of, Int.toNat_natCast, Int.toNat_zero, List.length_map, is_len, us_len, ps_len, is_get, us_get, ps_get, at_i, at_u, at_p0, at_p1, evs_len, ids_len, evss_len, idss_len, evs_get, ids_get, evss_get, idss_get, at_e0, at_e1, at_e2, at_e3, at_e4, at_d0, at_d1, at_l, at_agg, asL_vs, asI_i, asU_u, asB_b, bofZ, bof1, bof0, List.getD_cons_zero, List.getD_cons_succ]; first | done | omega | rfl | (simp; done) | (simp; omega)) | (intros; trivial))); try cbv)
    | (refine E.d 8 (by decide +kernel) ?_; cbv)
    | (refine E.d 9 (by decide +kernel) ?_; cbv)
    | (refine E.d 10 (by decide +kernel) ?_; cbv)
    | fail
  )
  all_goals (try simp only [nc] at *)
  all_goals (try simp (disch := omega) only [nc, nct, w64_of, Int.toNat_natCast, Int.toNat_zero, List.length_map, is_len, us_len, ps_len, is_get, us_get, ps_get, at_i, at_u, at_p0, at_p1, evs_len, ids_len, evss_len, idss_len, evs_get, ids_get, evss_get, idss_get, at_e0, at_e1, at_e2, at_e3, at_e4, at_d0, at_d1, at_l, at_agg, asL_vs, asI_i, asU_u, asB_b, bofZ, bof1, bof0, List.getD_cons_zero, List.getD_cons_succ])
  all_goals first
    | (have e : eventM g d = none := by (unfold eventM; split <;> split <;> first | rfl | omega)
       rw [e]; simp; done)
    | (have e : eventM g d = some ⟨2, d.i, 1, 0, g.init.getD d.i.toNat 0⟩ := by (unfold eventM; split <;> split <;> first | rfl | omega)
       rw [e]; simp; done)
    | (have e : eventM g d = some ((g.th.getD (d.t - 1).toNat []).getD d.i.toNat ev0) := by (unfold eventM; split <;> split <;> first | rfl | omega)
       rw [e]; simp; done)
    | skip
theorem rightFrom_ok (g : Gr) (hg : Rd g) (d f : EId) : Pure Try.prog γ false 160 [aGr g, aId d, aId f] (.b fun _ => sourceM g d f) := by
  refine Pure.go (ty := ty) ty_eq mo Try.func160 rfl Try.ntmps160 Try.results160 Try.call160 (by simp) fun P C CQ D W F E hF => ?_
  cbv
  repeat' (first
    | (refine E.c (SCalls.of_le (gwrites_ok ((eventM g f).getD ev0)) ?_ ?_); (· (cbv; (try simp only [nc] at *); first | done | (simp; done) | (simp (disch := omega) only [nc, nct, w64_of, Int.toNat_natCast, Int.toNat_zero, List.length_map, is_len, us_len, ps_len, is_get, us_get, ps_get, at_i, at_u, at_p0, at_p1, evs_len, ids_len, evss_len, idss_len, evs_get, ids_get, evss_get, idss_get, at_e0, at_e1, at_e2, at_e3, at_e4, at_d0, at_d1, at_l, at_agg, asL_vs, asI_i, asU_u, asB_b, bofZ, bof1, bof0, List.getD_cons_zero, List.getD_cons_succ, implies_true, and_true, true_and, forall_const]; first | done | omega | (refine ⟨?_, ?_⟩ <;> omega)) | (simp (disch := omega) [nc, nct, w64_of, Int.toNat_natCast, Int.toNat_zero, List.length_map, is_len, us_len, ps_len, is_get, us_get, ps_get, at_i, at_u, at_p0, at_p1, evs_len, ids_len, evss_len, idss_len, evs_get, ids_get, evss_get, idss_get, at_e0, at_e1, at_e2, at_e3, at_e4, at_d0, at_d1, at_l, at_agg, asL_vs, asI_i, asU_u, asB_b, bofZ, bof1, bof0, List.getD_cons_zero, List.getD_cons_succ]; done))); cbv)
    | (refine E.c (SCalls.of_le (greads_ok ((eventM g d).getD ev0)) ?_ ?_); (· (cbv; (try simp only [nc] at *); first | done | (simp; done) | (simp (disch := omega) only [nc, nct, w64_of, Int.toNat_natCast, Int.toNat_zero, List.length_map, is_len, us_len, ps_len, is_get, us_get, ps_get, at_i, at_u, at_p0, at_p1, evs_len, ids_len, evss_len, idss_len, evs_get, ids_get, evss_get, idss_get, at_e0, at_e1, at_e2, at_e3, at_e4, at_d0, at_d1, at_l, at_agg, asL_vs, asI_i, asU_u, asB_b, bofZ, bof1, bof0, List.getD_cons_zero, List.getD_cons_succ, implies_true, and_true, true_and, forall_const]; first | done | omega | (refine ⟨?_, ?_⟩ <;> omega)) | (simp (disch := omega) [nc, nct, w64_of, Int.toNat_natCast, Int.toNat_zero, List.length_map, is_len, us_len, ps_len, is_get, us_get, ps_get, at_i, at_u, at_p0, at_p1, evs_len, ids_len, evss_len, idss_len, evs_get, ids_get, evss_get, idss_get, at_e0, at_e1, at_e2, at_e3, at_e4, at_d0, at_d1, at_l, at_agg, asL_vs, asI_i, asU_u, asB_b, bofZ, bof1, bof0, List.getD_cons_zero, List.getD_cons_succ]; done))); cbv)
    | (refine E.c (SCalls.of_le (gevent_ok g hg f) ?_ ?_); (· (cbv; (try simp only [nc] at *); first | done | (simp; done) | (simp (disch := omega) only [nc, nct, w64_of, Int.toNat_natCast, Int.toNat_zero, List.length_map, is_len, us_len, ps_len, is_get, us_get, ps_get, at_i, at_u, at_p0, at_p1, evs_len, ids_len, evss_len, idss_len, evs_get, ids_get, evss_get, idss_get, at_e0, at_e1, at_e2, at_e3, at_e4, at_d0, at_d1, at_l, at_agg, asL_vs, asI_i, asU_u, asB_b, bofZ, bof1, bof0, List.getD_cons_zero, List.getD_cons_succ, implies_true, and_true, true_and, forall_const]; first | done | omega | (refine ⟨?_, ?_⟩ <;> omega)) | (simp (disch := omega) [nc, nct, w64_of, Int.toNat_natCast, Int.toNat_zero, List.length_map, is_len, us_len, ps_len, is_get, us_get, ps_get, at_i, at_u, at_p0, at_p1, evs_len, ids_len, evss_len, idss_len, evs_get, ids_get, evss_get, idss_get, at_e0, at_e1, at_e2, at_e3, at_e4, at_d0, at_d1, at_l, at_agg, asL_vs, asI_i, asU_u, asB_b, bofZ, bof1, bof0, List.getD_cons_zero, List.getD_cons_succ]; done))); cbv)
    | (refine E.c (SCalls.of_le (gevent_ok g hg d) ?_ ?_); (· (cbv; (try simp only [nc] at *); first | done | (simp; done) | (simp (disch := omega) only [nc, nct, w64_of, Int.toNat_natCast, Int.toNat_zero, List.length_map, is_len, us_len, ps_len, is_get, us_get, ps_get, at_i, at_u, at_p0, at_p1, evs_len, ids_len, evss_len, idss_len, evs_get, ids_get, evss_get, idss_get, at_e0, at_e1, at_e2, at_e3, at_e4, at_d0, at_d1, at_l, at_agg, asL_vs, asI_i, asU_u, asB_b, bofZ, bof1, bof0, List.getD_cons_zero, List.getD_cons_succ, implies_true, and_true, true_and, forall_const]; first | done | omega | (refine ⟨?_, ?_⟩ <;> omega)) | (simp (disch := omega) [nc, nct, w64_of, Int.toNat_natCast, Int.toNat_zero, List.length_map, is_len, us_len, ps_len, is_get, us_get, ps_get, at_i, at_u, at_p0, at_p1, evs_len, ids_len, evss_len, idss_len, evs_get, ids_get, evss_get, idss_get, at_e0, at_e1, at_e2, at_e3, at_e4, at_d0, at_d1, at_l, at_agg, asL_vs, asI_i, asU_u, asB_b, bofZ, bof1, bof0, List.getD_cons_zero, List.getD_cons_succ]; done))); cbv)
    | (refine ⟨fun _ h_s => ?_, fun _ h_s => ?_⟩ <;> (cbv; (try simp only [nc] at *); try simp (disch := omega) only [nc, nct, w64_of, Int.toNat_natCast, Int.toNat_zero, List.length_map, is_len, us_len, ps_len, is_get, us_get, ps_get, at_i, at_u, at_p0, at_p1, evs_len, ids_len, evss_len, idss_len, evs_get, ids_get, evss_get, idss_get, at_e0, at_e1, at_e2, at_e3, at_e4, at_d0, at_d1, at_l, at_agg, asL_vs, asI_i, asU_u, asB_b, bofZ, bof1, bof0, List.getD_cons_zero, List.getD_cons_succ, decide_eq_true_eq, decide_eq_false_iff_not, Bool.not_eq_true, Bool.not_eq_false, Bool.not_eq_true', Bool.not_eq_false', ne_eq, Decidable.not_not, Int.not_le, Int.not_lt, beq_iff_eq] at h_s))
    | (refine hF ?_; intro _; clear hF)
    | (refine hF ?_; cbv; clear hF)
    | (refine ⟨fun _ => ?_, ?_⟩; (· ((try simp only [nc] at *); first | done | omega | (simp (disch := omega) only [nc, nct, w64_of, Int.toNat_natCast, Int.toNat_zero, List.length_map, is_len, us_len, ps_len, is_get, us_get, ps_get, at_i, at_u, at_p0, at_p1, evs_len, ids_len, evss_len, idss_len, evs_get, ids_get, evss_get, idss_get, at_e0, at_e1, at_e2, at_e3, at_e4, at_d0, at_d1, at_l, at_agg, asL_vs, asI_i, asU_u, asB_b, bofZ, bof1, bof0, List.getD_cons_zero, List.getD_cons_succ]; first | done | omega | rfl | (simp; done) | (simp; omega)) | (intros; trivial))); try cbv)
    | fail
  )
  all_goals (try simp only [nc] at *)
  all_goals (try simp (disch := omega) only [nc, nct, w64_of, Int.toNat_natCast, Int.toNat_zero, List.length_map, is_len, us_len, ps_len, is_get, us_get, ps_get, at_i, at_u, at_p0, at_p1, evs_len, ids_len, evss_len, idss_len, evs_get, ids_get, evss_get, idss_get, at_e0, at_e1, at_e2, at_e3, at_e4, at_d0, at_d1, at_l, at_agg, asL_vs, asI_i, asU_u, asB_b, bofZ, bof1, bof0, List.getD_cons_zero, List.getD_cons_succ])
  all_goals (unfold sourceM; cases hf : eventM g f <;> simp_all [eid_iff])

def longE (l : List Ev) : Bool := decide (14 < (l.length : Int))
theorem tooLong1_ok (l : List Ev) : Pure Try.prog γ false 188 [.vs 5 fun _ => evs l] (.b fun _ => longE l) := by
  refine Pure.go (ty := ty) ty_eq mo Try.func188 rfl Try.ntmps188 Try.results188 Try.call188 (by simp) fun P C CQ D W F E hF => ?_
  cbv
  repeat' (first
    | (refine ⟨fun _ h_s => ?_, fun _ h_s => ?_⟩ <;> (cbv; (try simp only [nc] at *); try simp (disch := omega) only [nc, nct, w64_of, Int.toNat_natCast, Int.toNat_zero, List.length_map, is_len, us_len, ps_len, is_get, us_get, ps_get, at_i, at_u, at_p0, at_p1, evs_len, ids_len, evss_len, idss_len, evs_get, ids_get, evss_get, idss_get, at_e0, at_e1, at_e2, at_e3, at_e4, at_d0, at_d1, at_l, at_agg, asL_vs, asI_i, asU_u, asB_b, bofZ, bof1, bof0, List.getD_cons_zero, List.getD_cons_succ, decide_eq_true_eq, decide_eq_false_iff_not, Bool.not_eq_true, Bool.not_eq_false, Bool.not_eq_true', Bool.not_eq_false', ne_eq, Decidable.not_not, Int.not_le, Int.not_lt, beq_iff_eq] at h_s))
    | (refine hF ?_; intro _; clear hF)
    | (refine hF ?_; cbv; clear hF)
    | (refine ⟨fun _ => ?_, ?_⟩; (· ((try simp only [nc] at *); first | done | omega | (simp (disch := omega) only [nc, nct, w64_of, Int.toNat_natCast, Int.toNat_zero, List.length_map, is_len, us_len, ps_len, is_get, us_get, ps_get, at_i, at_u, at_p0, at_p1, evs_len, ids_len, evss_len, idss_len, evs_get, ids_get, evss_get, idss_get, at_e0, at_e1, at_e2, at_e3, at_e4, at_d0, at_d1, at_l, at_agg, asL_vs, asI_i, asU_u, asB_b, bofZ, bof1, bof0, List.getD_cons_zero, List.getD_cons_succ]; first | done | omega | rfl | (simp; done) | (simp; omega)) | (intros; trivial))); try cbv)
    | fail
  )
  all_goals (try simp only [nc] at *)
  all_goals (try simp (disch := omega) only [nc, nct, w64_of, Int.toNat_natCast, Int.toNat_zero, List.length_map, is_len, us_len, ps_len, is_get, us_get, ps_get, at_i, at_u, at_p0, at_p1, evs_len, ids_len, evss_len, idss_len, evs_get, ids_get, evss_get, idss_get, at_e0, at_e1, at_e2, at_e3, at_e4, at_d0, at_d1, at_l, at_agg, asL_vs, asI_i, asU_u, asB_b, bofZ, bof1, bof0, List.getD_cons_zero, List.getD_cons_succ])
  simp [longE]
/-- the first that is such; -1 -/
def firstM {α : Type} (p : α → Bool) (l : List α) : Int := match l.findIdx? p with | some i => i | none => -1
theorem firstM_at {α : Type} {p : α → Bool} {l : List α} (d : α) (i : Nat) (hi : i < l.length) (h : p (l.getD i d) = true) (h2 : ∀ j < i, p (l.getD j d) = false) : firstM p l = i := by
  unfold firstM
  have : l.findIdx? p = some i := by
    rw [List.findIdx?_eq_some_iff_getElem]
    refine ⟨hi, by simpa [hi] using h, fun j hj => ?_⟩
    have hjl : j < l.length := by omega
    have := h2 j hj
    simp only [List.getD_eq_getElem?_getD, List.getElem?_eq_getElem hjl, Option.getD_some] at this
    simp [this]
  rw [this]
theorem firstM_none {α : Type} {p : α → Bool} {l : List α} (d : α) (h : ∀ j < l.length, p (l.getD j d) = false) : firstM p l = -1 := by
  unfold firstM
  have : l.findIdx? p = none := by
    rw [List.findIdx?_eq_none_iff]
    intro a ha
    obtain ⟨j, hj, rfl⟩ := List.getElem_of_mem ha
    simpa [hj] using h j hj
  rw [this]
theorem firstM_any {α : Type} {p : α → Bool} {l : List α} : decide (0 ≤ firstM p l) = l.any p := by
  unfold firstM
  cases h : l.findIdx? p with
  | none => rw [List.findIdx?_eq_none_iff] at h; simp; exact h
  | some i =>
    rw [List.findIdx?_eq_some_iff_getElem] at h
    obtain ⟨h1, h2, _⟩ := h
    simp
    exact ⟨_, List.getElem_mem h1, h2⟩
theorem indexFunc_ok (l : List (List Ev)) (hl : (l.length : Int) ≤ 9223372036854775807) : Pure Try.prog γ false 203 [.vs 1 fun _ => evss l, .fn 188 [] []] (.i fun _ => firstM longE l) := by
  refine Pure.go (ty := ty) ty_eq mo Try.func203 rfl Try.ntmps203 Try.results203 Try.call203 (by simp) fun P C CQ D W F E hF => ?_
  cbv
  refine E.loopS (ι := Nat) (fun i => i ≤ l.length ∧ (∀ j < i, longE (l.getD j []) = false)) (fun i => l.length - i) (fun i => [(8, .i fun _ => ((i : Nat) : Int))]) (fun i h => h) 0 (fun _ => by first | rfl | simp) ⟨Nat.zero_le _, ?_⟩ ?_ fun i hi I hI => ?_
  · intro j hj; omega
  · cbv; simp
  obtain ⟨hi, hok⟩ := hi
  cbv
  repeat' (first
    | (refine hI (i + 1) ?_ ?_ ?_; rotate_left 1; (· ((try simp only [nc] at *); omega)); (cbv; clear hI; (try clear hF); (try simp only [nc] at *); (try simp (disch := omega) only [nc, nct, w64_of, Int.toNat_natCast, Int.toNat_zero, List.length_map, is_len, us_len, ps_len, is_get, us_get, ps_get, at_i, at_u, at_p0, at_p1, evs_len, ids_len, evss_len, idss_len, evs_get, ids_get, evss_get, idss_get, at_e0, at_e1, at_e2, at_e3, at_e4, at_d0, at_d1, at_l, at_agg, asL_vs, asI_i, asU_u, asB_b, bofZ, bof1, bof0, List.getD_cons_zero, List.getD_cons_succ, implies_true, and_true, true_and, forall_const])); rotate_left 1; (try ((try simp only [nc] at *); omega)))
    | (refine E.c (SCalls.of_le (tooLong1_ok (l.getD i [])) ?_ ?_); (· (cbv; (try simp only [nc] at *); first | done | (simp; done) | (simp (disch := omega) only [nc, nct, w64_of, Int.toNat_natCast, Int.toNat_zero, List.length_map, is_len, us_len, ps_len, is_get, us_get, ps_get, at_i, at_u, at_p0, at_p1, evs_len, ids_len, evss_len, idss_len, evs_get, ids_get, evss_get, idss_get, at_e0, at_e1, at_e2, at_e3, at_e4, at_d0, at_d1, at_l, at_agg, asL_vs, asI_i, asU_u, asB_b, bofZ, bof1, bof0, List.getD_cons_zero, List.getD_cons_succ, implies_true, and_true, true_and, forall_const]; first | done | omega | (refine ⟨?_, ?_⟩ <;> omega)) | (simp (disch := omega) [nc, nct, w64_of, Int.toNat_natCast, Int.toNat_zero, List.length_map, is_len, us_len, ps_len, is_get, us_get, ps_get, at_i, at_u, at_p0, at_p1, evs_len, ids_len, evss_len, idss_len, evs_get, ids_get, evss_get, idss_get, at_e0, at_e1, at_e2, at_e3, at_e4, at_d0, at_d1, at_l, at_agg, asL_vs, asI_i, asU_u, asB_b, bofZ, bof1, bof0, List.getD_cons_zero, List.getD_cons_succ]; done))); cbv)
    | (refine ⟨fun _ h_s => ?_, fun _ h_s => ?_⟩ <;> (cbv; (try simp only [nc] at *); try simp (disch := omega) only [nc, nct, w64_of, Int.toNat_natCast, Int.toNat_zero, List.length_map, is_len, us_len, ps_len, is_get, us_get, ps_get, at_i, at_u, at_p0, at_p1, evs_len, ids_len, evss_len, idss_len, evs_get, ids_get, evss_get, idss_get, at_e0, at_e1, at_e2, at_e3, at_e4, at_d0, at_d1, at_l, at_agg, asL_vs, asI_i, asU_u, asB_b, bofZ, bof1, bof0, List.getD_cons_zero, List.getD_cons_succ, decide_eq_true_eq, decide_eq_false_iff_not, Bool.not_eq_true, Bool.not_eq_false, Bool.not_eq_true', Bool.not_eq_false', ne_eq, Decidable.not_not, Int.not_le, Int.not_lt, beq_iff_eq] at h_s))
    | (refine hF ?_; intro _; clear hF)
    | (refine hF ?_; cbv; clear hF)
    | (refine ⟨fun _ => ?_, ?_⟩; (· ((try simp only [nc] at *); first | done | omega | (simp (disch := omega) only [nc, nct, w64_of, Int.toNat_natCast, Int.toNat_zero, List.length_map, is_len, us_len, ps_len, is_get, us_get, ps_get, at_i, at_u, at_p0, at_p1, evs_len, ids_len, evss_len, idss_len, evs_get, ids_get, evss_get, idss_get, at_e0, at_e1, at_e2, at_e3, at_e4, at_d0, at_d1, at_l, at_agg, asL_vs, asI_i, asU_u, asB_b, bofZ, bof1, bof0, List.getD_cons_zero, List.getD_cons_succ]; first | done | omega | rfl | (simp; done) | (simp; omega)) | (intros; trivial))); try cbv)
    | fail
  )
  all_goals (try simp only [nc] at *)
  all_goals (try simp (disch := omega) only [nc, nct, w64_of, Int.toNat_natCast, Int.toNat_zero, List.length_map, is_len, us_len, ps_len, is_get, us_get, ps_get, at_i, at_u, at_p0, at_p1, evs_len, ids_len, evss_len, idss_len, evs_get, ids_get, evss_get, idss_get, at_e0, at_e1, at_e2, at_e3, at_e4, at_d0, at_d1, at_l, at_agg, asL_vs, asI_i, asU_u, asB_b, bofZ, bof1, bof0, List.getD_cons_zero, List.getD_cons_succ])
  · exact (firstM_at [] i (by omega) (by assumption) hok).symm
  · refine ⟨by omega, fun j hj => ?_⟩
    rcases Nat.lt_or_ge j i with h | h
    · exact hok j h
    · obtain rfl : j = i := by omega
      assumption
  · omega
  · exact (firstM_none [] fun j hj => hok j (by omega)).symm
theorem containsFunc_ok (l : List (List Ev)) (hl : (l.length : Int) ≤ 9223372036854775807) : Pure Try.prog γ false 187 [.vs 1 fun _ => evss l, .fn 188 [] []] (.b fun _ => l.any longE) := by
  refine Pure.go (ty := ty) ty_eq mo Try.func187 rfl Try.ntmps187 Try.results187 Try.call187 (by simp) fun P C CQ D W F E hF => ?_
  cbv
  repeat' (first
    | (refine E.c (SCalls.of_le (indexFunc_ok l hl) ?_ ?_); (· (cbv; (try simp only [nc] at *); first | done | (simp; done) | (simp (disch := omega) only [nc, nct, w64_of, Int.toNat_natCast, Int.toNat_zero, List.length_map, is_len, us_len, ps_len, is_get, us_get, ps_get, at_i, at_u, at_p0, at_p1, evs_len, ids_len, evss_len, idss_len, evs_get, ids_get, evss_get, idss_get, at_e0, at_e1, at_e2, at_e3, at_e4, at_d0, at_d1, at_l, at_agg, asL_vs, asI_i, asU_u, asB_b, bofZ, bof1, bof0, List.getD_cons_zero, List.getD_cons_succ, implies_true, and_true, true_and, forall_const]; first | done | omega | (refine ⟨?_, ?_⟩ <;> omega)) | (simp (disch := omega) [nc, nct, w64_of, Int.toNat_natCast, Int.toNat_zero, List.length_map, is_len, us_len, ps_len, is_get, us_get, ps_get, at_i, at_u, at_p0, at_p1, evs_len, ids_len, evss_len, idss_len, evs_get, ids_get, evss_get, idss_get, at_e0, at_e1, at_e2, at_e3, at_e4, at_d0, at_d1, at_l, at_agg, asL_vs, asI_i, asU_u, asB_b, bofZ, bof1, bof0, List.getD_cons_zero, List.getD_cons_succ]; done))); cbv)
    | (refine ⟨fun _ h_s => ?_, fun _ h_s => ?_⟩ <;> (cbv; (try simp only [nc] at *); try simp (disch := omega) only [nc, nct, w64_of, Int.toNat_natCast, Int.toNat_zero, List.length_map, is_len, us_len, ps_len, is_get, us_get, ps_get, at_i, at_u, at_p0, at_p1, evs_len, ids_len, evss_len, idss_len, evs_get, ids_get, evss_get, idss_get, at_e0, at_e1, at_e2, at_e3, at_e4, at_d0, at_d1, at_l, at_agg, asL_vs, asI_i, asU_u, asB_b, bofZ, bof1, bof0, List.getD_cons_zero, List.getD_cons_succ, decide_eq_true_eq, decide_eq_false_iff_not, Bool.not_eq_true, Bool.not_eq_false, Bool.not_eq_true', Bool.not_eq_false', ne_eq, Decidable.not_not, Int.not_le, Int.not_lt, beq_iff_eq] at h_s))
    | (refine hF ?_; intro _; clear hF)
    | (refine hF ?_; cbv; clear hF)
    | (refine ⟨fun _ => ?_, ?_⟩; (· ((try simp only [nc] at *); first | done | omega | (simp (disch := omega) only [nc, nct, w64_of, Int.toNat_natCast, Int.toNat_zero, List.length_map, is_len, us_len, ps_len, is_get, us_get, ps_get, at_i, at_u, at_p0, at_p1, evs_len, ids_len, evss_len, idss_len, evs_get, ids_get, evss_get, idss_get, at_e0, at_e1, at_e2, at_e3, at_e4, at_d0, at_d1, at_l, at_agg, asL_vs, asI_i, asU_u, asB_b, bofZ, bof1, bof0, List.getD_cons_zero, List.getD_cons_succ]; first | done | omega | rfl | (simp; done) | (simp; omega)) | (intros; trivial))); try cbv)
    | fail
  )
  all_goals (try simp only [nc] at *)
  all_goals (try simp (disch := omega) only [nc, nct, w64_of, Int.toNat_natCast, Int.toNat_zero, List.length_map, is_len, us_len, ps_len, is_get, us_get, ps_get, at_i, at_u, at_p0, at_p1, evs_len, ids_len, evss_len, idss_len, evs_get, ids_get, evss_get, idss_get, at_e0, at_e1, at_e2, at_e3, at_e4, at_d0, at_d1, at_l, at_agg, asL_vs, asI_i, asU_u, asB_b, bofZ, bof1, bof0, List.getD_cons_zero, List.getD_cons_succ])
  exact firstM_any
theorem short_iff (g : Gr) : Short g ↔ g.th.length ≤ 4 ∧ g.init.length ≤ 6 ∧ g.th.any longE = false := by
  constructor
  · intro h
    refine ⟨h.th, h.init, ?_⟩
    rw [List.any_eq_false]
    intro l hl
    have := h.ths l hl
    simp [longE]; omega
  · rintro ⟨h1, h2, h3⟩
    refine ⟨h1, h2, fun l hl => ?_⟩
    rw [List.any_eq_false] at h3
    have := h3 l hl
    simp [longE] at this; omega
theorem tooLong_ok (g : Gr) (hg : Rd g) : Pure Try.prog γ false 158 [aGr g] (.b fun _ => !decide (Short g)) := by
  have hg2 := hg.th
  refine Pure.go (ty := ty) ty_eq mo Try.func158 rfl Try.ntmps158 Try.results158 Try.call158 (by simp) fun P C CQ D W F E hF => ?_
  cbv
  repeat' (first
    | (refine E.c (SCalls.of_le (containsFunc_ok g.th hg2) ?_ ?_); (· (cbv; (try simp only [nc] at *); first | done | (simp; done) | (simp (disch := omega) only [nc, nct, w64_of, Int.toNat_natCast, Int.toNat_zero, List.length_map, is_len, us_len, ps_len, is_get, us_get, ps_get, at_i, at_u, at_p0, at_p1, evs_len, ids_len, evss_len, idss_len, evs_get, ids_get, evss_get, idss_get, at_e0, at_e1, at_e2, at_e3, at_e4, at_d0, at_d1, at_l, at_agg, asL_vs, asI_i, asU_u, asB_b, bofZ, bof1, bof0, List.getD_cons_zero, List.getD_cons_succ, implies_true, and_true, true_and, forall_const]; first | done | omega | (refine ⟨?_, ?_⟩ <;> omega)) | (simp (disch := omega) [nc, nct, w64_of, Int.toNat_natCast, Int.toNat_zero, List.length_map, is_len, us_len, ps_len, is_get, us_get, ps_get, at_i, at_u, at_p0, at_p1, evs_len, ids_len, evss_len, idss_len, evs_get, ids_get, evss_get, idss_get, at_e0, at_e1, at_e2, at_e3, at_e4, at_d0, at_d1, at_l, at_agg, asL_vs, asI_i, asU_u, asB_b, bofZ, bof1, bof0, List.getD_cons_zero, List.getD_cons_succ]; done))); cbv)
    | (refine E.q (QCalls.of_le (containsFunc_ok g.th hg2) ?_ ?_); (· (cbv; (try simp only [nc] at *); first | done | (simp; done) | (simp (disch := omega) only [nc, nct, w64_of, Int.toNat_natCast, Int.toNat_zero, List.length_map, is_len, us_len, ps_len, is_get, us_get, ps_get, at_i, at_u, at_p0, at_p1, evs_len, ids_len, evss_len, idss_len, evs_get, ids_get, evss_get, idss_get, at_e0, at_e1, at_e2, at_e3, at_e4, at_d0, at_d1, at_l, at_agg, asL_vs, asI_i, asU_u, asB_b, bofZ, bof1, bof0, List.getD_cons_zero, List.getD_cons_succ, implies_true, and_true, true_and, forall_const]; first | done | omega | (refine ⟨?_, ?_⟩ <;> omega)) | (simp (disch := omega) [nc, nct, w64_of, Int.toNat_natCast, Int.toNat_zero, List.length_map, is_len, us_len, ps_len, is_get, us_get, ps_get, at_i, at_u, at_p0, at_p1, evs_len, ids_len, evss_len, idss_len, evs_get, ids_get, evss_get, idss_get, at_e0, at_e1, at_e2, at_e3, at_e4, at_d0, at_d1, at_l, at_agg, asL_vs, asI_i, asU_u, asB_b, bofZ, bof1, bof0, List.getD_cons_zero, List.getD_cons_succ]; done))); cbv)
    | (refine ⟨fun _ h_s => ?_, fun _ h_s => ?_⟩ <;> (cbv; (try simp only [nc] at *); try simp (disch := omega) only [nc, nct, w64_of, Int.toNat_natCast, Int.toNat_zero, List.length_map, is_len, us_len, ps_len, is_get, us_get, ps_get, at_i, at_u, at_p0, at_p1, evs_len, ids_len, evss_len, idss_len, evs_get, ids_get, evss_get, idss_get, at_e0, at_e1, at_e2, at_e3, at_e4, at_d0, at_d1, at_l, at_agg, asL_vs, asI_i, asU_u, asB_b, bofZ, bof1, bof0, List.getD_cons_zero, List.getD_cons_succ, decide_eq_true_eq, decide_eq_false_iff_not, Bool.not_eq_true, Bool.not_eq_false, Bool.not_eq_true', Bool.not_eq_false', ne_eq, Decidable.not_not, Int.not_le, Int.not_lt, beq_iff_eq] at h_s))
    | (refine hF ?_; intro _; clear hF)
    | (refine hF ?_; cbv; clear hF)
    | (refine ⟨fun _ => ?_, ?_⟩; (· ((try simp only [nc] at *); first | done | omega | (simp (disch := omega) only [nc, nct, w64_of, Int.toNat_natCast, Int.toNat_zero, List.length_map, is_len, us_len, ps_len, is_get, us_get, ps_get, at_i, at_u, at_p0, at_p1, evs_len, ids_len, evss_len, idss_len, evs_get, ids_get, evss_get, idss_get, at_e0, at_e1, at_e2, at_e3, at_e4, at_d0, at_d1, at_l, at_agg, asL_vs, asI_i, asU_u, asB_b, bofZ, bof1, bof0, List.getD_cons_zero, List.getD_cons_succ]; first | done | omega | rfl | (simp; done) | (simp; omega)) | (intros; trivial))); try cbv)
    | fail
  )
  all_goals (try simp only [nc] at *)
  all_goals (try simp (disch := omega) only [nc, nct, w64_of, Int.toNat_natCast, Int.toNat_zero, List.length_map, is_len, us_len, ps_len, is_get, us_get, ps_get, at_i, at_u, at_p0, at_p1, evs_len, ids_len, evss_len, idss_len, evs_get, ids_get, evss_get, idss_get, at_e0, at_e1, at_e2, at_e3, at_e4, at_d0, at_d1, at_l, at_agg, asL_vs, asI_i, asU_u, asB_b, bofZ, bof1, bof0, List.getD_cons_zero, List.getD_cons_succ])
  all_goals
    have key : decide (Short g) = (decide (g.th.length ≤ 4) && decide (g.init.length ≤ 6) && !(g.th.any longE)) := by
      rw [Bool.eq_iff_iff, decide_eq_true_iff, short_iff]; simp only [Bool.and_eq_true, decide_eq_true_eq, Bool.not_eq_true', and_assoc]
    rw [key]
    cases hA : g.th.any longE
    all_goals (simp only [Bool.not_true, Bool.not_false, Bool.and_true, Bool.and_false])
    all_goals (try rw [decide_eq_true (show g.th.length ≤ 4 by omega)])
    all_goals (try rw [decide_eq_true (show g.init.length ≤ 6 by omega)])
    all_goals (try rw [decide_eq_false (show ¬ g.th.length ≤ 4 by omega)])
    all_goals (try rw [decide_eq_false (show ¬ g.init.length ≤ 6 by omega)])
    all_goals simp_all
end Go.AL.Rl

namespace Go.AL.Rl
open Go Go.AL Go.Proofs
set_option maxRecDepth 100000
variable {γ : Nat → Option AV}

theorem knums_id (d : EId) : knums [.i, .i] (aId d) = [d.t, d.i] := rfl
theorem mfind_ids (l : List EId) (d : EId) : mfind [.i, .i] (ids l) [d.t, d.i] = l.findIdx? fun x => decide (x = d) := by
  unfold mfind ids
  rw [LV.l_of, List.findIdx?_map]
  congr 1
  funext x
  simp only [Function.comp, knums_id]
  by_cases h : x = d
  · subst h; simp
  · simp [h]
    intro h1
    exact fun h2 => h (EId.ext' h1 h2)
theorem mok_ids (l : List EId) : mok [.i, .i] (ids l) := by
  intro v hv
  simp only [ids, LV.l_of, List.mem_map] at hv
  obtain ⟨x, _, rfl⟩ := hv
  rfl
/-- the map, by its pairs -/
abbrev mapB (m : List (EId × Int)) : Blk := .map (fun _ => ids (m.map (·.1))) fun _ => is (m.map (·.2))
/-- the writes of threads, told with their locations: those of the first threads, and the first events of the next one -/
def wsE (t : Nat) (l : List Ev) (n : Nat) : List (EId × Int) := (List.range n).flatMap fun i => if writesM (l.getD i ev0) then [(⟨t + 1, i⟩, (l.getD i ev0).loc)] else []
def wsT (g : Gr) (t : Nat) : List (EId × Int) := (List.range t).flatMap fun k => wsE k (g.th.getD k []) (g.th.getD k []).length
theorem wsE_succ (t : Nat) (l : List Ev) (n : Nat) : wsE t l (n + 1) = wsE t l n ++ if writesM (l.getD n ev0) then [(⟨t + 1, n⟩, (l.getD n ev0).loc)] else [] := by
  unfold wsE; rw [List.range_succ, List.flatMap_append]; simp
theorem wsT_succ (g : Gr) (t : Nat) : wsT g (t + 1) = wsT g t ++ wsE t (g.th.getD t []) (g.th.getD t []).length := by
  unfold wsT; rw [List.range_succ, List.flatMap_append]; simp
theorem wsE_mem {t : Nat} {l : List Ev} {n : Nat} {p : EId × Int} : p ∈ wsE t l n ↔ ∃ i < n, writesM (l.getD i ev0) = true ∧ p = (⟨t + 1, i⟩, (l.getD i ev0).loc) := by
  unfold wsE
  simp only [List.mem_flatMap, List.mem_range]
  constructor
  · rintro ⟨i, hi, h⟩
    split at h
    · exact ⟨i, hi, by assumption, by simpa using h⟩
    · cases h
  · rintro ⟨i, hi, h1, h2⟩
    exact ⟨i, hi, by rw [if_pos h1]; simp [h2]⟩
theorem wsT_mem {g : Gr} {t : Nat} {p : EId × Int} : p ∈ wsT g t ↔ ∃ k < t, ∃ i < (g.th.getD k []).length, writesM ((g.th.getD k []).getD i ev0) = true ∧ p = (⟨k + 1, i⟩, ((g.th.getD k []).getD i ev0).loc) := by
  unfold wsT
  simp only [List.mem_flatMap, List.mem_range, wsE_mem]
theorem fresh_find {l : List EId} {d : EId} (h : d ∉ l) : (l.findIdx? fun x => decide (x = d)) = none := by
  rw [List.findIdx?_eq_none_iff]
  intro x hx
  simp
  rintro rfl
  exact h hx
theorem mput_new (l : List EId) (d : EId) (h : d ∉ l) (k : List Int) (hk : k = [d.t, d.i]) (v : AV) (hv : v = aId d) : mputK (mfind [.i, .i] (ids l) k) (ids l) v = ids (l ++ [d]) := by
  subst hk; subst hv
  rw [mfind_ids, fresh_find h]
  simp [mputK, ids]
theorem mputV_new (l : List EId) (d : EId) (h : d ∉ l) (k : List Int) (hk : k = [d.t, d.i]) (vs : List Int) (n : Int) (v : AV) (hv : v = .i fun _ => n) : mputV (mfind [.i, .i] (ids l) k) (is vs) v = is (vs ++ [n]) := by
  subst hk; subst hv
  rw [mfind_ids, fresh_find h]
  simp [mputV, is]
theorem ws_fresh (g : Gr) (t i : Nat) : (⟨t + 1, i⟩ : EId) ∉ (wsT g t ++ wsE t (g.th.getD t []) i).map (·.1) := by
  intro h
  obtain ⟨p, hp, he⟩ := List.mem_map.1 h
  rcases List.mem_append.1 hp with hp | hp
  · obtain ⟨k, hk, j, _, _, rfl⟩ := wsT_mem.1 hp
    have := congrArg EId.t he
    simp at this; omega
  · obtain ⟨j, hj, _, rfl⟩ := wsE_mem.1 hp
    have := congrArg EId.i he
    simp at this; omega
/-- Order's, told with their locations: those of the first locations, and the first ones of the next -/
def qsT (g : Gr) (x : Nat) : List (EId × Int) := (List.range x).flatMap fun k => (g.ord.getD k []).map fun d => (d, (k : Int))
def qsE (g : Gr) (x i : Nat) : List (EId × Int) := ((g.ord.getD x []).take i).map fun d => (d, (x : Int))
theorem qsT_succ (g : Gr) (x : Nat) : qsT g (x + 1) = qsT g x ++ qsE g x (g.ord.getD x []).length := by
  unfold qsT qsE; rw [List.range_succ, List.flatMap_append]; simp
theorem qsE_succ (g : Gr) (x i : Nat) (h : i < (g.ord.getD x []).length) : qsE g x (i + 1) = qsE g x i ++ [((g.ord.getD x []).getD i id0, (x : Int))] := by
  unfold qsE; rw [take_succ' _ i id0 h, List.map_append]; simp
/-- what is left when these are struck off one by one -/
def strike : List (EId × Int) → List (EId × Int) → Option (List (EId × Int))
  | [], m => some m
  | q :: qs, m => if q ∈ m then strike qs (m.erase q) else none
theorem strike_app : ∀ (a b m : List (EId × Int)), strike (a ++ b) m = (strike a m).bind (strike b)
  | [], b, m => rfl
  | q :: a, b, m => by
    simp only [List.cons_append, strike]
    split
    · exact strike_app a b _
    · rfl
theorem strike_perm : ∀ (q m : List (EId × Int)), strike q m = some [] ↔ q.Perm m
  | [], m => by
    simp only [strike, Option.some.injEq]
    constructor
    · rintro rfl; exact .refl _
    · intro h; exact h.symm.eq_nil
  | a :: q, m => by
    simp only [strike]
    split
    · rename_i h
      rw [strike_perm q]
      constructor
      · intro h2; exact (h2.cons a).trans (List.perm_cons_erase h).symm
      · intro h2; exact List.Perm.cons_inv (h2.trans (List.perm_cons_erase h))
    · rename_i h
      constructor
      · intro h2; cases h2
      · intro h2; exact absurd (h2.subset (by simp)) h
/-- keys once -/
def Keyed (m : List (EId × Int)) : Prop := (m.map (·.1)).Nodup
def mlook (d : EId) : List (EId × Int) → Option Int
  | [] => none
  | p :: m => if p.1 = d then some p.2 else mlook d m
abbrev mfd (m : List (EId × Int)) (d : EId) : Option Nat := (m.map (·.1)).findIdx? fun x => decide (x = d)
theorem mfd_cons (p : EId × Int) (m : List (EId × Int)) (d : EId) : mfd (p :: m) d = if p.1 = d then some 0 else (mfd m d).map (· + 1) := by
  simp only [mfd, List.map_cons, List.findIdx?_cons]
  by_cases h : p.1 = d <;> simp [h]
theorem mlook_isSome (d : EId) : ∀ (m : List (EId × Int)), (mfd m d).isSome = (mlook d m).isSome
  | [] => rfl
  | p :: m => by
    rw [mfd_cons, mlook]
    split
    · rfl
    · rw [Option.isSome_map, mlook_isSome d m]
theorem mlook_val (d : EId) : ∀ (m : List (EId × Int)) (i : Nat), mfd m d = some i → i < m.length ∧ mlook d m = some ((m.map (·.2)).getD i 0)
  | [], i, h => by simp [mfd] at h
  | p :: m, i, h => by
    rw [mfd_cons] at h
    rw [mlook]
    split at h
    · rename_i e; cases h; rw [if_pos e]; simp
    · rename_i e
      rw [Option.map_eq_some_iff] at h
      obtain ⟨j, hj, rfl⟩ := h
      obtain ⟨h1, h2⟩ := mlook_val d m j hj
      rw [if_neg e, h2]
      exact ⟨by simp; omega, by simp⟩
theorem mlook_mem (d : EId) (x : Int) : ∀ (m : List (EId × Int)), Keyed m → (mlook d m = some x ↔ (d, x) ∈ m)
  | [], _ => by simp [mlook]
  | p :: m, hk => by
    have hk' : Keyed m := (List.nodup_cons.1 hk).2
    have hn : p.1 ∉ m.map (·.1) := (List.nodup_cons.1 hk).1
    rw [mlook, List.mem_cons]
    split
    · rename_i e
      constructor
      · intro h; left; cases h; subst e; rfl
      · rintro (h | h)
        · rw [← h]
        · exact absurd (e ▸ List.mem_map.2 ⟨_, h, rfl⟩ : p.1 ∈ m.map (·.1)) hn
    · rename_i e
      rw [mlook_mem d x m hk']
      constructor
      · exact .inr
      · rintro (h | h)
        · exact absurd (by rw [← h]) e
        · exact h
theorem mlook_del (d : EId) (x : Int) : ∀ (m : List (EId × Int)) (i : Nat), mfd m d = some i → mlook d m = some x → m.eraseIdx i = m.erase (d, x)
  | [], i, h, _ => by simp [mfd] at h
  | p :: m, i, h, h2 => by
    rw [mfd_cons] at h
    rw [mlook] at h2
    split at h
    · rename_i e
      rw [if_pos e] at h2
      cases h; cases h2
      have : p = (d, p.2) := by rw [← e]
      rw [this]; simp
    · rename_i e
      rw [if_neg e] at h2
      rw [Option.map_eq_some_iff] at h
      obtain ⟨j, hj, rfl⟩ := h
      have ih := mlook_del d x m j hj h2
      have hne : ¬ (p == (d, x)) = true := by
        intro h; rw [beq_iff_eq] at h; exact e (by rw [h])
      rw [List.eraseIdx_cons_succ, ih, List.erase_cons_tail hne]
theorem lk_some (m : List (EId × Int)) (d : EId) (k : List Int) (hk : k = [d.t, d.i]) : (mfind [.i, .i] (ids (m.map (·.1))) k).isSome = (mlook d m).isSome := by
  subst hk; rw [mfind_ids]; exact mlook_isSome d m
theorem lk_val (m : List (EId × Int)) (d : EId) (k : List Int) (hk : k = [d.t, d.i]) (z : AV) (hz : (z.at 0).asI = 0) : ((mval (mfind [.i, .i] (ids (m.map (·.1))) k) (is (m.map (·.2))) z).at 0).asI = (mlook d m).getD 0 := by
  subst hk; rw [mfind_ids]
  show ((mval (mfd m d) _ z).at 0).asI = _
  cases h : mfd m d with
  | none =>
    have := mlook_isSome d m
    rw [h] at this
    cases h2 : mlook d m with
    | none => exact hz
    | some v => rw [h2] at this; cases this
  | some i =>
    obtain ⟨h1, h2⟩ := mlook_val d m i h
    rw [h2]
    simp only [mval]
    rw [is_get _ i (by simpa using h1)]; rfl
theorem lk_del (m : List (EId × Int)) (d : EId) (x : Int) (k : List Int) (hk : k = [d.t, d.i]) (h : mlook d m = some x) :
    mdel (mfind [.i, .i] (ids (m.map (·.1))) k) (ids (m.map (·.1))) = ids ((m.erase (d, x)).map (·.1)) ∧ mdel (mfind [.i, .i] (ids (m.map (·.1))) k) (is (m.map (·.2))) = is ((m.erase (d, x)).map (·.2)) := by
  subst hk; rw [mfind_ids]
  show mdel (mfd m d) _ = _ ∧ mdel (mfd m d) _ = _
  have h1 := mlook_isSome d m
  rw [h] at h1
  cases hf : mfd m d with
  | none => rw [hf] at h1; cases h1
  | some i =>
    have := mlook_del d x m i hf h
    rw [← this]
    simp only [mdel, ids, is, LV.l_of]
    constructor <;> (rw [map_erase, map_erase])
theorem keyed_erase {m : List (EId × Int)} (h : Keyed m) (p : EId × Int) : Keyed (m.erase p) := List.Nodup.sublist (List.Sublist.map _ List.erase_sublist) h
theorem is_vals (l : List Int) : ∀ v ∈ (is l).l, v = ckv .i (fun _ => v) 0 := by
  intro v hv
  simp only [is, LV.l_of, List.mem_map] at hv
  obtain ⟨x, _, rfl⟩ := hv
  rfl
theorem strike_no {q1 q2 m m1 : List (EId × Int)} {p : EId × Int} (h : strike q1 m = some m1) (hp : p ∉ m1) : ¬ (q1 ++ p :: q2).Perm m := by
  intro hq
  have := (strike_perm _ _).2 hq
  rw [strike_app, h, Option.bind_some, strike, if_neg hp] at this
  cases this
theorem qsT_split (g : Gr) (x i : Nat) (hx : x < g.ord.length) (hi : i < (g.ord.getD x []).length) : ∃ r, qsT g g.ord.length = (qsT g x ++ qsE g x i) ++ ((g.ord.getD x []).getD i id0, (x : Int)) :: r := by
  have h1 : ∀ n, ∃ r, qsT g (x + 1 + n) = qsT g (x + 1) ++ r := by
    intro n
    induction n with
    | zero => exact ⟨[], by simp⟩
    | succ n ih => obtain ⟨r, hr⟩ := ih; exact ⟨r ++ qsE g (x + 1 + n) (g.ord.getD (x + 1 + n) []).length, by rw [← Nat.add_assoc, qsT_succ, hr, List.append_assoc]⟩
  have h2 : ∀ n, ∃ r, i + 1 + n ≤ (g.ord.getD x []).length → qsE g x (i + 1 + n) = qsE g x (i + 1) ++ r := by
    intro n
    induction n with
    | zero => exact ⟨[], by simp⟩
    | succ n ih =>
      obtain ⟨r, hr⟩ := ih
      refine ⟨r ++ [((g.ord.getD x []).getD (i + 1 + n) id0, (x : Int))], fun h => ?_⟩
      rw [← Nat.add_assoc, qsE_succ g x _ (by omega), hr (by omega), List.append_assoc]
  obtain ⟨r1, hr1⟩ := h1 (g.ord.length - (x + 1))
  obtain ⟨r2, hr2⟩ := h2 ((g.ord.getD x []).length - (i + 1))
  have hr2 := hr2 (by omega)
  rw [show x + 1 + (g.ord.length - (x + 1)) = g.ord.length by omega] at hr1
  rw [show i + 1 + ((g.ord.getD x []).length - (i + 1)) = (g.ord.getD x []).length by omega] at hr2
  refine ⟨r2 ++ r1, ?_⟩
  rw [hr1, qsT_succ, hr2, qsE_succ g x i hi]
  simp
theorem wsE_keyed (t : Nat) (l : List Ev) : ∀ n, Keyed (wsE t l n)
  | 0 => by simp [wsE, Keyed]
  | n + 1 => by
    rw [wsE_succ]
    unfold Keyed
    rw [List.map_append, List.nodup_append]
    refine ⟨wsE_keyed t l n, by split <;> simp, ?_⟩
    intro a ha b hb
    obtain ⟨p, hp, rfl⟩ := List.mem_map.1 ha
    obtain ⟨i, hi, _, rfl⟩ := wsE_mem.1 hp
    split at hb
    · simp at hb; subst hb; intro h; have := congrArg EId.i h; simp at this; omega
    · simp at hb
theorem wsT_keyed (g : Gr) : ∀ t, Keyed (wsT g t)
  | 0 => by simp [wsT, Keyed]
  | t + 1 => by
    rw [wsT_succ]
    unfold Keyed
    rw [List.map_append, List.nodup_append]
    refine ⟨wsT_keyed g t, wsE_keyed _ _ _, ?_⟩
    intro a ha b hb
    obtain ⟨p, hp, rfl⟩ := List.mem_map.1 ha
    obtain ⟨q, hq, rfl⟩ := List.mem_map.1 hb
    obtain ⟨k, hk, j, _, _, rfl⟩ := wsT_mem.1 hp
    obtain ⟨j', _, _, rfl⟩ := wsE_mem.1 hq
    intro h; have := congrArg EId.t h; simp at this; omega
theorem knums_i2 (a b : Unit → Int) : knums [.i, .i] (.agg [.i a, .i b]) = [a (), b ()] := rfl
theorem rightOrder_ok (g : Gr) (hg : Rd g) (hs : Short g) : Pure Try.prog γ false 161 [aGr g] (.b fun _ => decide ((qsT g g.ord.length).Perm (wsT g g.th.length))) := by
  have hs1 := hs.th
  have hg2 := hg.ord
  skip
  refine Pure.go (ty := ty) ty_eq mo Try.func161 rfl Try.ntmps161 Try.results161 Try.call161 (by simp) fun P C CQ D W F E hF => ?_
  cbv
  refine E.loopS (ι := Nat) (fun t => t ≤ g.th.length) (fun t => g.th.length - t) (fun t => [(18, .i fun _ => ((t : Nat) : Int))]) (fun t h => h.set 1 (mapB (wsT g t))) 0 (fun _ => by first | rfl | simp) (Nat.zero_le _) ?_ fun t ht I hI => ?_
  · cbv; simp [wsT, ids, is, LV.of]
  cbv
  refine ⟨fun _ h4 => ?_, fun _ h4 => ?_⟩
  · (try simp only [nc] at *)
    simp (disch := omega) only [nc, nct, w64_of, Int.toNat_natCast, Int.toNat_zero, List.length_map, is_len, us_len, ps_len, is_get, us_get, ps_get, at_i, at_u, at_p0, at_p1, evs_len, ids_len, evss_len, idss_len, evs_get, ids_get, evss_get, idss_get, at_e0, at_e1, at_e2, at_e3, at_e4, at_d0, at_d1, at_l, at_agg, asL_vs, asI_i, asU_u, asB_b, bofZ, bof1, bof0, List.getD_cons_zero, List.getD_cons_succ, decide_eq_true_eq, decide_eq_false_iff_not, Bool.not_eq_true, Bool.not_eq_false, Bool.not_eq_true', Bool.not_eq_false', ne_eq, Decidable.not_not, Int.not_le, Int.not_lt, beq_iff_eq] at h4
    have hht := hs.at t
    cbv
    repeat' (first
      | (refine ⟨fun _ h_s => ?_, fun _ h_s => ?_⟩ <;> (cbv; (try simp only [nc] at *); try simp (disch := omega) only [nc, nct, w64_of, Int.toNat_natCast, Int.toNat_zero, List.length_map, is_len, us_len, ps_len, is_get, us_get, ps_get, at_i, at_u, at_p0, at_p1, evs_len, ids_len, evss_len, idss_len, evs_get, ids_get, evss_get, idss_get, at_e0, at_e1, at_e2, at_e3, at_e4, at_d0, at_d1, at_l, at_agg, asL_vs, asI_i, asU_u, asB_b, bofZ, bof1, bof0, List.getD_cons_zero, List.getD_cons_succ, decide_eq_true_eq, decide_eq_false_iff_not, Bool.not_eq_true, Bool.not_eq_false, Bool.not_eq_true', Bool.not_eq_false', ne_eq, Decidable.not_not, Int.not_le, Int.not_lt, beq_iff_eq] at h_s))
      | (refine hF ?_; intro _; clear hF)
      | (refine hF ?_; cbv; clear hF)
      | (refine ⟨fun _ => ?_, ?_⟩; (· ((try simp only [nc] at *); first | done | omega | (simp (disch := omega) only [nc, nct, w64_of, Int.toNat_natCast, Int.toNat_zero, List.length_map, is_len, us_len, ps_len, is_get, us_get, ps_get, at_i, at_u, at_p0, at_p1, evs_len, ids_len, evss_len, idss_len, evs_get, ids_get, evss_get, idss_get, at_e0, at_e1, at_e2, at_e3, at_e4, at_d0, at_d1, at_l, at_agg, asL_vs, asI_i, asU_u, asB_b, bofZ, bof1, bof0, List.getD_cons_zero, List.getD_cons_succ]; first | done | omega | rfl | (simp; done) | (simp; omega)) | (intros; trivial) | exact mok_ids _)); try cbv)
      | fail
    )
    refine E.loopS (ι := Nat) (fun i => i ≤ (g.th.getD t []).length) (fun i => (g.th.getD t []).length - i) (fun i => [(25, .i fun _ => ((i : Nat) : Int))]) (fun i h => h.set 1 (mapB (wsT g t ++ wsE t (g.th.getD t []) i))) 0 (fun _ => by first | rfl | simp) (Nat.zero_le _) ?_ fun i hi I2 hI2 => ?_
    · cbv; simp [wsE]
    cbv
    repeat' (first
      | (refine hI (t + 1) ?_ ?_ ?_; rotate_left 1; (· ((try simp only [nc] at *); omega)); (cbv; clear hI; (try clear hF); (try simp only [nc] at *); (try simp (disch := omega) only [nc, nct, w64_of, Int.toNat_natCast, Int.toNat_zero, List.length_map, is_len, us_len, ps_len, is_get, us_get, ps_get, at_i, at_u, at_p0, at_p1, evs_len, ids_len, evss_len, idss_len, evs_get, ids_get, evss_get, idss_get, at_e0, at_e1, at_e2, at_e3, at_e4, at_d0, at_d1, at_l, at_agg, asL_vs, asI_i, asU_u, asB_b, bofZ, bof1, bof0, List.getD_cons_zero, List.getD_cons_succ, implies_true, and_true, true_and, forall_const])); rotate_left 1; (try ((try simp only [nc] at *); omega)))
      | (refine hI2 (i + 1) ?_ ?_ ?_; rotate_left 1; (· ((try simp only [nc] at *); omega)); (cbv; clear hI2; (try clear hF); (try simp only [nc] at *); (try simp (disch := omega) only [nc, nct, w64_of, Int.toNat_natCast, Int.toNat_zero, List.length_map, is_len, us_len, ps_len, is_get, us_get, ps_get, at_i, at_u, at_p0, at_p1, evs_len, ids_len, evss_len, idss_len, evs_get, ids_get, evss_get, idss_get, at_e0, at_e1, at_e2, at_e3, at_e4, at_d0, at_d1, at_l, at_agg, asL_vs, asI_i, asU_u, asB_b, bofZ, bof1, bof0, List.getD_cons_zero, List.getD_cons_succ, implies_true, and_true, true_and, forall_const])); rotate_left 1; (try ((try simp only [nc] at *); omega)))
      | (refine E.c (SCalls.of_le (gwrites_ok ((g.th.getD t []).getD i ev0)) ?_ ?_); (· (cbv; (try simp only [nc] at *); first | done | (simp; done) | (simp (disch := omega) only [nc, nct, w64_of, Int.toNat_natCast, Int.toNat_zero, List.length_map, is_len, us_len, ps_len, is_get, us_get, ps_get, at_i, at_u, at_p0, at_p1, evs_len, ids_len, evss_len, idss_len, evs_get, ids_get, evss_get, idss_get, at_e0, at_e1, at_e2, at_e3, at_e4, at_d0, at_d1, at_l, at_agg, asL_vs, asI_i, asU_u, asB_b, bofZ, bof1, bof0, List.getD_cons_zero, List.getD_cons_succ, implies_true, and_true, true_and, forall_const]; first | done | omega | (refine ⟨?_, ?_⟩ <;> omega)) | (simp (disch := omega) [nc, nct, w64_of, Int.toNat_natCast, Int.toNat_zero, List.length_map, is_len, us_len, ps_len, is_get, us_get, ps_get, at_i, at_u, at_p0, at_p1, evs_len, ids_len, evss_len, idss_len, evs_get, ids_get, evss_get, idss_get, at_e0, at_e1, at_e2, at_e3, at_e4, at_d0, at_d1, at_l, at_agg, asL_vs, asI_i, asU_u, asB_b, bofZ, bof1, bof0, List.getD_cons_zero, List.getD_cons_succ]; done))); cbv)
      | (refine ⟨fun _ h_s => ?_, fun _ h_s => ?_⟩ <;> (cbv; (try simp only [nc] at *); try simp (disch := omega) only [nc, nct, w64_of, Int.toNat_natCast, Int.toNat_zero, List.length_map, is_len, us_len, ps_len, is_get, us_get, ps_get, at_i, at_u, at_p0, at_p1, evs_len, ids_len, evss_len, idss_len, evs_get, ids_get, evss_get, idss_get, at_e0, at_e1, at_e2, at_e3, at_e4, at_d0, at_d1, at_l, at_agg, asL_vs, asI_i, asU_u, asB_b, bofZ, bof1, bof0, List.getD_cons_zero, List.getD_cons_succ, decide_eq_true_eq, decide_eq_false_iff_not, Bool.not_eq_true, Bool.not_eq_false, Bool.not_eq_true', Bool.not_eq_false', ne_eq, Decidable.not_not, Int.not_le, Int.not_lt, beq_iff_eq] at h_s))
      | (refine hF ?_; intro _; clear hF)
      | (refine hF ?_; cbv; clear hF)
      | (refine ⟨fun _ => ?_, ?_⟩; (· ((try simp only [nc] at *); first | done | omega | (simp (disch := omega) only [nc, nct, w64_of, Int.toNat_natCast, Int.toNat_zero, List.length_map, is_len, us_len, ps_len, is_get, us_get, ps_get, at_i, at_u, at_p0, at_p1, evs_len, ids_len, evss_len, idss_len, evs_get, ids_get, evss_get, idss_get, at_e0, at_e1, at_e2, at_e3, at_e4, at_d0, at_d1, at_l, at_agg, asL_vs, asI_i, asU_u, asB_b, bofZ, bof1, bof0, List.getD_cons_zero, List.getD_cons_succ]; first | done | omega | rfl | (simp; done) | (simp; omega)) | (intros; trivial) | exact mok_ids _)); try cbv)
      | fail
    )
    all_goals (try simp only [nc] at *)
    all_goals (try simp (disch := omega) only [nc, nct, w64_of, Int.toNat_natCast, Int.toNat_zero, List.length_map, is_len, us_len, ps_len, is_get, us_get, ps_get, at_i, at_u, at_p0, at_p1, evs_len, ids_len, evss_len, idss_len, evs_get, ids_get, evss_get, idss_get, at_e0, at_e1, at_e2, at_e3, at_e4, at_d0, at_d1, at_l, at_agg, asL_vs, asI_i, asU_u, asB_b, bofZ, bof1, bof0, List.getD_cons_zero, List.getD_cons_succ])
    · refine ⟨by omega, ?_, ?_⟩
      · refine (mput_new _ ⟨t + 1, i⟩ (ws_fresh g t i) _ rfl _ rfl).trans ?_
        rw [wsE_succ, if_pos (by assumption)]
        simp
      · refine (mputV_new _ ⟨t + 1, i⟩ (ws_fresh g t i) _ rfl _ ((g.th.getD t []).getD i ev0).loc _ rfl).trans ?_
        rw [wsE_succ, if_pos (by assumption)]
        simp
    · refine ⟨by omega, ?_⟩
      rw [wsE_succ, if_neg (by simp_all)]
      simp
    · have e : i = (g.th.getD t []).length := by omega
      rw [e, wsT_succ]
      exact ⟨by omega, rfl, rfl⟩
  clear hI
  (try simp only [nc] at *)
  simp (disch := omega) only [nc, nct, w64_of, Int.toNat_natCast, Int.toNat_zero, List.length_map, is_len, us_len, ps_len, is_get, us_get, ps_get, at_i, at_u, at_p0, at_p1, evs_len, ids_len, evss_len, idss_len, evs_get, ids_get, evss_get, idss_get, at_e0, at_e1, at_e2, at_e3, at_e4, at_d0, at_d1, at_l, at_agg, asL_vs, asI_i, asU_u, asB_b, bofZ, bof1, bof0, List.getD_cons_zero, List.getD_cons_succ, decide_eq_true_eq, decide_eq_false_iff_not, Bool.not_eq_true, Bool.not_eq_false, Bool.not_eq_true', Bool.not_eq_false', ne_eq, Decidable.not_not, Int.not_le, Int.not_lt, beq_iff_eq] at h4
  have e : t = g.th.length := by omega
  subst e
  cbv
  repeat' (first
    | (refine ⟨fun _ h_s => ?_, fun _ h_s => ?_⟩ <;> (cbv; (try simp only [nc] at *); try simp (disch := omega) only [nc, nct, w64_of, Int.toNat_natCast, Int.toNat_zero, List.length_map, is_len, us_len, ps_len, is_get, us_get, ps_get, at_i, at_u, at_p0, at_p1, evs_len, ids_len, evss_len, idss_len, evs_get, ids_get, evss_get, idss_get, at_e0, at_e1, at_e2, at_e3, at_e4, at_d0, at_d1, at_l, at_agg, asL_vs, asI_i, asU_u, asB_b, bofZ, bof1, bof0, List.getD_cons_zero, List.getD_cons_succ, decide_eq_true_eq, decide_eq_false_iff_not, Bool.not_eq_true, Bool.not_eq_false, Bool.not_eq_true', Bool.not_eq_false', ne_eq, Decidable.not_not, Int.not_le, Int.not_lt, beq_iff_eq] at h_s))
    | (refine hF ?_; intro _; clear hF)
    | (refine hF ?_; cbv; clear hF)
    | (refine ⟨fun _ => ?_, ?_⟩; (· ((try simp only [nc] at *); first | done | omega | (simp (disch := omega) only [nc, nct, w64_of, Int.toNat_natCast, Int.toNat_zero, List.length_map, is_len, us_len, ps_len, is_get, us_get, ps_get, at_i, at_u, at_p0, at_p1, evs_len, ids_len, evss_len, idss_len, evs_get, ids_get, evss_get, idss_get, at_e0, at_e1, at_e2, at_e3, at_e4, at_d0, at_d1, at_l, at_agg, asL_vs, asI_i, asU_u, asB_b, bofZ, bof1, bof0, List.getD_cons_zero, List.getD_cons_succ]; first | done | omega | rfl | (simp; done) | (simp; omega)) | (intros; trivial) | exact mok_ids _)); try cbv)
    | fail
  )
  generalize hm0 : wsT g g.th.length = m0 at *
  have hk0 : Keyed m0 := hm0 ▸ wsT_keyed g _
  refine E.loopS (ι := Nat × List (EId × Int)) (fun j => j.1 ≤ g.ord.length ∧ strike (qsT g j.1) m0 = some j.2 ∧ Keyed j.2) (fun j => g.ord.length - j.1) (fun j => [(44, .i fun _ => ((j.1 : Nat) : Int))]) (fun j h => h.set 1 (mapB j.2)) (0, m0) (fun _ => rfl) ⟨Nat.zero_le _, rfl, hk0⟩ ?_ fun j hj I hI => ?_
  · cbv; simp
  obtain ⟨x, m⟩ := j
  obtain ⟨hx, hst, hk⟩ := hj
  simp only at hx hst hk ⊢
  cbv
  refine ⟨fun _ h5 => ?_, fun _ h5 => ?_⟩
  · (try simp only [nc] at *)
    simp (disch := omega) only [nc, nct, w64_of, Int.toNat_natCast, Int.toNat_zero, List.length_map, is_len, us_len, ps_len, is_get, us_get, ps_get, at_i, at_u, at_p0, at_p1, evs_len, ids_len, evss_len, idss_len, evs_get, ids_get, evss_get, idss_get, at_e0, at_e1, at_e2, at_e3, at_e4, at_d0, at_d1, at_l, at_agg, asL_vs, asI_i, asU_u, asB_b, bofZ, bof1, bof0, List.getD_cons_zero, List.getD_cons_succ, decide_eq_true_eq, decide_eq_false_iff_not, Bool.not_eq_true, Bool.not_eq_false, Bool.not_eq_true', Bool.not_eq_false', ne_eq, Decidable.not_not, Int.not_le, Int.not_lt, beq_iff_eq] at h5
    have hol : ((g.ord.getD x []).length : Int) ≤ 9223372036854775807 := hg.ords _ (getD_mem (by omega))
    cbv
    repeat' (first
      | (refine ⟨fun _ h_s => ?_, fun _ h_s => ?_⟩ <;> (cbv; (try simp only [nc] at *); try simp (disch := omega) only [nc, nct, w64_of, Int.toNat_natCast, Int.toNat_zero, List.length_map, is_len, us_len, ps_len, is_get, us_get, ps_get, at_i, at_u, at_p0, at_p1, evs_len, ids_len, evss_len, idss_len, evs_get, ids_get, evss_get, idss_get, at_e0, at_e1, at_e2, at_e3, at_e4, at_d0, at_d1, at_l, at_agg, asL_vs, asI_i, asU_u, asB_b, bofZ, bof1, bof0, List.getD_cons_zero, List.getD_cons_succ, decide_eq_true_eq, decide_eq_false_iff_not, Bool.not_eq_true, Bool.not_eq_false, Bool.not_eq_true', Bool.not_eq_false', ne_eq, Decidable.not_not, Int.not_le, Int.not_lt, beq_iff_eq] at h_s))
      | (refine hF ?_; intro _; clear hF)
      | (refine hF ?_; cbv; clear hF)
      | (refine ⟨fun _ => ?_, ?_⟩; (· ((try simp only [nc] at *); first | done | omega | (simp (disch := omega) only [nc, nct, w64_of, Int.toNat_natCast, Int.toNat_zero, List.length_map, is_len, us_len, ps_len, is_get, us_get, ps_get, at_i, at_u, at_p0, at_p1, evs_len, ids_len, evss_len, idss_len, evs_get, ids_get, evss_get, idss_get, at_e0, at_e1, at_e2, at_e3, at_e4, at_d0, at_d1, at_l, at_agg, asL_vs, asI_i, asU_u, asB_b, bofZ, bof1, bof0, List.getD_cons_zero, List.getD_cons_succ]; first | done | omega | rfl | (simp; done) | (simp; omega)) | (intros; trivial) | exact mok_ids _)); try cbv)
      | fail
    )
    refine E.loopS (ι := Nat × List (EId × Int)) (fun j => j.1 ≤ (g.ord.getD x []).length ∧ strike (qsT g x ++ qsE g x j.1) m0 = some j.2 ∧ Keyed j.2) (fun j => (g.ord.getD x []).length - j.1) (fun j => [(51, .i fun _ => ((j.1 : Nat) : Int))]) (fun j h => h.set 1 (mapB j.2)) (0, m) (fun _ => rfl) ⟨Nat.zero_le _, by simpa [qsE] using hst, hk⟩ ?_ fun j hj I2 hI2 => ?_
    · cbv; simp
    obtain ⟨i, m1⟩ := j
    obtain ⟨hi, hst1, hk1⟩ := hj
    simp only at hi hst1 hk1 ⊢
    cbv
    have hlk := lk_some m1 ((g.ord.getD x []).getD i id0) _ rfl
    have hlv := lk_val m1 ((g.ord.getD x []).getD i id0) _ rfl (.lit 0) rfl
    skip
    skip
    repeat' (first
      | (refine ⟨fun _ h_s => ?_, fun _ h_s => ?_⟩ <;> (cbv; (try simp only [nc] at *); try simp (disch := omega) only [nc, nct, w64_of, Int.toNat_natCast, Int.toNat_zero, List.length_map, is_len, us_len, ps_len, is_get, us_get, ps_get, at_i, at_u, at_p0, at_p1, evs_len, ids_len, evss_len, idss_len, evs_get, ids_get, evss_get, idss_get, at_e0, at_e1, at_e2, at_e3, at_e4, at_d0, at_d1, at_l, at_agg, asL_vs, asI_i, asU_u, asB_b, bofZ, bof1, bof0, List.getD_cons_zero, List.getD_cons_succ, knums_i2, decide_eq_true_eq, decide_eq_false_iff_not, Bool.not_eq_true, Bool.not_eq_false, Bool.not_eq_true', Bool.not_eq_false', ne_eq, Decidable.not_not, Int.not_le, Int.not_lt, beq_iff_eq] at h_s))
      | (refine hF ?_; intro _; clear hF)
      | (refine hF ?_; cbv; clear hF)
      | (refine ⟨fun _ => ?_, ?_⟩; (· ((try simp only [nc] at *); first | done | omega | (simp (disch := omega) only [nc, nct, w64_of, Int.toNat_natCast, Int.toNat_zero, List.length_map, is_len, us_len, ps_len, is_get, us_get, ps_get, at_i, at_u, at_p0, at_p1, evs_len, ids_len, evss_len, idss_len, evs_get, ids_get, evss_get, idss_get, at_e0, at_e1, at_e2, at_e3, at_e4, at_d0, at_d1, at_l, at_agg, asL_vs, asI_i, asU_u, asB_b, bofZ, bof1, bof0, List.getD_cons_zero, List.getD_cons_succ, knums_i2]; first | done | omega | rfl | (simp; done) | (simp; omega)) | (intros; trivial) | exact mok_ids _ | exact ⟨mok_ids _, is_vals _⟩)); (try (simp only [nc] at *)); (try simp (disch := omega) only [nc, nct, w64_of, Int.toNat_natCast, Int.toNat_zero, List.length_map, is_len, us_len, ps_len, is_get, us_get, ps_get, at_i, at_u, at_p0, at_p1, evs_len, ids_len, evss_len, idss_len, evs_get, ids_get, evss_get, idss_get, at_e0, at_e1, at_e2, at_e3, at_e4, at_d0, at_d1, at_l, at_agg, asL_vs, asI_i, asU_u, asB_b, bofZ, bof1, bof0, List.getD_cons_zero, List.getD_cons_succ, knums_i2]); (try cbv))
      | fail
    )
    all_goals (try simp only [nc] at *)
    all_goals (try simp (disch := omega) only [nc, nct, w64_of, Int.toNat_natCast, Int.toNat_zero, List.length_map, is_len, us_len, ps_len, is_get, us_get, ps_get, at_i, at_u, at_p0, at_p1, evs_len, ids_len, evss_len, idss_len, evs_get, ids_get, evss_get, idss_get, at_e0, at_e1, at_e2, at_e3, at_e4, at_d0, at_d1, at_l, at_agg, asL_vs, asI_i, asU_u, asB_b, bofZ, bof1, bof0, List.getD_cons_zero, List.getD_cons_succ, knums_i2])
    · obtain ⟨r, hr⟩ := qsT_split g x i (by omega) (by omega)
      rw [hr]
      refine decide_eq_false (strike_no hst1 fun hm => ?_)
      rw [← mlook_mem _ _ _ hk1] at hm
      simp_all
    · obtain ⟨r, hr⟩ := qsT_split g x i (by omega) (by omega)
      rw [hr]
      refine decide_eq_false (strike_no hst1 fun hm => ?_)
      rw [← mlook_mem _ _ _ hk1] at hm
      simp_all
    · have hm : mlook ((g.ord.getD x []).getD i id0) m1 = some (x : Int) := by
        cases h : mlook ((g.ord.getD x []).getD i id0) m1 <;> simp_all
      have hmm := (mlook_mem _ _ _ hk1).1 hm
      obtain ⟨hd1, hd2⟩ := lk_del m1 _ _ _ rfl hm
      refine hI2 (i + 1, m1.erase ((g.ord.getD x []).getD i id0, (x : Int))) ⟨by simp only; omega, ?_, keyed_erase hk1 _⟩ (by simp only; omega) ?_
      · simp only
        rw [qsE_succ g x i (by omega), ← List.append_assoc, strike_app, hst1, Option.bind_some]
        simp only [strike, if_pos hmm]
      · cbv
        clear hI hI2 hF
        (try simp only [nc] at *)
        (try simp (disch := omega) only [nc, nct, w64_of, Int.toNat_natCast, Int.toNat_zero, List.length_map, is_len, us_len, ps_len, is_get, us_get, ps_get, at_i, at_u, at_p0, at_p1, evs_len, ids_len, evss_len, idss_len, evs_get, ids_get, evss_get, idss_get, at_e0, at_e1, at_e2, at_e3, at_e4, at_d0, at_d1, at_l, at_agg, asL_vs, asI_i, asU_u, asB_b, bofZ, bof1, bof0, List.getD_cons_zero, List.getD_cons_succ, knums_i2, implies_true, and_true, true_and, forall_const])
        refine ⟨by omega, hd1, hd2⟩
    · have e : i = (g.ord.getD x []).length := by omega
      subst e
      refine hI (x + 1, m1) ⟨by simp only; omega, by simp only; rw [qsT_succ]; exact hst1, hk1⟩ (by simp only; omega) ?_
      cbv
      clear hI hI2 hF
      (try simp only [nc] at *)
      (try simp (disch := omega) only [nc, nct, w64_of, Int.toNat_natCast, Int.toNat_zero, List.length_map, is_len, us_len, ps_len, is_get, us_get, ps_get, at_i, at_u, at_p0, at_p1, evs_len, ids_len, evss_len, idss_len, evs_get, ids_get, evss_get, idss_get, at_e0, at_e1, at_e2, at_e3, at_e4, at_d0, at_d1, at_l, at_agg, asL_vs, asI_i, asU_u, asB_b, bofZ, bof1, bof0, List.getD_cons_zero, List.getD_cons_succ, knums_i2, implies_true, and_true, true_and, forall_const])
      omega
  · clear hI
    (try simp only [nc] at *)
    simp (disch := omega) only [nc, nct, w64_of, Int.toNat_natCast, Int.toNat_zero, List.length_map, is_len, us_len, ps_len, is_get, us_get, ps_get, at_i, at_u, at_p0, at_p1, evs_len, ids_len, evss_len, idss_len, evs_get, ids_get, evss_get, idss_get, at_e0, at_e1, at_e2, at_e3, at_e4, at_d0, at_d1, at_l, at_agg, asL_vs, asI_i, asU_u, asB_b, bofZ, bof1, bof0, List.getD_cons_zero, List.getD_cons_succ, knums_i2, decide_eq_true_eq, decide_eq_false_iff_not, Bool.not_eq_true, Bool.not_eq_false, Bool.not_eq_true', Bool.not_eq_false', ne_eq, Decidable.not_not, Int.not_le, Int.not_lt, beq_iff_eq] at h5
    have e : x = g.ord.length := by omega
    subst e
    cbv
    repeat' (first
      | (refine ⟨fun _ h_s => ?_, fun _ h_s => ?_⟩ <;> (cbv; (try simp only [nc] at *); try simp (disch := omega) only [nc, nct, w64_of, Int.toNat_natCast, Int.toNat_zero, List.length_map, is_len, us_len, ps_len, is_get, us_get, ps_get, at_i, at_u, at_p0, at_p1, evs_len, ids_len, evss_len, idss_len, evs_get, ids_get, evss_get, idss_get, at_e0, at_e1, at_e2, at_e3, at_e4, at_d0, at_d1, at_l, at_agg, asL_vs, asI_i, asU_u, asB_b, bofZ, bof1, bof0, List.getD_cons_zero, List.getD_cons_succ, knums_i2, decide_eq_true_eq, decide_eq_false_iff_not, Bool.not_eq_true, Bool.not_eq_false, Bool.not_eq_true', Bool.not_eq_false', ne_eq, Decidable.not_not, Int.not_le, Int.not_lt, beq_iff_eq] at h_s))
      | (refine hF ?_; intro _; clear hF)
      | (refine hF ?_; cbv; clear hF)
      | (refine ⟨fun _ => ?_, ?_⟩; (· ((try simp only [nc] at *); first | done | omega | (simp (disch := omega) only [nc, nct, w64_of, Int.toNat_natCast, Int.toNat_zero, List.length_map, is_len, us_len, ps_len, is_get, us_get, ps_get, at_i, at_u, at_p0, at_p1, evs_len, ids_len, evss_len, idss_len, evs_get, ids_get, evss_get, idss_get, at_e0, at_e1, at_e2, at_e3, at_e4, at_d0, at_d1, at_l, at_agg, asL_vs, asI_i, asU_u, asB_b, bofZ, bof1, bof0, List.getD_cons_zero, List.getD_cons_succ, knums_i2]; first | done | omega | rfl | (simp; done) | (simp; omega)) | (intros; trivial) | exact mok_ids _ | exact ⟨mok_ids _, is_vals _⟩)); try cbv)
      | fail
    )
    all_goals (try simp only [nc] at *)
    all_goals (try simp (disch := omega) only [nc, nct, w64_of, Int.toNat_natCast, Int.toNat_zero, List.length_map, is_len, us_len, ps_len, is_get, us_get, ps_get, at_i, at_u, at_p0, at_p1, evs_len, ids_len, evss_len, idss_len, evs_get, ids_get, evss_get, idss_get, at_e0, at_e1, at_e2, at_e3, at_e4, at_d0, at_d1, at_l, at_agg, asL_vs, asI_i, asU_u, asB_b, bofZ, bof1, bof0, List.getD_cons_zero, List.getD_cons_succ, knums_i2])
    have hp := strike_perm (qsT g g.ord.length) m0
    rw [hst] at hp
    rw [decide_eq_decide, ← hp]
    simp
end Go.AL.Rl

namespace Go.AL.Rl
open Go Go.AL Go.Proofs
set_option maxRecDepth 100000
variable {γ : Nat → Option AV}

theorem perm_of_sub {α : Type} [DecidableEq α] : ∀ {a b : List α}, a.Nodup → (∀ x ∈ a, x ∈ b) → b.length ≤ a.length → a.Perm b
  | [], b, _, _, h => by
    have : b = [] := List.eq_nil_of_length_eq_zero (by simpa using h)
    rw [this]
  | x :: a, b, hn, hs, hl => by
    have hx : x ∈ b := hs x (by simp)
    have hn' := List.nodup_cons.1 hn
    have := perm_of_sub (a := a) (b := b.erase x) hn'.2 (fun y hy => by
      have hne : y ≠ x := fun e => hn'.1 (e ▸ hy)
      exact (List.mem_erase_of_ne hne).2 (hs y (by simp [hy]))) (by
      rw [List.length_erase_of_mem hx]; simp at hl; omega)
    exact (this.cons x).trans (List.perm_cons_erase hx).symm
theorem wsE_count (x : Int) (t : Nat) (l : List Ev) : ∀ n, n ≤ l.length → ((wsE t l n).filter fun p => decide (p.2 = x)).length = cntE x (l.take n)
  | 0, _ => by simp [wsE, cntE]
  | n + 1, h => by
    rw [wsE_succ, cntE_succ x l n (by omega), List.filter_append, List.length_append, wsE_count x t l n (by omega)]
    cases hw : writesM (l.getD n ev0)
    · simp
    · by_cases h2 : (l.getD n ev0).loc = x
      · simp only [h2, if_true, decide_true, Bool.and_self, List.filter_cons, List.filter_nil, List.length_cons, List.length_nil]
      · simp only [h2, if_true, decide_false, Bool.and_false, List.filter_cons, List.filter_nil, List.length_nil, if_false, Bool.false_eq_true]
theorem wsT_count (g : Gr) (x : Int) : ∀ t, t ≤ g.th.length → ((wsT g t).filter fun p => decide (p.2 = x)).length = cntT x (g.th.take t)
  | 0, _ => by simp [wsT, cntT]
  | t + 1, h => by
    rw [wsT_succ, cntT_succ x g.th t (by omega), List.filter_append, List.length_append, wsT_count g x t (by omega), wsE_count x t _ _ (Nat.le_refl _), List.take_length]
theorem event_thread {g : Gr} {k i : Nat} (hk : k < g.th.length) (hi : i < (g.th.getD k []).length) : eventM g ⟨k + 1, i⟩ = some ((g.th.getD k []).getD i ev0) := by
  unfold eventM
  have e : ((k : Int) + 1 - 1).toNat = k := by omega
  rw [if_neg (by simp only; omega), e, if_pos ⟨by simp only; omega, by simp only; omega, by simp only; omega, by simp only; omega⟩]
  simp
theorem isW_mem (g : Gr) (x : Int) (d : EId) : isW g x d = true ↔ (d, x) ∈ wsT g g.th.length := by
  rw [wsT_mem]
  constructor
  · intro h
    unfold isW at h
    split at h
    · rename_i e he
      simp only [Bool.and_eq_true, decide_eq_true_eq] at h
      obtain ⟨⟨h1, h2⟩, h3⟩ := h
      unfold eventM at he
      rw [if_neg h1] at he
      split at he
      · rename_i hc
        cases he
        refine ⟨(d.t - 1).toNat, by omega, d.i.toNat, by omega, h2, ?_⟩
        rw [h3]
        congr 1
        exact EId.ext' (by simp only; omega) (by simp only; omega)
      · cases he
    · cases h
  · rintro ⟨k, hk, i, hi, hw, he⟩
    obtain ⟨rfl, rfl⟩ := Prod.mk.inj he
    unfold isW
    rw [event_thread hk hi]
    simp only [hw, Bool.and_true, decide_true, decide_eq_true_eq]
    omega
theorem keyed_filter {m : List (EId × Int)} (h : Keyed m) (x : Int) : ((m.filter fun p => decide (p.2 = x)).map (·.1)).Nodup := List.Nodup.sublist (List.Sublist.map _ List.filter_sublist) h
theorem perm_split {m : List (EId × Int)} : ∀ (n : Nat), (∀ p ∈ m, ∃ k < n, p.2 = ((k : Nat) : Int)) → ((List.range n).flatMap fun k : Nat => m.filter fun p => decide (p.2 = (k : Int))).Perm m := by
  induction m with
  | nil =>
    intro n _
    have : ((List.range n).flatMap fun k : Nat => ([] : List (EId × Int)).filter fun p => decide (p.2 = (k : Int))) = [] := by
      rw [List.flatMap_eq_nil_iff]; intro k _; rfl
    rw [this]
  | cons p m ih =>
    intro n h
    obtain ⟨k, hk, hpk⟩ := h p (by simp)
    have ih := ih n fun q hq => h q (by simp [hq])
    refine List.Perm.trans ?_ (ih.cons p)
    obtain ⟨r, hr⟩ : ∃ r, List.range n = List.range k ++ k :: r := ⟨(List.range n).drop (k + 1), by
      have h1 : (List.range n).take k = List.range k := by rw [List.take_range]; congr 1; omega
      have h2 : (List.range n).drop k = k :: (List.range n).drop (k + 1) := by
        rw [List.drop_eq_getElem_cons (by simpa using hk)]; simp
      rw [← h1, ← h2, List.take_append_drop]⟩
    have hnk : ∀ j ∈ List.range k, decide (p.2 = ((j : Nat) : Int)) = false := fun j hj => by
      have := List.mem_range.1 hj; rw [hpk]; simp; omega
    have hnr : ∀ j ∈ r, decide (p.2 = ((j : Nat) : Int)) = false := fun j hj => by
      have hnd : (List.range n).Nodup := List.nodup_range
      rw [hr, List.nodup_append] at hnd
      have := (List.nodup_cons.1 hnd.2.1).1
      refine decide_eq_false ?_; rw [hpk]; intro e; have e' : k = j := by omega
      subst e'
      exact this hj
    have key : ∀ (L : List Nat), (∀ j ∈ L, decide (p.2 = ((j : Nat) : Int)) = false) → (L.flatMap fun k : Nat => (p :: m).filter fun p => decide (p.2 = (k : Int))) = L.flatMap fun k : Nat => m.filter fun p => decide (p.2 = (k : Int)) := by
      intro L hL
      induction L with
      | nil => rfl
      | cons j L ihL =>
        simp only [List.flatMap_cons]
        rw [ihL fun j hj => hL j (by simp [hj]), List.filter_cons, hL j (by simp)]
        simp
    rw [hr, List.flatMap_append, List.flatMap_append, List.flatMap_cons, List.flatMap_cons, key _ hnk, key _ hnr, List.filter_cons]
    rw [if_pos (by simp [hpk])]
    exact List.perm_middle
theorem flatMap_perm {α β : Type} {f g : α → List β} : ∀ {L : List α}, (∀ x ∈ L, (f x).Perm (g x)) → (L.flatMap f).Perm (L.flatMap g)
  | [], _ => .refl _
  | x :: L, h => by
    rw [List.flatMap_cons, List.flatMap_cons]
    exact (h x (by simp)).append (flatMap_perm fun y hy => h y (by simp [hy]))
theorem filter_flat (f : Nat → List (EId × Int)) (hf : ∀ k, ∀ p ∈ f k, p.2 = ((k : Nat) : Int)) (x : Nat) : ∀ n, ((List.range n).flatMap f).filter (fun p => decide (p.2 = (x : Int))) = if x < n then f x else []
  | 0 => rfl
  | n + 1 => by
    rw [List.range_succ, List.flatMap_append, List.filter_append, filter_flat f hf x n, List.flatMap_singleton]
    by_cases h : x = n
    · subst h
      rw [if_neg (by omega), if_pos (by omega), List.filter_eq_self.2 fun p hp => by simp [hf x p hp], List.nil_append]
    · have : (f n).filter (fun p => decide (p.2 = (x : Int))) = [] := by
        rw [List.filter_eq_nil_iff]
        intro p hp
        simp [hf n p hp]; omega
      rw [this, List.append_nil]
      by_cases h2 : x < n
      · rw [if_pos h2, if_pos (by omega)]
      · rw [if_neg h2, if_neg (by omega)]
theorem ordered_iff (g : Gr) (x : Nat) : orderedM g x = true ↔ (g.ord.getD x []).Nodup ∧ (∀ d ∈ g.ord.getD x [], isW g x d = true) ∧ (g.ord.getD x []).length = cntT x g.th := by
  unfold orderedM
  generalize g.ord.getD x [] = l
  rw [Bool.and_eq_true, decide_eq_true_iff, decide_eq_true_iff]
  constructor
  · rintro ⟨h1, h2⟩
    refine ⟨?_, fun d hd => ?_, h2⟩
    · unfold List.Nodup
      rw [List.pairwise_iff_getElem]
      intro i j hi hj hij
      have := (h1 j hj).2 i hij
      simpa [hi, hj] using this
    · obtain ⟨i, hi, rfl⟩ := List.getElem_of_mem hd
      simpa [hi] using (h1 i hi).1
  · rintro ⟨h1, h2, h3⟩
    refine ⟨fun i hi => ⟨h2 _ (getD_mem hi), fun k hk => ?_⟩, h3⟩
    unfold List.Nodup at h1
    rw [List.pairwise_iff_getElem] at h1
    have := h1 k i (by omega) hi hk
    simpa [hi, show k < l.length by omega] using this
theorem map_pair (l : List EId) (x : Int) : ((l.map fun d => (d, x)).map (·.1)) = l := by rw [List.map_map]; exact List.map_id _
theorem nodup_pair {l : List EId} (h : l.Nodup) (x : Int) : (l.map fun d => (d, x)).Nodup := by
  unfold List.Nodup at *
  rw [List.pairwise_map]
  exact h.imp fun hab he => hab (Prod.mk.inj he).1
theorem orders_perm {g : Gr} (hl : g.ord.length = g.init.length) (he : eventsOk g) : ordersOk g ↔ (qsT g g.ord.length).Perm (wsT g g.th.length) := by
  have hws : ∀ p ∈ wsT g g.th.length, ∃ k < g.ord.length, p.2 = ((k : Nat) : Int) := by
    intro p hp
    obtain ⟨k, hk, i, hi, hw, rfl⟩ := wsT_mem.1 hp
    have hf := (he k hk).2 i hi
    generalize (g.th.getD k []).getD i ev0 = e at *
    refine ⟨e.loc.toNat, ?_⟩
    simp only [fineM, Bool.and_eq_true, decide_eq_true_eq] at hf
    simp only [writesM, Bool.or_eq_true, decide_eq_true_eq] at hw
    have := hf.2
    rw [if_neg (by omega)] at this
    simp only [decide_eq_true_eq] at this
    omega
  have hcnt : ∀ x : Nat, ((wsT g g.th.length).filter fun p => decide (p.2 = (x : Int))).length = cntT x g.th := fun x => by
    have := wsT_count g x g.th.length (Nat.le_refl _)
    rwa [List.take_length] at this
  have hq : ∀ x < g.ord.length, (qsT g g.ord.length).filter (fun p => decide (p.2 = (x : Int))) = (g.ord.getD x []).map fun d => (d, (x : Int)) := fun x hx => by
    unfold qsT
    rw [filter_flat (fun k => (g.ord.getD k []).map fun d => (d, (k : Int))) (fun k p hp => by
      obtain ⟨d, _, rfl⟩ := List.mem_map.1 hp; rfl) x, if_pos hx]
  constructor
  · intro ho
    refine List.Perm.trans ?_ (perm_split g.ord.length hws)
    unfold qsT
    refine flatMap_perm fun x hx => ?_
    obtain ⟨h1, h2, h3⟩ := (ordered_iff g x).1 (ho x (by have := List.mem_range.1 hx; omega))
    refine perm_of_sub ?_ (fun p hp => ?_) ?_
    · exact nodup_pair h1 _
    · obtain ⟨d, hd, rfl⟩ := List.mem_map.1 hp
      rw [List.mem_filter]
      exact ⟨(isW_mem g x d).1 (h2 d hd), by simp⟩
    · rw [hcnt, List.length_map, h3]; exact Nat.le_refl _
  · intro hp x hx
    rw [ordered_iff]
    have h1 := hp.filter (fun p => decide (p.2 = (x : Int)))
    rw [hq x (by omega)] at h1
    have h2 := h1.map (·.1)
    rw [map_pair] at h2
    refine ⟨(h2.nodup_iff).2 (keyed_filter (wsT_keyed g _) x), fun d hd => ?_, ?_⟩
    · rw [isW_mem]
      have := h1.subset (List.mem_map.2 ⟨d, hd, rfl⟩)
      exact (List.mem_filter.1 this).1
    · rw [← hcnt, ← h1.length_eq, List.length_map]

theorem gcheck_ok (g : Gr) (hg : Rd g) : Pure Try.prog γ false 125 [aGr g] (.i fun _ => gcheckM g) := by
  have hg2 := hg.th
  refine Pure.go (ty := ty) ty_eq mo Try.func125 rfl Try.ntmps125 Try.results125 Try.call125 (by simp) fun P C CQ D W F E hF => ?_
  cbv
  repeat' (first
    | (refine E.c (SCalls.of_le (tooLong_ok g hg) ?_ ?_); (· (cbv; (try simp only [nc] at *); first | done | (simp; done) | (simp (disch := omega) only [nc, nct, w64_of, Int.toNat_natCast, Int.toNat_zero, List.length_map, is_len, us_len, ps_len, is_get, us_get, ps_get, at_i, at_u, at_p0, at_p1, evs_len, ids_len, evss_len, idss_len, evs_get, ids_get, evss_get, idss_get, at_e0, at_e1, at_e2, at_e3, at_e4, at_d0, at_d1, at_l, at_agg, asL_vs, asI_i, asU_u, asB_b, bofZ, bof1, bof0, List.getD_cons_zero, List.getD_cons_succ, implies_true, and_true, true_and, forall_const]; first | done | omega | (refine ⟨?_, ?_⟩ <;> omega)) | (simp (disch := omega) [nc, nct, w64_of, Int.toNat_natCast, Int.toNat_zero, List.length_map, is_len, us_len, ps_len, is_get, us_get, ps_get, at_i, at_u, at_p0, at_p1, evs_len, ids_len, evss_len, idss_len, evs_get, ids_get, evss_get, idss_get, at_e0, at_e1, at_e2, at_e3, at_e4, at_d0, at_d1, at_l, at_agg, asL_vs, asI_i, asU_u, asB_b, bofZ, bof1, bof0, List.getD_cons_zero, List.getD_cons_succ]; done))); cbv)
    | (refine ⟨fun _ h_s => ?_, fun _ h_s => ?_⟩ <;> (cbv; (try simp only [nc] at *); try simp (disch := omega) only [nc, nct, w64_of, Int.toNat_natCast, Int.toNat_zero, List.length_map, is_len, us_len, ps_len, is_get, us_get, ps_get, at_i, at_u, at_p0, at_p1, evs_len, ids_len, evss_len, idss_len, evs_get, ids_get, evss_get, idss_get, at_e0, at_e1, at_e2, at_e3, at_e4, at_d0, at_d1, at_l, at_agg, asL_vs, asI_i, asU_u, asB_b, bofZ, bof1, bof0, List.getD_cons_zero, List.getD_cons_succ, decide_eq_true_eq, decide_eq_false_iff_not, Bool.not_eq_true, Bool.not_eq_false, Bool.not_eq_true', Bool.not_eq_false', ne_eq, Decidable.not_not, Int.not_le, Int.not_lt, beq_iff_eq] at h_s))
    | (refine hF ?_; intro _; clear hF)
    | (refine hF ?_; cbv; clear hF)
    | (refine ⟨fun _ => ?_, ?_⟩; (· ((try simp only [nc] at *); first | done | omega | (simp (disch := omega) only [nc, nct, w64_of, Int.toNat_natCast, Int.toNat_zero, List.length_map, is_len, us_len, ps_len, is_get, us_get, ps_get, at_i, at_u, at_p0, at_p1, evs_len, ids_len, evss_len, idss_len, evs_get, ids_get, evss_get, idss_get, at_e0, at_e1, at_e2, at_e3, at_e4, at_d0, at_d1, at_l, at_agg, asL_vs, asI_i, asU_u, asB_b, bofZ, bof1, bof0, List.getD_cons_zero, List.getD_cons_succ]; first | done | omega | rfl | (simp; done) | (simp; omega)) | (intros; trivial))); try cbv)
    | (refine E.d 20 (by decide +kernel) ?_; cbv)
    | fail
  )
  all_goals (try simp only [nc] at *)
  all_goals (try simp (disch := omega) only [nc, nct, w64_of, Int.toNat_natCast, Int.toNat_zero, List.length_map, is_len, us_len, ps_len, is_get, us_get, ps_get, at_i, at_u, at_p0, at_p1, evs_len, ids_len, evss_len, idss_len, evs_get, ids_get, evss_get, idss_get, at_e0, at_e1, at_e2, at_e3, at_e4, at_d0, at_d1, at_l, at_agg, asL_vs, asI_i, asU_u, asB_b, bofZ, bof1, bof0, List.getD_cons_zero, List.getD_cons_succ])
  · exact (gcheck3 (by simp_all)).symm
  · exact (gcheck2 (by simp_all) fun h => by have := h.lfr; omega).symm
  · exact (gcheck2 (by simp_all) fun h => by have := h.lord; omega).symm
  have hsh : Short g := by simp_all
  have hlf : g.fr.length = g.th.length := by omega
  have hlo : g.ord.length = g.init.length := by omega
  refine E.loopS (ι := Nat) (fun t => t ≤ g.th.length ∧ (∀ j < t, ((g.fr.getD j []).length = (g.th.getD j []).length ∧ ∀ i < (g.th.getD j []).length, fineM g.init.length ((g.th.getD j []).getD i ev0) = true) ∧ ∀ i < (g.th.getD j []).length, sourceM g ⟨j + 1, i⟩ ((g.fr.getD j []).getD i id0) = true)) (fun t => g.th.length - t) (fun t => [(28, .i fun _ => ((t : Nat) : Int))]) (fun t h => h) 0 (fun _ => by first | rfl | simp) ⟨Nat.zero_le _, ?_⟩ ?_ fun t ht I hI => ?_
  · intro j hj; omega
  · cbv; simp
  obtain ⟨ht, hok⟩ := ht
  cbv
  refine ⟨fun _ h4 => ?_, fun _ h4 => ?_⟩
  · (try simp only [nc] at *)
    simp (disch := omega) only [nc, nct, w64_of, Int.toNat_natCast, Int.toNat_zero, List.length_map, is_len, us_len, ps_len, is_get, us_get, ps_get, at_i, at_u, at_p0, at_p1, evs_len, ids_len, evss_len, idss_len, evs_get, ids_get, evss_get, idss_get, at_e0, at_e1, at_e2, at_e3, at_e4, at_d0, at_d1, at_l, at_agg, asL_vs, asI_i, asU_u, asB_b, bofZ, bof1, bof0, List.getD_cons_zero, List.getD_cons_succ, decide_eq_true_eq, decide_eq_false_iff_not, Bool.not_eq_true, Bool.not_eq_false, Bool.not_eq_true', Bool.not_eq_false', ne_eq, Decidable.not_not, Int.not_le, Int.not_lt, beq_iff_eq] at h4
    have hht := hsh.at t
    cbv
    repeat' (first
      | (refine ⟨fun _ h_s => ?_, fun _ h_s => ?_⟩ <;> (cbv; (try simp only [nc] at *); try simp (disch := omega) only [nc, nct, w64_of, Int.toNat_natCast, Int.toNat_zero, List.length_map, is_len, us_len, ps_len, is_get, us_get, ps_get, at_i, at_u, at_p0, at_p1, evs_len, ids_len, evss_len, idss_len, evs_get, ids_get, evss_get, idss_get, at_e0, at_e1, at_e2, at_e3, at_e4, at_d0, at_d1, at_l, at_agg, asL_vs, asI_i, asU_u, asB_b, bofZ, bof1, bof0, List.getD_cons_zero, List.getD_cons_succ, decide_eq_true_eq, decide_eq_false_iff_not, Bool.not_eq_true, Bool.not_eq_false, Bool.not_eq_true', Bool.not_eq_false', ne_eq, Decidable.not_not, Int.not_le, Int.not_lt, beq_iff_eq] at h_s))
      | (refine hF ?_; intro _; clear hF)
      | (refine hF ?_; cbv; clear hF)
      | (refine ⟨fun _ => ?_, ?_⟩; (· ((try simp only [nc] at *); first | done | omega | (simp (disch := omega) only [nc, nct, w64_of, Int.toNat_natCast, Int.toNat_zero, List.length_map, is_len, us_len, ps_len, is_get, us_get, ps_get, at_i, at_u, at_p0, at_p1, evs_len, ids_len, evss_len, idss_len, evs_get, ids_get, evss_get, idss_get, at_e0, at_e1, at_e2, at_e3, at_e4, at_d0, at_d1, at_l, at_agg, asL_vs, asI_i, asU_u, asB_b, bofZ, bof1, bof0, List.getD_cons_zero, List.getD_cons_succ]; first | done | omega | rfl | (simp; done) | (simp; omega)) | (intros; trivial))); try cbv)
      | (refine E.d 20 (by decide +kernel) ?_; cbv)
      | fail
    )
    all_goals (try simp only [nc] at *)
    all_goals (try simp (disch := omega) only [nc, nct, w64_of, Int.toNat_natCast, Int.toNat_zero, List.length_map, is_len, us_len, ps_len, is_get, us_get, ps_get, at_i, at_u, at_p0, at_p1, evs_len, ids_len, evss_len, idss_len, evs_get, ids_get, evss_get, idss_get, at_e0, at_e1, at_e2, at_e3, at_e4, at_d0, at_d1, at_l, at_agg, asL_vs, asI_i, asU_u, asB_b, bofZ, bof1, bof0, List.getD_cons_zero, List.getD_cons_succ])
    · exact (gcheck2 hsh fun h => by have := (h.events t (by omega)).1; omega).symm
    refine E.loopS (ι := Nat) (fun i => i ≤ (g.th.getD t []).length ∧ (∀ j < i, fineM g.init.length ((g.th.getD t []).getD j ev0) = true ∧ sourceM g ⟨t + 1, j⟩ ((g.fr.getD t []).getD j id0) = true)) (fun i => (g.th.getD t []).length - i) (fun i => [(44, .i fun _ => ((i : Nat) : Int))]) (fun i h => h) 0 (fun _ => by first | rfl | simp) ⟨Nat.zero_le _, ?_⟩ ?_ fun i hi I2 hI2 => ?_
    · intro j hj; omega
    · cbv; simp
    obtain ⟨hi, hoki⟩ := hi
    cbv
    repeat' (first
      | (refine hI (t + 1) ?_ ?_ ?_; rotate_left 1; (· ((try simp only [nc] at *); omega)); (cbv; clear hI; (try clear hF); (try simp only [nc] at *); (try simp (disch := omega) only [nc, nct, w64_of, Int.toNat_natCast, Int.toNat_zero, List.length_map, is_len, us_len, ps_len, is_get, us_get, ps_get, at_i, at_u, at_p0, at_p1, evs_len, ids_len, evss_len, idss_len, evs_get, ids_get, evss_get, idss_get, at_e0, at_e1, at_e2, at_e3, at_e4, at_d0, at_d1, at_l, at_agg, asL_vs, asI_i, asU_u, asB_b, bofZ, bof1, bof0, List.getD_cons_zero, List.getD_cons_succ, implies_true, and_true, true_and, forall_const])); rotate_left 1; (try ((try simp only [nc] at *); omega)))
      | (refine hI2 (i + 1) ?_ ?_ ?_; rotate_left 1; (· ((try simp only [nc] at *); omega)); (cbv; clear hI2; (try clear hF); (try simp only [nc] at *); (try simp (disch := omega) only [nc, nct, w64_of, Int.toNat_natCast, Int.toNat_zero, List.length_map, is_len, us_len, ps_len, is_get, us_get, ps_get, at_i, at_u, at_p0, at_p1, evs_len, ids_len, evss_len, idss_len, evs_get, ids_get, evss_get, idss_get, at_e0, at_e1, at_e2, at_e3, at_e4, at_d0, at_d1, at_l, at_agg, asL_vs, asI_i, asU_u, asB_b, bofZ, bof1, bof0, List.getD_cons_zero, List.getD_cons_succ, implies_true, and_true, true_and, forall_const])); rotate_left 1; (try ((try simp only [nc] at *); omega)))
      | (refine E.c (SCalls.of_le (rightFrom_ok g hg ⟨t + 1, i⟩ ((g.fr.getD t []).getD i id0)) ?_ ?_); (· (cbv; (try simp only [nc] at *); first | done | (simp; done) | (simp (disch := omega) only [nc, nct, w64_of, Int.toNat_natCast, Int.toNat_zero, List.length_map, is_len, us_len, ps_len, is_get, us_get, ps_get, at_i, at_u, at_p0, at_p1, evs_len, ids_len, evss_len, idss_len, evs_get, ids_get, evss_get, idss_get, at_e0, at_e1, at_e2, at_e3, at_e4, at_d0, at_d1, at_l, at_agg, asL_vs, asI_i, asU_u, asB_b, bofZ, bof1, bof0, List.getD_cons_zero, List.getD_cons_succ, implies_true, and_true, true_and, forall_const]; first | done | omega | (refine ⟨?_, ?_⟩ <;> omega)) | (simp (disch := omega) [nc, nct, w64_of, Int.toNat_natCast, Int.toNat_zero, List.length_map, is_len, us_len, ps_len, is_get, us_get, ps_get, at_i, at_u, at_p0, at_p1, evs_len, ids_len, evss_len, idss_len, evs_get, ids_get, evss_get, idss_get, at_e0, at_e1, at_e2, at_e3, at_e4, at_d0, at_d1, at_l, at_agg, asL_vs, asI_i, asU_u, asB_b, bofZ, bof1, bof0, List.getD_cons_zero, List.getD_cons_succ]; done))); cbv)
      | (refine E.q (QCalls.of_le (rightFrom_ok g hg ⟨t + 1, i⟩ ((g.fr.getD t []).getD i id0)) ?_ ?_); (· (cbv; (try simp only [nc] at *); first | done | (simp; done) | (simp (disch := omega) only [nc, nct, w64_of, Int.toNat_natCast, Int.toNat_zero, List.length_map, is_len, us_len, ps_len, is_get, us_get, ps_get, at_i, at_u, at_p0, at_p1, evs_len, ids_len, evss_len, idss_len, evs_get, ids_get, evss_get, idss_get, at_e0, at_e1, at_e2, at_e3, at_e4, at_d0, at_d1, at_l, at_agg, asL_vs, asI_i, asU_u, asB_b, bofZ, bof1, bof0, List.getD_cons_zero, List.getD_cons_succ, implies_true, and_true, true_and, forall_const]; first | done | omega | (refine ⟨?_, ?_⟩ <;> omega)) | (simp (disch := omega) [nc, nct, w64_of, Int.toNat_natCast, Int.toNat_zero, List.length_map, is_len, us_len, ps_len, is_get, us_get, ps_get, at_i, at_u, at_p0, at_p1, evs_len, ids_len, evss_len, idss_len, evs_get, ids_get, evss_get, idss_get, at_e0, at_e1, at_e2, at_e3, at_e4, at_d0, at_d1, at_l, at_agg, asL_vs, asI_i, asU_u, asB_b, bofZ, bof1, bof0, List.getD_cons_zero, List.getD_cons_succ]; done))); cbv)
      | (refine E.c (SCalls.of_le (rightEvent_ok ((g.th.getD t []).getD i ev0) g.init.length) ?_ ?_); (· (cbv; (try simp only [nc] at *); first | done | (simp; done) | (simp (disch := omega) only [nc, nct, w64_of, Int.toNat_natCast, Int.toNat_zero, List.length_map, is_len, us_len, ps_len, is_get, us_get, ps_get, at_i, at_u, at_p0, at_p1, evs_len, ids_len, evss_len, idss_len, evs_get, ids_get, evss_get, idss_get, at_e0, at_e1, at_e2, at_e3, at_e4, at_d0, at_d1, at_l, at_agg, asL_vs, asI_i, asU_u, asB_b, bofZ, bof1, bof0, List.getD_cons_zero, List.getD_cons_succ, implies_true, and_true, true_and, forall_const]; first | done | omega | (refine ⟨?_, ?_⟩ <;> omega)) | (simp (disch := omega) [nc, nct, w64_of, Int.toNat_natCast, Int.toNat_zero, List.length_map, is_len, us_len, ps_len, is_get, us_get, ps_get, at_i, at_u, at_p0, at_p1, evs_len, ids_len, evss_len, idss_len, evs_get, ids_get, evss_get, idss_get, at_e0, at_e1, at_e2, at_e3, at_e4, at_d0, at_d1, at_l, at_agg, asL_vs, asI_i, asU_u, asB_b, bofZ, bof1, bof0, List.getD_cons_zero, List.getD_cons_succ]; done))); cbv)
      | (refine E.q (QCalls.of_le (rightEvent_ok ((g.th.getD t []).getD i ev0) g.init.length) ?_ ?_); (· (cbv; (try simp only [nc] at *); first | done | (simp; done) | (simp (disch := omega) only [nc, nct, w64_of, Int.toNat_natCast, Int.toNat_zero, List.length_map, is_len, us_len, ps_len, is_get, us_get, ps_get, at_i, at_u, at_p0, at_p1, evs_len, ids_len, evss_len, idss_len, evs_get, ids_get, evss_get, idss_get, at_e0, at_e1, at_e2, at_e3, at_e4, at_d0, at_d1, at_l, at_agg, asL_vs, asI_i, asU_u, asB_b, bofZ, bof1, bof0, List.getD_cons_zero, List.getD_cons_succ, implies_true, and_true, true_and, forall_const]; first | done | omega | (refine ⟨?_, ?_⟩ <;> omega)) | (simp (disch := omega) [nc, nct, w64_of, Int.toNat_natCast, Int.toNat_zero, List.length_map, is_len, us_len, ps_len, is_get, us_get, ps_get, at_i, at_u, at_p0, at_p1, evs_len, ids_len, evss_len, idss_len, evs_get, ids_get, evss_get, idss_get, at_e0, at_e1, at_e2, at_e3, at_e4, at_d0, at_d1, at_l, at_agg, asL_vs, asI_i, asU_u, asB_b, bofZ, bof1, bof0, List.getD_cons_zero, List.getD_cons_succ]; done))); cbv)
      | (refine ⟨fun _ h_s => ?_, fun _ h_s => ?_⟩ <;> (cbv; (try simp only [nc] at *); try simp (disch := omega) only [nc, nct, w64_of, Int.toNat_natCast, Int.toNat_zero, List.length_map, is_len, us_len, ps_len, is_get, us_get, ps_get, at_i, at_u, at_p0, at_p1, evs_len, ids_len, evss_len, idss_len, evs_get, ids_get, evss_get, idss_get, at_e0, at_e1, at_e2, at_e3, at_e4, at_d0, at_d1, at_l, at_agg, asL_vs, asI_i, asU_u, asB_b, bofZ, bof1, bof0, List.getD_cons_zero, List.getD_cons_succ, decide_eq_true_eq, decide_eq_false_iff_not, Bool.not_eq_true, Bool.not_eq_false, Bool.not_eq_true', Bool.not_eq_false', ne_eq, Decidable.not_not, Int.not_le, Int.not_lt, beq_iff_eq] at h_s))
      | (refine hF ?_; intro _; clear hF)
      | (refine hF ?_; cbv; clear hF)
      | (refine ⟨fun _ => ?_, ?_⟩; (· ((try simp only [nc] at *); first | done | omega | (simp (disch := omega) only [nc, nct, w64_of, Int.toNat_natCast, Int.toNat_zero, List.length_map, is_len, us_len, ps_len, is_get, us_get, ps_get, at_i, at_u, at_p0, at_p1, evs_len, ids_len, evss_len, idss_len, evs_get, ids_get, evss_get, idss_get, at_e0, at_e1, at_e2, at_e3, at_e4, at_d0, at_d1, at_l, at_agg, asL_vs, asI_i, asU_u, asB_b, bofZ, bof1, bof0, List.getD_cons_zero, List.getD_cons_succ]; first | done | omega | rfl | (simp; done) | (simp; omega)) | (intros; trivial))); try cbv)
      | (refine E.d 20 (by decide +kernel) ?_; cbv)
      | fail
    )
    all_goals (try simp only [nc] at *)
    all_goals (try simp (disch := omega) only [nc, nct, w64_of, Int.toNat_natCast, Int.toNat_zero, List.length_map, is_len, us_len, ps_len, is_get, us_get, ps_get, at_i, at_u, at_p0, at_p1, evs_len, ids_len, evss_len, idss_len, evs_get, ids_get, evss_get, idss_get, at_e0, at_e1, at_e2, at_e3, at_e4, at_d0, at_d1, at_l, at_agg, asL_vs, asI_i, asU_u, asB_b, bofZ, bof1, bof0, List.getD_cons_zero, List.getD_cons_succ])
    · refine (gcheck2 hsh fun h => ?_).symm
      have := (h.events t (by omega)).2 i (by omega)
      simp_all
    · refine (gcheck2 hsh fun h => ?_).symm
      have := h.sources t (by omega) i (by omega)
      simp_all
    · refine ⟨by omega, fun j hj => ?_⟩
      rcases Nat.lt_or_ge j i with h | h
      · exact hoki j h
      · obtain rfl : j = i := by omega
        exact ⟨by assumption, by assumption⟩
    · omega
    · refine ⟨by omega, fun j hj => ?_⟩
      rcases Nat.lt_or_ge j t with h | h
      · exact hok j h
      · obtain rfl : j = t := by omega
        exact ⟨⟨by omega, fun k hk => (hoki k (by omega)).1⟩, fun k hk => (hoki k (by omega)).2⟩
    · omega
  clear hI
  (try simp only [nc] at *)
  simp (disch := omega) only [nc, nct, w64_of, Int.toNat_natCast, Int.toNat_zero, List.length_map, is_len, us_len, ps_len, is_get, us_get, ps_get, at_i, at_u, at_p0, at_p1, evs_len, ids_len, evss_len, idss_len, evs_get, ids_get, evss_get, idss_get, at_e0, at_e1, at_e2, at_e3, at_e4, at_d0, at_d1, at_l, at_agg, asL_vs, asI_i, asU_u, asB_b, bofZ, bof1, bof0, List.getD_cons_zero, List.getD_cons_succ, decide_eq_true_eq, decide_eq_false_iff_not, Bool.not_eq_true, Bool.not_eq_false, Bool.not_eq_true', Bool.not_eq_false', ne_eq, Decidable.not_not, Int.not_le, Int.not_lt, beq_iff_eq] at h4
  have e : t = g.th.length := by omega
  subst e
  have hev : eventsOk g := fun j hj => (hok j hj).1
  have hso : sourcesOk g := fun j hj => (hok j hj).2
  have hp := orders_perm (by omega) hev
  cbv
  repeat' (first
    | (refine E.c (SCalls.of_le (rightOrder_ok g hg hsh) ?_ ?_); (· (cbv; (try simp only [nc] at *); first | done | (simp; done) | (simp (disch := omega) only [nc, nct, w64_of, Int.toNat_natCast, Int.toNat_zero, List.length_map, is_len, us_len, ps_len, is_get, us_get, ps_get, at_i, at_u, at_p0, at_p1, evs_len, ids_len, evss_len, idss_len, evs_get, ids_get, evss_get, idss_get, at_e0, at_e1, at_e2, at_e3, at_e4, at_d0, at_d1, at_l, at_agg, asL_vs, asI_i, asU_u, asB_b, bofZ, bof1, bof0, List.getD_cons_zero, List.getD_cons_succ, implies_true, and_true, true_and, forall_const]; first | done | omega | (refine ⟨?_, ?_⟩ <;> omega)) | (simp (disch := omega) [nc, nct, w64_of, Int.toNat_natCast, Int.toNat_zero, List.length_map, is_len, us_len, ps_len, is_get, us_get, ps_get, at_i, at_u, at_p0, at_p1, evs_len, ids_len, evss_len, idss_len, evs_get, ids_get, evss_get, idss_get, at_e0, at_e1, at_e2, at_e3, at_e4, at_d0, at_d1, at_l, at_agg, asL_vs, asI_i, asU_u, asB_b, bofZ, bof1, bof0, List.getD_cons_zero, List.getD_cons_succ]; done))); cbv)
    | (refine ⟨fun _ h_s => ?_, fun _ h_s => ?_⟩ <;> (cbv; (try simp only [nc] at *); try simp (disch := omega) only [nc, nct, w64_of, Int.toNat_natCast, Int.toNat_zero, List.length_map, is_len, us_len, ps_len, is_get, us_get, ps_get, at_i, at_u, at_p0, at_p1, evs_len, ids_len, evss_len, idss_len, evs_get, ids_get, evss_get, idss_get, at_e0, at_e1, at_e2, at_e3, at_e4, at_d0, at_d1, at_l, at_agg, asL_vs, asI_i, asU_u, asB_b, bofZ, bof1, bof0, List.getD_cons_zero, List.getD_cons_succ, decide_eq_true_eq, decide_eq_false_iff_not, Bool.not_eq_true, Bool.not_eq_false, Bool.not_eq_true', Bool.not_eq_false', ne_eq, Decidable.not_not, Int.not_le, Int.not_lt, beq_iff_eq] at h_s))
    | (refine hF ?_; intro _; clear hF)
    | (refine hF ?_; cbv; clear hF)
    | (refine ⟨fun _ => ?_, ?_⟩; (· ((try simp only [nc] at *); first | done | omega | (simp (disch := omega) only [nc, nct, w64_of, Int.toNat_natCast, Int.toNat_zero, List.length_map, is_len, us_len, ps_len, is_get, us_get, ps_get, at_i, at_u, at_p0, at_p1, evs_len, ids_len, evss_len, idss_len, evs_get, ids_get, evss_get, idss_get, at_e0, at_e1, at_e2, at_e3, at_e4, at_d0, at_d1, at_l, at_agg, asL_vs, asI_i, asU_u, asB_b, bofZ, bof1, bof0, List.getD_cons_zero, List.getD_cons_succ]; first | done | omega | rfl | (simp; done) | (simp; omega)) | (intros; trivial))); try cbv)
    | (refine E.d 20 (by decide +kernel) ?_; cbv)
    | fail
  )
  all_goals (try simp only [nc] at *)
  all_goals (try simp (disch := omega) only [nc, nct, w64_of, Int.toNat_natCast, Int.toNat_zero, List.length_map, is_len, us_len, ps_len, is_get, us_get, ps_get, at_i, at_u, at_p0, at_p1, evs_len, ids_len, evss_len, idss_len, evs_get, ids_get, evss_get, idss_get, at_e0, at_e1, at_e2, at_e3, at_e4, at_d0, at_d1, at_l, at_agg, asL_vs, asI_i, asU_u, asB_b, bofZ, bof1, bof0, List.getD_cons_zero, List.getD_cons_succ])
  · refine (gcheck2 hsh fun h => ?_).symm
    have := hp.1 h.orders
    simp_all
  · refine (gcheck0 ⟨hsh, by omega, by omega, hev, hso, hp.2 ?_⟩).symm
    simp_all
end Go.AL.Rl

namespace Go.AL.Rl
open Go Go.AL Go.Proofs
set_option maxRecDepth 100000
variable {γ : Nat → Option AV}

structure Vw where
  ids : List EId
  ev : List Ev
  fr : List Int
  pl : List Int
abbrev aVw (V : Vw) : AV := .agg [.vs 2 fun _ => ids V.ids, .vs 5 fun _ => evs V.ev, .vs 1 fun _ => is V.fr, .vs 1 fun _ => is V.pl]
abbrev pVw (V : Vw) : AV := .vp (fun _ => aVw V) 0
structure Wf (V : Vw) (n : Nat) : Prop where
  ids : V.ids.length = n
  ev : V.ev.length = n
  fr : V.fr.length = n
  pl : V.pl.length = n
  small : n ≤ 62
  frl : ∀ i < n, V.fr.getD i 0 < n
  frg : ∀ i < n, readsM (V.ev.getD i ev0) = true → 0 ≤ V.fr.getD i 0
def poM (V : Vw) (a b : Nat) : Bool := decide ((V.ids.getD b id0).t ≠ 0) && (decide ((V.ids.getD a id0).t = 0) || decide ((V.ids.getD a id0).t = (V.ids.getD b id0).t) && decide ((V.ids.getD a id0).i < (V.ids.getD b id0).i))
def rfM (V : Vw) (a b : Nat) : Bool := decide (V.fr.getD b 0 = a)
def fenceM (e : Ev) : Bool := decide (e.kind = 4)
def nearM (V : Vw) (a b : Nat) : Bool := !fenceM (V.ev.getD a ev0) && !fenceM (V.ev.getD b ev0) && decide ((V.ev.getD a ev0).loc = (V.ev.getD b ev0).loc)
def coM (V : Vw) (a b : Nat) : Bool := decide (0 ≤ V.pl.getD a 0) && nearM V a b && decide (V.pl.getD a 0 < V.pl.getD b 0)
def frM (V : Vw) (a b : Nat) : Bool := decide (a ≠ b) && decide (0 ≤ V.fr.getD a 0) && coM V (V.fr.getD a 0).toNat b
def locM (V : Vw) (a b : Nat) : Bool := decide (a ≠ b) && nearM V a b
def acqM (e : Ev) : Bool := decide (e.order = 3) || decide (e.order = 5) || decide (e.order = 6)
def relM (e : Ev) : Bool := decide (e.order = 4) || decide (e.order = 5) || decide (e.order = 6)

theorem dpo_ok (V : Vw) {n : Nat} (hV : Wf V n) (a b : Nat) (ha : a < n) (hb : b < n) : Pure Try.prog γ false 76 [pVw V, .i fun _ => (a : Int), .i fun _ => (b : Int)] (.b fun _ => poM V a b) := by
  have h1 := hV.ids
  refine Pure.go (ty := ty) ty_eq mo Try.func76 rfl Try.ntmps76 Try.results76 Try.call76 (by simp) fun P C CQ D W F E hF => ?_
  cbv
  repeat' (first
    | (refine E.de 17 [] [none, none] (by decide +kernel) ?_; cbv; (fail_if_success guard_target =~ False))
    | (refine ⟨fun _ h_s => ?_, fun _ h_s => ?_⟩ <;> (cbv; (try simp only [nc] at *); try simp (disch := (first | omega | (simp only [tab_len, List.length_append, List.length_map, List.length_range, List.length_replicate]; omega))) only [nc, nct, w64_of, Int.toNat_natCast, Int.toNat_zero, List.length_map, is_len, us_len, ps_len, is_get, us_get, ps_get, at_i, at_u, at_p0, at_p1, evs_len, ids_len, evss_len, idss_len, evs_get, ids_get, evss_get, idss_get, at_e0, at_e1, at_e2, at_e3, at_e4, at_d0, at_d1, at_l, at_agg, asL_vs, asI_i, asU_u, asB_b, bofZ, bof1, bof0, List.getD_cons_zero, List.getD_cons_succ, decide_eq_true_eq, decide_eq_false_iff_not, Bool.not_eq_true, Bool.not_eq_false, Bool.not_eq_true', Bool.not_eq_false', ne_eq, Decidable.not_not, Int.not_le, Int.not_lt, beq_iff_eq] at h_s))
    | (refine hF ?_; intro _; clear hF)
    | (refine hF ?_; cbv; clear hF)
    | (refine ⟨fun _ => ?_, ?_⟩; (· ((try simp only [nc] at *); first | done | omega | exact ⟨by omega, rfl⟩ | (simp (disch := (first | omega | (simp only [tab_len, List.length_append, List.length_map, List.length_range, List.length_replicate]; omega))) only [nc, nct, w64_of, Int.toNat_natCast, Int.toNat_zero, List.length_map, is_len, us_len, ps_len, is_get, us_get, ps_get, at_i, at_u, at_p0, at_p1, evs_len, ids_len, evss_len, idss_len, evs_get, ids_get, evss_get, idss_get, at_e0, at_e1, at_e2, at_e3, at_e4, at_d0, at_d1, at_l, at_agg, asL_vs, asI_i, asU_u, asB_b, bofZ, bof1, bof0, List.getD_cons_zero, List.getD_cons_succ]; first | done | omega | rfl | exact ⟨by omega, rfl⟩ | (simp; done) | (simp; omega)) | (intros; trivial))); (try (simp only [nc] at *)); (try simp (disch := (first | omega | (simp only [tab_len, List.length_append, List.length_map, List.length_range, List.length_replicate]; omega))) only [nc, nct, w64_of, Int.toNat_natCast, Int.toNat_zero, List.length_map, is_len, us_len, ps_len, is_get, us_get, ps_get, at_i, at_u, at_p0, at_p1, evs_len, ids_len, evss_len, idss_len, evs_get, ids_get, evss_get, idss_get, at_e0, at_e1, at_e2, at_e3, at_e4, at_d0, at_d1, at_l, at_agg, asL_vs, asI_i, asU_u, asB_b, bofZ, bof1, bof0, List.getD_cons_zero, List.getD_cons_succ]); (try cbv))
    | fail
  )
  all_goals (try simp only [nc] at *)
  all_goals (try simp (disch := (first | omega | (simp only [tab_len, List.length_append, List.length_map, List.length_range, List.length_replicate]; omega))) only [nc, nct, w64_of, Int.toNat_natCast, Int.toNat_zero, List.length_map, is_len, us_len, ps_len, is_get, us_get, ps_get, at_i, at_u, at_p0, at_p1, evs_len, ids_len, evss_len, idss_len, evs_get, ids_get, evss_get, idss_get, at_e0, at_e1, at_e2, at_e3, at_e4, at_d0, at_d1, at_l, at_agg, asL_vs, asI_i, asU_u, asB_b, bofZ, bof1, bof0, List.getD_cons_zero, List.getD_cons_succ])
  all_goals simp_all [poM]
theorem dreads0_ok (V : Vw) (a : Nat) (h1 : a < V.ev.length) : Pure Try.prog γ false 91 [pVw V, .i fun _ => (a : Int)] (.b fun _ => readsM (V.ev.getD a ev0)) := by
  refine Pure.go (ty := ty) ty_eq mo Try.func91 rfl Try.ntmps91 Try.results91 Try.call91 (by simp) fun P C CQ D W F E hF => ?_
  cbv
  repeat' (first
    | (refine ⟨fun _ h_s => ?_, fun _ h_s => ?_⟩ <;> (cbv; (try simp only [nc] at *); try simp (disch := (first | omega | (simp only [tab_len, List.length_append, List.length_map, List.length_range, List.length_replicate]; omega))) only [nc, nct, w64_of, Int.toNat_natCast, Int.toNat_zero, List.length_map, is_len, us_len, ps_len, is_get, us_get, ps_get, at_i, at_u, at_p0, at_p1, evs_len, ids_len, evss_len, idss_len, evs_get, ids_get, evss_get, idss_get, at_e0, at_e1, at_e2, at_e3, at_e4, at_d0, at_d1, at_l, at_agg, asL_vs, asI_i, asU_u, asB_b, bofZ, bof1, bof0, List.getD_cons_zero, List.getD_cons_succ, decide_eq_true_eq, decide_eq_false_iff_not, Bool.not_eq_true, Bool.not_eq_false, Bool.not_eq_true', Bool.not_eq_false', ne_eq, Decidable.not_not, Int.not_le, Int.not_lt, beq_iff_eq] at h_s))
    | (refine hF ?_; intro _; clear hF)
    | (refine hF ?_; cbv; clear hF)
    | (refine ⟨fun _ => ?_, ?_⟩; (· ((try simp only [nc] at *); first | done | omega | exact ⟨by omega, rfl⟩ | (simp (disch := (first | omega | (simp only [tab_len, List.length_append, List.length_map, List.length_range, List.length_replicate]; omega))) only [nc, nct, w64_of, Int.toNat_natCast, Int.toNat_zero, List.length_map, is_len, us_len, ps_len, is_get, us_get, ps_get, at_i, at_u, at_p0, at_p1, evs_len, ids_len, evss_len, idss_len, evs_get, ids_get, evss_get, idss_get, at_e0, at_e1, at_e2, at_e3, at_e4, at_d0, at_d1, at_l, at_agg, asL_vs, asI_i, asU_u, asB_b, bofZ, bof1, bof0, List.getD_cons_zero, List.getD_cons_succ]; first | done | omega | rfl | exact ⟨by omega, rfl⟩ | (simp; done) | (simp; omega)) | (intros; trivial))); (try (simp only [nc] at *)); (try simp (disch := (first | omega | (simp only [tab_len, List.length_append, List.length_map, List.length_range, List.length_replicate]; omega))) only [nc, nct, w64_of, Int.toNat_natCast, Int.toNat_zero, List.length_map, is_len, us_len, ps_len, is_get, us_get, ps_get, at_i, at_u, at_p0, at_p1, evs_len, ids_len, evss_len, idss_len, evs_get, ids_get, evss_get, idss_get, at_e0, at_e1, at_e2, at_e3, at_e4, at_d0, at_d1, at_l, at_agg, asL_vs, asI_i, asU_u, asB_b, bofZ, bof1, bof0, List.getD_cons_zero, List.getD_cons_succ]); (try cbv))
    | fail
  )
  all_goals (try simp only [nc] at *)
  all_goals (try simp (disch := (first | omega | (simp only [tab_len, List.length_append, List.length_map, List.length_range, List.length_replicate]; omega))) only [nc, nct, w64_of, Int.toNat_natCast, Int.toNat_zero, List.length_map, is_len, us_len, ps_len, is_get, us_get, ps_get, at_i, at_u, at_p0, at_p1, evs_len, ids_len, evss_len, idss_len, evs_get, ids_get, evss_get, idss_get, at_e0, at_e1, at_e2, at_e3, at_e4, at_d0, at_d1, at_l, at_agg, asL_vs, asI_i, asU_u, asB_b, bofZ, bof1, bof0, List.getD_cons_zero, List.getD_cons_succ])
  all_goals simp_all [readsM]
theorem dreads_ok (V : Vw) {n : Nat} (hV : Wf V n) (a : Nat) (ha : a < n) : Pure Try.prog γ false 91 [pVw V, .i fun _ => (a : Int)] (.b fun _ => readsM (V.ev.getD a ev0)) :=
  dreads0_ok V a (by rw [hV.ev]; exact ha)
theorem dwrites_ok (V : Vw) {n : Nat} (hV : Wf V n) (a : Nat) (ha : a < n) : Pure Try.prog γ false 92 [pVw V, .i fun _ => (a : Int)] (.b fun _ => writesM (V.ev.getD a ev0)) := by
  have h1 := hV.ev
  refine Pure.go (ty := ty) ty_eq mo Try.func92 rfl Try.ntmps92 Try.results92 Try.call92 (by simp) fun P C CQ D W F E hF => ?_
  cbv
  repeat' (first
    | (refine ⟨fun _ h_s => ?_, fun _ h_s => ?_⟩ <;> (cbv; (try simp only [nc] at *); try simp (disch := (first | omega | (simp only [tab_len, List.length_append, List.length_map, List.length_range, List.length_replicate]; omega))) only [nc, nct, w64_of, Int.toNat_natCast, Int.toNat_zero, List.length_map, is_len, us_len, ps_len, is_get, us_get, ps_get, at_i, at_u, at_p0, at_p1, evs_len, ids_len, evss_len, idss_len, evs_get, ids_get, evss_get, idss_get, at_e0, at_e1, at_e2, at_e3, at_e4, at_d0, at_d1, at_l, at_agg, asL_vs, asI_i, asU_u, asB_b, bofZ, bof1, bof0, List.getD_cons_zero, List.getD_cons_succ, decide_eq_true_eq, decide_eq_false_iff_not, Bool.not_eq_true, Bool.not_eq_false, Bool.not_eq_true', Bool.not_eq_false', ne_eq, Decidable.not_not, Int.not_le, Int.not_lt, beq_iff_eq] at h_s))
    | (refine hF ?_; intro _; clear hF)
    | (refine hF ?_; cbv; clear hF)
    | (refine ⟨fun _ => ?_, ?_⟩; (· ((try simp only [nc] at *); first | done | omega | exact ⟨by omega, rfl⟩ | (simp (disch := (first | omega | (simp only [tab_len, List.length_append, List.length_map, List.length_range, List.length_replicate]; omega))) only [nc, nct, w64_of, Int.toNat_natCast, Int.toNat_zero, List.length_map, is_len, us_len, ps_len, is_get, us_get, ps_get, at_i, at_u, at_p0, at_p1, evs_len, ids_len, evss_len, idss_len, evs_get, ids_get, evss_get, idss_get, at_e0, at_e1, at_e2, at_e3, at_e4, at_d0, at_d1, at_l, at_agg, asL_vs, asI_i, asU_u, asB_b, bofZ, bof1, bof0, List.getD_cons_zero, List.getD_cons_succ]; first | done | omega | rfl | exact ⟨by omega, rfl⟩ | (simp; done) | (simp; omega)) | (intros; trivial))); (try (simp only [nc] at *)); (try simp (disch := (first | omega | (simp only [tab_len, List.length_append, List.length_map, List.length_range, List.length_replicate]; omega))) only [nc, nct, w64_of, Int.toNat_natCast, Int.toNat_zero, List.length_map, is_len, us_len, ps_len, is_get, us_get, ps_get, at_i, at_u, at_p0, at_p1, evs_len, ids_len, evss_len, idss_len, evs_get, ids_get, evss_get, idss_get, at_e0, at_e1, at_e2, at_e3, at_e4, at_d0, at_d1, at_l, at_agg, asL_vs, asI_i, asU_u, asB_b, bofZ, bof1, bof0, List.getD_cons_zero, List.getD_cons_succ]); (try cbv))
    | fail
  )
  all_goals (try simp only [nc] at *)
  all_goals (try simp (disch := (first | omega | (simp only [tab_len, List.length_append, List.length_map, List.length_range, List.length_replicate]; omega))) only [nc, nct, w64_of, Int.toNat_natCast, Int.toNat_zero, List.length_map, is_len, us_len, ps_len, is_get, us_get, ps_get, at_i, at_u, at_p0, at_p1, evs_len, ids_len, evss_len, idss_len, evs_get, ids_get, evss_get, idss_get, at_e0, at_e1, at_e2, at_e3, at_e4, at_d0, at_d1, at_l, at_agg, asL_vs, asI_i, asU_u, asB_b, bofZ, bof1, bof0, List.getD_cons_zero, List.getD_cons_succ])
  all_goals simp_all [writesM]
theorem dfence_ok (V : Vw) {n : Nat} (hV : Wf V n) (a : Nat) (ha : a < n) : Pure Try.prog γ false 99 [pVw V, .i fun _ => (a : Int)] (.b fun _ => fenceM (V.ev.getD a ev0)) := by
  have h1 := hV.ev
  refine Pure.go (ty := ty) ty_eq mo Try.func99 rfl Try.ntmps99 Try.results99 Try.call99 (by simp) fun P C CQ D W F E hF => ?_
  cbv
  repeat' (first
    | (refine ⟨fun _ h_s => ?_, fun _ h_s => ?_⟩ <;> (cbv; (try simp only [nc] at *); try simp (disch := (first | omega | (simp only [tab_len, List.length_append, List.length_map, List.length_range, List.length_replicate]; omega))) only [nc, nct, w64_of, Int.toNat_natCast, Int.toNat_zero, List.length_map, is_len, us_len, ps_len, is_get, us_get, ps_get, at_i, at_u, at_p0, at_p1, evs_len, ids_len, evss_len, idss_len, evs_get, ids_get, evss_get, idss_get, at_e0, at_e1, at_e2, at_e3, at_e4, at_d0, at_d1, at_l, at_agg, asL_vs, asI_i, asU_u, asB_b, bofZ, bof1, bof0, List.getD_cons_zero, List.getD_cons_succ, decide_eq_true_eq, decide_eq_false_iff_not, Bool.not_eq_true, Bool.not_eq_false, Bool.not_eq_true', Bool.not_eq_false', ne_eq, Decidable.not_not, Int.not_le, Int.not_lt, beq_iff_eq] at h_s))
    | (refine hF ?_; intro _; clear hF)
    | (refine hF ?_; cbv; clear hF)
    | (refine ⟨fun _ => ?_, ?_⟩; (· ((try simp only [nc] at *); first | done | omega | exact ⟨by omega, rfl⟩ | (simp (disch := (first | omega | (simp only [tab_len, List.length_append, List.length_map, List.length_range, List.length_replicate]; omega))) only [nc, nct, w64_of, Int.toNat_natCast, Int.toNat_zero, List.length_map, is_len, us_len, ps_len, is_get, us_get, ps_get, at_i, at_u, at_p0, at_p1, evs_len, ids_len, evss_len, idss_len, evs_get, ids_get, evss_get, idss_get, at_e0, at_e1, at_e2, at_e3, at_e4, at_d0, at_d1, at_l, at_agg, asL_vs, asI_i, asU_u, asB_b, bofZ, bof1, bof0, List.getD_cons_zero, List.getD_cons_succ]; first | done | omega | rfl | exact ⟨by omega, rfl⟩ | (simp; done) | (simp; omega)) | (intros; trivial))); (try (simp only [nc] at *)); (try simp (disch := (first | omega | (simp only [tab_len, List.length_append, List.length_map, List.length_range, List.length_replicate]; omega))) only [nc, nct, w64_of, Int.toNat_natCast, Int.toNat_zero, List.length_map, is_len, us_len, ps_len, is_get, us_get, ps_get, at_i, at_u, at_p0, at_p1, evs_len, ids_len, evss_len, idss_len, evs_get, ids_get, evss_get, idss_get, at_e0, at_e1, at_e2, at_e3, at_e4, at_d0, at_d1, at_l, at_agg, asL_vs, asI_i, asU_u, asB_b, bofZ, bof1, bof0, List.getD_cons_zero, List.getD_cons_succ]); (try cbv))
    | fail
  )
  all_goals (try simp only [nc] at *)
  all_goals (try simp (disch := (first | omega | (simp only [tab_len, List.length_append, List.length_map, List.length_range, List.length_replicate]; omega))) only [nc, nct, w64_of, Int.toNat_natCast, Int.toNat_zero, List.length_map, is_len, us_len, ps_len, is_get, us_get, ps_get, at_i, at_u, at_p0, at_p1, evs_len, ids_len, evss_len, idss_len, evs_get, ids_get, evss_get, idss_get, at_e0, at_e1, at_e2, at_e3, at_e4, at_d0, at_d1, at_l, at_agg, asL_vs, asI_i, asU_u, asB_b, bofZ, bof1, bof0, List.getD_cons_zero, List.getD_cons_succ])
  all_goals simp_all [fenceM]
theorem dacq_ok (V : Vw) {n : Nat} (hV : Wf V n) (a : Nat) (ha : a < n) : Pure Try.prog γ false 100 [pVw V, .i fun _ => (a : Int)] (.b fun _ => acqM (V.ev.getD a ev0)) := by
  have h1 := hV.ev
  refine Pure.go (ty := ty) ty_eq mo Try.func100 rfl Try.ntmps100 Try.results100 Try.call100 (by simp) fun P C CQ D W F E hF => ?_
  cbv
  repeat' (first
    | (refine ⟨fun _ h_s => ?_, fun _ h_s => ?_⟩ <;> (cbv; (try simp only [nc] at *); try simp (disch := (first | omega | (simp only [tab_len, List.length_append, List.length_map, List.length_range, List.length_replicate]; omega))) only [nc, nct, w64_of, Int.toNat_natCast, Int.toNat_zero, List.length_map, is_len, us_len, ps_len, is_get, us_get, ps_get, at_i, at_u, at_p0, at_p1, evs_len, ids_len, evss_len, idss_len, evs_get, ids_get, evss_get, idss_get, at_e0, at_e1, at_e2, at_e3, at_e4, at_d0, at_d1, at_l, at_agg, asL_vs, asI_i, asU_u, asB_b, bofZ, bof1, bof0, List.getD_cons_zero, List.getD_cons_succ, decide_eq_true_eq, decide_eq_false_iff_not, Bool.not_eq_true, Bool.not_eq_false, Bool.not_eq_true', Bool.not_eq_false', ne_eq, Decidable.not_not, Int.not_le, Int.not_lt, beq_iff_eq] at h_s))
    | (refine hF ?_; intro _; clear hF)
    | (refine hF ?_; cbv; clear hF)
    | (refine ⟨fun _ => ?_, ?_⟩; (· ((try simp only [nc] at *); first | done | omega | exact ⟨by omega, rfl⟩ | (simp (disch := (first | omega | (simp only [tab_len, List.length_append, List.length_map, List.length_range, List.length_replicate]; omega))) only [nc, nct, w64_of, Int.toNat_natCast, Int.toNat_zero, List.length_map, is_len, us_len, ps_len, is_get, us_get, ps_get, at_i, at_u, at_p0, at_p1, evs_len, ids_len, evss_len, idss_len, evs_get, ids_get, evss_get, idss_get, at_e0, at_e1, at_e2, at_e3, at_e4, at_d0, at_d1, at_l, at_agg, asL_vs, asI_i, asU_u, asB_b, bofZ, bof1, bof0, List.getD_cons_zero, List.getD_cons_succ]; first | done | omega | rfl | exact ⟨by omega, rfl⟩ | (simp; done) | (simp; omega)) | (intros; trivial))); (try (simp only [nc] at *)); (try simp (disch := (first | omega | (simp only [tab_len, List.length_append, List.length_map, List.length_range, List.length_replicate]; omega))) only [nc, nct, w64_of, Int.toNat_natCast, Int.toNat_zero, List.length_map, is_len, us_len, ps_len, is_get, us_get, ps_get, at_i, at_u, at_p0, at_p1, evs_len, ids_len, evss_len, idss_len, evs_get, ids_get, evss_get, idss_get, at_e0, at_e1, at_e2, at_e3, at_e4, at_d0, at_d1, at_l, at_agg, asL_vs, asI_i, asU_u, asB_b, bofZ, bof1, bof0, List.getD_cons_zero, List.getD_cons_succ]); (try cbv))
    | fail
  )
  all_goals (try simp only [nc] at *)
  all_goals (try simp (disch := (first | omega | (simp only [tab_len, List.length_append, List.length_map, List.length_range, List.length_replicate]; omega))) only [nc, nct, w64_of, Int.toNat_natCast, Int.toNat_zero, List.length_map, is_len, us_len, ps_len, is_get, us_get, ps_get, at_i, at_u, at_p0, at_p1, evs_len, ids_len, evss_len, idss_len, evs_get, ids_get, evss_get, idss_get, at_e0, at_e1, at_e2, at_e3, at_e4, at_d0, at_d1, at_l, at_agg, asL_vs, asI_i, asU_u, asB_b, bofZ, bof1, bof0, List.getD_cons_zero, List.getD_cons_succ])
  all_goals simp_all [acqM]
theorem drel_ok (V : Vw) {n : Nat} (hV : Wf V n) (a : Nat) (ha : a < n) : Pure Try.prog γ false 101 [pVw V, .i fun _ => (a : Int)] (.b fun _ => relM (V.ev.getD a ev0)) := by
  have h1 := hV.ev
  refine Pure.go (ty := ty) ty_eq mo Try.func101 rfl Try.ntmps101 Try.results101 Try.call101 (by simp) fun P C CQ D W F E hF => ?_
  cbv
  repeat' (first
    | (refine ⟨fun _ h_s => ?_, fun _ h_s => ?_⟩ <;> (cbv; (try simp only [nc] at *); try simp (disch := (first | omega | (simp only [tab_len, List.length_append, List.length_map, List.length_range, List.length_replicate]; omega))) only [nc, nct, w64_of, Int.toNat_natCast, Int.toNat_zero, List.length_map, is_len, us_len, ps_len, is_get, us_get, ps_get, at_i, at_u, at_p0, at_p1, evs_len, ids_len, evss_len, idss_len, evs_get, ids_get, evss_get, idss_get, at_e0, at_e1, at_e2, at_e3, at_e4, at_d0, at_d1, at_l, at_agg, asL_vs, asI_i, asU_u, asB_b, bofZ, bof1, bof0, List.getD_cons_zero, List.getD_cons_succ, decide_eq_true_eq, decide_eq_false_iff_not, Bool.not_eq_true, Bool.not_eq_false, Bool.not_eq_true', Bool.not_eq_false', ne_eq, Decidable.not_not, Int.not_le, Int.not_lt, beq_iff_eq] at h_s))
    | (refine hF ?_; intro _; clear hF)
    | (refine hF ?_; cbv; clear hF)
    | (refine ⟨fun _ => ?_, ?_⟩; (· ((try simp only [nc] at *); first | done | omega | exact ⟨by omega, rfl⟩ | (simp (disch := (first | omega | (simp only [tab_len, List.length_append, List.length_map, List.length_range, List.length_replicate]; omega))) only [nc, nct, w64_of, Int.toNat_natCast, Int.toNat_zero, List.length_map, is_len, us_len, ps_len, is_get, us_get, ps_get, at_i, at_u, at_p0, at_p1, evs_len, ids_len, evss_len, idss_len, evs_get, ids_get, evss_get, idss_get, at_e0, at_e1, at_e2, at_e3, at_e4, at_d0, at_d1, at_l, at_agg, asL_vs, asI_i, asU_u, asB_b, bofZ, bof1, bof0, List.getD_cons_zero, List.getD_cons_succ]; first | done | omega | rfl | exact ⟨by omega, rfl⟩ | (simp; done) | (simp; omega)) | (intros; trivial))); (try (simp only [nc] at *)); (try simp (disch := (first | omega | (simp only [tab_len, List.length_append, List.length_map, List.length_range, List.length_replicate]; omega))) only [nc, nct, w64_of, Int.toNat_natCast, Int.toNat_zero, List.length_map, is_len, us_len, ps_len, is_get, us_get, ps_get, at_i, at_u, at_p0, at_p1, evs_len, ids_len, evss_len, idss_len, evs_get, ids_get, evss_get, idss_get, at_e0, at_e1, at_e2, at_e3, at_e4, at_d0, at_d1, at_l, at_agg, asL_vs, asI_i, asU_u, asB_b, bofZ, bof1, bof0, List.getD_cons_zero, List.getD_cons_succ]); (try cbv))
    | fail
  )
  all_goals (try simp only [nc] at *)
  all_goals (try simp (disch := (first | omega | (simp only [tab_len, List.length_append, List.length_map, List.length_range, List.length_replicate]; omega))) only [nc, nct, w64_of, Int.toNat_natCast, Int.toNat_zero, List.length_map, is_len, us_len, ps_len, is_get, us_get, ps_get, at_i, at_u, at_p0, at_p1, evs_len, ids_len, evss_len, idss_len, evs_get, ids_get, evss_get, idss_get, at_e0, at_e1, at_e2, at_e3, at_e4, at_d0, at_d1, at_l, at_agg, asL_vs, asI_i, asU_u, asB_b, bofZ, bof1, bof0, List.getD_cons_zero, List.getD_cons_succ])
  all_goals simp_all [relM]
theorem drf_ok (V : Vw) {n : Nat} (hV : Wf V n) (a b : Nat) (ha : a < n) (hb : b < n) : Pure Try.prog γ false 77 [pVw V, .i fun _ => (a : Int), .i fun _ => (b : Int)] (.b fun _ => rfM V a b) := by
  have h1 := hV.fr
  refine Pure.go (ty := ty) ty_eq mo Try.func77 rfl Try.ntmps77 Try.results77 Try.call77 (by simp) fun P C CQ D W F E hF => ?_
  cbv
  repeat' (first
    | (refine ⟨fun _ h_s => ?_, fun _ h_s => ?_⟩ <;> (cbv; (try simp only [nc] at *); try simp (disch := (first | omega | (simp only [tab_len, List.length_append, List.length_map, List.length_range, List.length_replicate]; omega))) only [nc, nct, w64_of, Int.toNat_natCast, Int.toNat_zero, List.length_map, is_len, us_len, ps_len, is_get, us_get, ps_get, at_i, at_u, at_p0, at_p1, evs_len, ids_len, evss_len, idss_len, evs_get, ids_get, evss_get, idss_get, at_e0, at_e1, at_e2, at_e3, at_e4, at_d0, at_d1, at_l, at_agg, asL_vs, asI_i, asU_u, asB_b, bofZ, bof1, bof0, List.getD_cons_zero, List.getD_cons_succ, decide_eq_true_eq, decide_eq_false_iff_not, Bool.not_eq_true, Bool.not_eq_false, Bool.not_eq_true', Bool.not_eq_false', ne_eq, Decidable.not_not, Int.not_le, Int.not_lt, beq_iff_eq] at h_s))
    | (refine hF ?_; intro _; clear hF)
    | (refine hF ?_; cbv; clear hF)
    | (refine ⟨fun _ => ?_, ?_⟩; (· ((try simp only [nc] at *); first | done | omega | exact ⟨by omega, rfl⟩ | (simp (disch := (first | omega | (simp only [tab_len, List.length_append, List.length_map, List.length_range, List.length_replicate]; omega))) only [nc, nct, w64_of, Int.toNat_natCast, Int.toNat_zero, List.length_map, is_len, us_len, ps_len, is_get, us_get, ps_get, at_i, at_u, at_p0, at_p1, evs_len, ids_len, evss_len, idss_len, evs_get, ids_get, evss_get, idss_get, at_e0, at_e1, at_e2, at_e3, at_e4, at_d0, at_d1, at_l, at_agg, asL_vs, asI_i, asU_u, asB_b, bofZ, bof1, bof0, List.getD_cons_zero, List.getD_cons_succ]; first | done | omega | rfl | exact ⟨by omega, rfl⟩ | (simp; done) | (simp; omega)) | (intros; trivial))); (try (simp only [nc] at *)); (try simp (disch := (first | omega | (simp only [tab_len, List.length_append, List.length_map, List.length_range, List.length_replicate]; omega))) only [nc, nct, w64_of, Int.toNat_natCast, Int.toNat_zero, List.length_map, is_len, us_len, ps_len, is_get, us_get, ps_get, at_i, at_u, at_p0, at_p1, evs_len, ids_len, evss_len, idss_len, evs_get, ids_get, evss_get, idss_get, at_e0, at_e1, at_e2, at_e3, at_e4, at_d0, at_d1, at_l, at_agg, asL_vs, asI_i, asU_u, asB_b, bofZ, bof1, bof0, List.getD_cons_zero, List.getD_cons_succ]); (try cbv))
    | fail
  )
  all_goals (try simp only [nc] at *)
  all_goals (try simp (disch := (first | omega | (simp only [tab_len, List.length_append, List.length_map, List.length_range, List.length_replicate]; omega))) only [nc, nct, w64_of, Int.toNat_natCast, Int.toNat_zero, List.length_map, is_len, us_len, ps_len, is_get, us_get, ps_get, at_i, at_u, at_p0, at_p1, evs_len, ids_len, evss_len, idss_len, evs_get, ids_get, evss_get, idss_get, at_e0, at_e1, at_e2, at_e3, at_e4, at_d0, at_d1, at_l, at_agg, asL_vs, asI_i, asU_u, asB_b, bofZ, bof1, bof0, List.getD_cons_zero, List.getD_cons_succ])
  all_goals simp_all [rfM]
theorem dnear_ok (V : Vw) {n : Nat} (hV : Wf V n) (a b : Nat) (ha : a < n) (hb : b < n) : Pure Try.prog γ false 128 [pVw V, .i fun _ => (a : Int), .i fun _ => (b : Int)] (.b fun _ => nearM V a b) := by
  have h1 := hV.ev
  refine Pure.go (ty := ty) ty_eq mo Try.func128 rfl Try.ntmps128 Try.results128 Try.call128 (by simp) fun P C CQ D W F E hF => ?_
  cbv
  repeat' (first
    | (refine E.c (SCalls.of_le (dfence_ok V hV b hb) ?_ ?_); (· (cbv; (try simp only [nc] at *); first | done | (simp; done) | (simp (disch := (first | omega | (simp only [tab_len, List.length_append, List.length_map, List.length_range, List.length_replicate]; omega))) only [nc, nct, w64_of, Int.toNat_natCast, Int.toNat_zero, List.length_map, is_len, us_len, ps_len, is_get, us_get, ps_get, at_i, at_u, at_p0, at_p1, evs_len, ids_len, evss_len, idss_len, evs_get, ids_get, evss_get, idss_get, at_e0, at_e1, at_e2, at_e3, at_e4, at_d0, at_d1, at_l, at_agg, asL_vs, asI_i, asU_u, asB_b, bofZ, bof1, bof0, List.getD_cons_zero, List.getD_cons_succ, implies_true, and_true, true_and, forall_const]; first | done | omega | (refine ⟨?_, ?_⟩ <;> omega)) | (simp (disch := (first | omega | (simp only [tab_len, List.length_append, List.length_map, List.length_range, List.length_replicate]; omega))) [nc, nct, w64_of, Int.toNat_natCast, Int.toNat_zero, List.length_map, is_len, us_len, ps_len, is_get, us_get, ps_get, at_i, at_u, at_p0, at_p1, evs_len, ids_len, evss_len, idss_len, evs_get, ids_get, evss_get, idss_get, at_e0, at_e1, at_e2, at_e3, at_e4, at_d0, at_d1, at_l, at_agg, asL_vs, asI_i, asU_u, asB_b, bofZ, bof1, bof0, List.getD_cons_zero, List.getD_cons_succ]; done))); cbv)
    | (refine E.q (QCalls.of_le (dfence_ok V hV b hb) ?_ ?_); (· (cbv; (try simp only [nc] at *); first | done | (simp; done) | (simp (disch := (first | omega | (simp only [tab_len, List.length_append, List.length_map, List.length_range, List.length_replicate]; omega))) only [nc, nct, w64_of, Int.toNat_natCast, Int.toNat_zero, List.length_map, is_len, us_len, ps_len, is_get, us_get, ps_get, at_i, at_u, at_p0, at_p1, evs_len, ids_len, evss_len, idss_len, evs_get, ids_get, evss_get, idss_get, at_e0, at_e1, at_e2, at_e3, at_e4, at_d0, at_d1, at_l, at_agg, asL_vs, asI_i, asU_u, asB_b, bofZ, bof1, bof0, List.getD_cons_zero, List.getD_cons_succ, implies_true, and_true, true_and, forall_const]; first | done | omega | (refine ⟨?_, ?_⟩ <;> omega)) | (simp (disch := (first | omega | (simp only [tab_len, List.length_append, List.length_map, List.length_range, List.length_replicate]; omega))) [nc, nct, w64_of, Int.toNat_natCast, Int.toNat_zero, List.length_map, is_len, us_len, ps_len, is_get, us_get, ps_get, at_i, at_u, at_p0, at_p1, evs_len, ids_len, evss_len, idss_len, evs_get, ids_get, evss_get, idss_get, at_e0, at_e1, at_e2, at_e3, at_e4, at_d0, at_d1, at_l, at_agg, asL_vs, asI_i, asU_u, asB_b, bofZ, bof1, bof0, List.getD_cons_zero, List.getD_cons_succ]; done))); cbv)
    | (refine E.c (SCalls.of_le (dfence_ok V hV a ha) ?_ ?_); (· (cbv; (try simp only [nc] at *); first | done | (simp; done) | (simp (disch := (first | omega | (simp only [tab_len, List.length_append, List.length_map, List.length_range, List.length_replicate]; omega))) only [nc, nct, w64_of, Int.toNat_natCast, Int.toNat_zero, List.length_map, is_len, us_len, ps_len, is_get, us_get, ps_get, at_i, at_u, at_p0, at_p1, evs_len, ids_len, evss_len, idss_len, evs_get, ids_get, evss_get, idss_get, at_e0, at_e1, at_e2, at_e3, at_e4, at_d0, at_d1, at_l, at_agg, asL_vs, asI_i, asU_u, asB_b, bofZ, bof1, bof0, List.getD_cons_zero, List.getD_cons_succ, implies_true, and_true, true_and, forall_const]; first | done | omega | (refine ⟨?_, ?_⟩ <;> omega)) | (simp (disch := (first | omega | (simp only [tab_len, List.length_append, List.length_map, List.length_range, List.length_replicate]; omega))) [nc, nct, w64_of, Int.toNat_natCast, Int.toNat_zero, List.length_map, is_len, us_len, ps_len, is_get, us_get, ps_get, at_i, at_u, at_p0, at_p1, evs_len, ids_len, evss_len, idss_len, evs_get, ids_get, evss_get, idss_get, at_e0, at_e1, at_e2, at_e3, at_e4, at_d0, at_d1, at_l, at_agg, asL_vs, asI_i, asU_u, asB_b, bofZ, bof1, bof0, List.getD_cons_zero, List.getD_cons_succ]; done))); cbv)
    | (refine E.q (QCalls.of_le (dfence_ok V hV a ha) ?_ ?_); (· (cbv; (try simp only [nc] at *); first | done | (simp; done) | (simp (disch := (first | omega | (simp only [tab_len, List.length_append, List.length_map, List.length_range, List.length_replicate]; omega))) only [nc, nct, w64_of, Int.toNat_natCast, Int.toNat_zero, List.length_map, is_len, us_len, ps_len, is_get, us_get, ps_get, at_i, at_u, at_p0, at_p1, evs_len, ids_len, evss_len, idss_len, evs_get, ids_get, evss_get, idss_get, at_e0, at_e1, at_e2, at_e3, at_e4, at_d0, at_d1, at_l, at_agg, asL_vs, asI_i, asU_u, asB_b, bofZ, bof1, bof0, List.getD_cons_zero, List.getD_cons_succ, implies_true, and_true, true_and, forall_const]; first | done | omega | (refine ⟨?_, ?_⟩ <;> omega)) | (simp (disch := (first | omega | (simp only [tab_len, List.length_append, List.length_map, List.length_range, List.length_replicate]; omega))) [nc, nct, w64_of, Int.toNat_natCast, Int.toNat_zero, List.length_map, is_len, us_len, ps_len, is_get, us_get, ps_get, at_i, at_u, at_p0, at_p1, evs_len, ids_len, evss_len, idss_len, evs_get, ids_get, evss_get, idss_get, at_e0, at_e1, at_e2, at_e3, at_e4, at_d0, at_d1, at_l, at_agg, asL_vs, asI_i, asU_u, asB_b, bofZ, bof1, bof0, List.getD_cons_zero, List.getD_cons_succ]; done))); cbv)
    | (refine ⟨fun _ h_s => ?_, fun _ h_s => ?_⟩ <;> (cbv; (try simp only [nc] at *); try simp (disch := (first | omega | (simp only [tab_len, List.length_append, List.length_map, List.length_range, List.length_replicate]; omega))) only [nc, nct, w64_of, Int.toNat_natCast, Int.toNat_zero, List.length_map, is_len, us_len, ps_len, is_get, us_get, ps_get, at_i, at_u, at_p0, at_p1, evs_len, ids_len, evss_len, idss_len, evs_get, ids_get, evss_get, idss_get, at_e0, at_e1, at_e2, at_e3, at_e4, at_d0, at_d1, at_l, at_agg, asL_vs, asI_i, asU_u, asB_b, bofZ, bof1, bof0, List.getD_cons_zero, List.getD_cons_succ, decide_eq_true_eq, decide_eq_false_iff_not, Bool.not_eq_true, Bool.not_eq_false, Bool.not_eq_true', Bool.not_eq_false', ne_eq, Decidable.not_not, Int.not_le, Int.not_lt, beq_iff_eq] at h_s))
    | (refine hF ?_; intro _; clear hF)
    | (refine hF ?_; cbv; clear hF)
    | (refine ⟨fun _ => ?_, ?_⟩; (· ((try simp only [nc] at *); first | done | omega | exact ⟨by omega, rfl⟩ | (simp (disch := (first | omega | (simp only [tab_len, List.length_append, List.length_map, List.length_range, List.length_replicate]; omega))) only [nc, nct, w64_of, Int.toNat_natCast, Int.toNat_zero, List.length_map, is_len, us_len, ps_len, is_get, us_get, ps_get, at_i, at_u, at_p0, at_p1, evs_len, ids_len, evss_len, idss_len, evs_get, ids_get, evss_get, idss_get, at_e0, at_e1, at_e2, at_e3, at_e4, at_d0, at_d1, at_l, at_agg, asL_vs, asI_i, asU_u, asB_b, bofZ, bof1, bof0, List.getD_cons_zero, List.getD_cons_succ]; first | done | omega | rfl | exact ⟨by omega, rfl⟩ | (simp; done) | (simp; omega)) | (intros; trivial))); (try (simp only [nc] at *)); (try simp (disch := (first | omega | (simp only [tab_len, List.length_append, List.length_map, List.length_range, List.length_replicate]; omega))) only [nc, nct, w64_of, Int.toNat_natCast, Int.toNat_zero, List.length_map, is_len, us_len, ps_len, is_get, us_get, ps_get, at_i, at_u, at_p0, at_p1, evs_len, ids_len, evss_len, idss_len, evs_get, ids_get, evss_get, idss_get, at_e0, at_e1, at_e2, at_e3, at_e4, at_d0, at_d1, at_l, at_agg, asL_vs, asI_i, asU_u, asB_b, bofZ, bof1, bof0, List.getD_cons_zero, List.getD_cons_succ]); (try cbv))
    | (refine E.d 27 (by decide +kernel) ?_; cbv; (fail_if_success guard_target =~ False))
    | fail
  )
  all_goals (try simp only [nc] at *)
  all_goals (try simp (disch := (first | omega | (simp only [tab_len, List.length_append, List.length_map, List.length_range, List.length_replicate]; omega))) only [nc, nct, w64_of, Int.toNat_natCast, Int.toNat_zero, List.length_map, is_len, us_len, ps_len, is_get, us_get, ps_get, at_i, at_u, at_p0, at_p1, evs_len, ids_len, evss_len, idss_len, evs_get, ids_get, evss_get, idss_get, at_e0, at_e1, at_e2, at_e3, at_e4, at_d0, at_d1, at_l, at_agg, asL_vs, asI_i, asU_u, asB_b, bofZ, bof1, bof0, List.getD_cons_zero, List.getD_cons_succ])
  all_goals simp_all [nearM]
theorem dco_ok (V : Vw) {n : Nat} (hV : Wf V n) (a b : Nat) (ha : a < n) (hb : b < n) : Pure Try.prog γ false 78 [pVw V, .i fun _ => (a : Int), .i fun _ => (b : Int)] (.b fun _ => coM V a b) := by
  have h1 := hV.pl
  refine Pure.go (ty := ty) ty_eq mo Try.func78 rfl Try.ntmps78 Try.results78 Try.call78 (by simp) fun P C CQ D W F E hF => ?_
  cbv
  repeat' (first
    | (refine E.c (SCalls.of_le (dnear_ok V hV a b ha hb) ?_ ?_); (· (cbv; (try simp only [nc] at *); first | done | (simp; done) | (simp (disch := (first | omega | (simp only [tab_len, List.length_append, List.length_map, List.length_range, List.length_replicate]; omega))) only [nc, nct, w64_of, Int.toNat_natCast, Int.toNat_zero, List.length_map, is_len, us_len, ps_len, is_get, us_get, ps_get, at_i, at_u, at_p0, at_p1, evs_len, ids_len, evss_len, idss_len, evs_get, ids_get, evss_get, idss_get, at_e0, at_e1, at_e2, at_e3, at_e4, at_d0, at_d1, at_l, at_agg, asL_vs, asI_i, asU_u, asB_b, bofZ, bof1, bof0, List.getD_cons_zero, List.getD_cons_succ, implies_true, and_true, true_and, forall_const]; first | done | omega | (refine ⟨?_, ?_⟩ <;> omega)) | (simp (disch := (first | omega | (simp only [tab_len, List.length_append, List.length_map, List.length_range, List.length_replicate]; omega))) [nc, nct, w64_of, Int.toNat_natCast, Int.toNat_zero, List.length_map, is_len, us_len, ps_len, is_get, us_get, ps_get, at_i, at_u, at_p0, at_p1, evs_len, ids_len, evss_len, idss_len, evs_get, ids_get, evss_get, idss_get, at_e0, at_e1, at_e2, at_e3, at_e4, at_d0, at_d1, at_l, at_agg, asL_vs, asI_i, asU_u, asB_b, bofZ, bof1, bof0, List.getD_cons_zero, List.getD_cons_succ]; done))); cbv)
    | (refine E.q (QCalls.of_le (dnear_ok V hV a b ha hb) ?_ ?_); (· (cbv; (try simp only [nc] at *); first | done | (simp; done) | (simp (disch := (first | omega | (simp only [tab_len, List.length_append, List.length_map, List.length_range, List.length_replicate]; omega))) only [nc, nct, w64_of, Int.toNat_natCast, Int.toNat_zero, List.length_map, is_len, us_len, ps_len, is_get, us_get, ps_get, at_i, at_u, at_p0, at_p1, evs_len, ids_len, evss_len, idss_len, evs_get, ids_get, evss_get, idss_get, at_e0, at_e1, at_e2, at_e3, at_e4, at_d0, at_d1, at_l, at_agg, asL_vs, asI_i, asU_u, asB_b, bofZ, bof1, bof0, List.getD_cons_zero, List.getD_cons_succ, implies_true, and_true, true_and, forall_const]; first | done | omega | (refine ⟨?_, ?_⟩ <;> omega)) | (simp (disch := (first | omega | (simp only [tab_len, List.length_append, List.length_map, List.length_range, List.length_replicate]; omega))) [nc, nct, w64_of, Int.toNat_natCast, Int.toNat_zero, List.length_map, is_len, us_len, ps_len, is_get, us_get, ps_get, at_i, at_u, at_p0, at_p1, evs_len, ids_len, evss_len, idss_len, evs_get, ids_get, evss_get, idss_get, at_e0, at_e1, at_e2, at_e3, at_e4, at_d0, at_d1, at_l, at_agg, asL_vs, asI_i, asU_u, asB_b, bofZ, bof1, bof0, List.getD_cons_zero, List.getD_cons_succ]; done))); cbv)
    | (refine ⟨fun _ h_s => ?_, fun _ h_s => ?_⟩ <;> (cbv; (try simp only [nc] at *); try simp (disch := (first | omega | (simp only [tab_len, List.length_append, List.length_map, List.length_range, List.length_replicate]; omega))) only [nc, nct, w64_of, Int.toNat_natCast, Int.toNat_zero, List.length_map, is_len, us_len, ps_len, is_get, us_get, ps_get, at_i, at_u, at_p0, at_p1, evs_len, ids_len, evss_len, idss_len, evs_get, ids_get, evss_get, idss_get, at_e0, at_e1, at_e2, at_e3, at_e4, at_d0, at_d1, at_l, at_agg, asL_vs, asI_i, asU_u, asB_b, bofZ, bof1, bof0, List.getD_cons_zero, List.getD_cons_succ, decide_eq_true_eq, decide_eq_false_iff_not, Bool.not_eq_true, Bool.not_eq_false, Bool.not_eq_true', Bool.not_eq_false', ne_eq, Decidable.not_not, Int.not_le, Int.not_lt, beq_iff_eq] at h_s))
    | (refine hF ?_; intro _; clear hF)
    | (refine hF ?_; cbv; clear hF)
    | (refine ⟨fun _ => ?_, ?_⟩; (· ((try simp only [nc] at *); first | done | omega | exact ⟨by omega, rfl⟩ | (simp (disch := (first | omega | (simp only [tab_len, List.length_append, List.length_map, List.length_range, List.length_replicate]; omega))) only [nc, nct, w64_of, Int.toNat_natCast, Int.toNat_zero, List.length_map, is_len, us_len, ps_len, is_get, us_get, ps_get, at_i, at_u, at_p0, at_p1, evs_len, ids_len, evss_len, idss_len, evs_get, ids_get, evss_get, idss_get, at_e0, at_e1, at_e2, at_e3, at_e4, at_d0, at_d1, at_l, at_agg, asL_vs, asI_i, asU_u, asB_b, bofZ, bof1, bof0, List.getD_cons_zero, List.getD_cons_succ]; first | done | omega | rfl | exact ⟨by omega, rfl⟩ | (simp; done) | (simp; omega)) | (intros; trivial))); (try (simp only [nc] at *)); (try simp (disch := (first | omega | (simp only [tab_len, List.length_append, List.length_map, List.length_range, List.length_replicate]; omega))) only [nc, nct, w64_of, Int.toNat_natCast, Int.toNat_zero, List.length_map, is_len, us_len, ps_len, is_get, us_get, ps_get, at_i, at_u, at_p0, at_p1, evs_len, ids_len, evss_len, idss_len, evs_get, ids_get, evss_get, idss_get, at_e0, at_e1, at_e2, at_e3, at_e4, at_d0, at_d1, at_l, at_agg, asL_vs, asI_i, asU_u, asB_b, bofZ, bof1, bof0, List.getD_cons_zero, List.getD_cons_succ]); (try cbv))
    | (refine E.d 29 (by decide +kernel) ?_; cbv; (fail_if_success guard_target =~ False))
    | fail
  )
  all_goals (try simp only [nc] at *)
  all_goals (try simp (disch := (first | omega | (simp only [tab_len, List.length_append, List.length_map, List.length_range, List.length_replicate]; omega))) only [nc, nct, w64_of, Int.toNat_natCast, Int.toNat_zero, List.length_map, is_len, us_len, ps_len, is_get, us_get, ps_get, at_i, at_u, at_p0, at_p1, evs_len, ids_len, evss_len, idss_len, evs_get, ids_get, evss_get, idss_get, at_e0, at_e1, at_e2, at_e3, at_e4, at_d0, at_d1, at_l, at_agg, asL_vs, asI_i, asU_u, asB_b, bofZ, bof1, bof0, List.getD_cons_zero, List.getD_cons_succ])
  all_goals (try simp only [coM])
  all_goals grind
theorem dfr_ok (V : Vw) {n : Nat} (hV : Wf V n) (a b : Nat) (ha : a < n) (hb : b < n) : Pure Try.prog γ false 79 [pVw V, .i fun _ => (a : Int), .i fun _ => (b : Int)] (.b fun _ => frM V a b) := by
  have h1 := hV.fr
  have h2 := hV.frl a ha
  refine Pure.go (ty := ty) ty_eq mo Try.func79 rfl Try.ntmps79 Try.results79 Try.call79 (by simp) fun P C CQ D W F E hF => ?_
  cbv
  repeat' (first
    | (refine E.c (SCalls.of_le (dco_ok V hV (V.fr.getD a 0).toNat b (by ((try simp only [nc] at *); omega)) hb) ?_ ?_); (· (cbv; (try simp only [nc] at *); first | done | (simp; done) | (simp (disch := (first | omega | (simp only [tab_len, List.length_append, List.length_map, List.length_range, List.length_replicate]; omega))) only [nc, nct, w64_of, Int.toNat_natCast, Int.toNat_zero, List.length_map, is_len, us_len, ps_len, is_get, us_get, ps_get, at_i, at_u, at_p0, at_p1, evs_len, ids_len, evss_len, idss_len, evs_get, ids_get, evss_get, idss_get, at_e0, at_e1, at_e2, at_e3, at_e4, at_d0, at_d1, at_l, at_agg, asL_vs, asI_i, asU_u, asB_b, bofZ, bof1, bof0, List.getD_cons_zero, List.getD_cons_succ, implies_true, and_true, true_and, forall_const]; first | done | omega | (refine ⟨?_, ?_⟩ <;> omega)) | (simp (disch := (first | omega | (simp only [tab_len, List.length_append, List.length_map, List.length_range, List.length_replicate]; omega))) [nc, nct, w64_of, Int.toNat_natCast, Int.toNat_zero, List.length_map, is_len, us_len, ps_len, is_get, us_get, ps_get, at_i, at_u, at_p0, at_p1, evs_len, ids_len, evss_len, idss_len, evs_get, ids_get, evss_get, idss_get, at_e0, at_e1, at_e2, at_e3, at_e4, at_d0, at_d1, at_l, at_agg, asL_vs, asI_i, asU_u, asB_b, bofZ, bof1, bof0, List.getD_cons_zero, List.getD_cons_succ]; done))); cbv)
    | (refine E.q (QCalls.of_le (dco_ok V hV (V.fr.getD a 0).toNat b (by ((try simp only [nc] at *); omega)) hb) ?_ ?_); (· (cbv; (try simp only [nc] at *); first | done | (simp; done) | (simp (disch := (first | omega | (simp only [tab_len, List.length_append, List.length_map, List.length_range, List.length_replicate]; omega))) only [nc, nct, w64_of, Int.toNat_natCast, Int.toNat_zero, List.length_map, is_len, us_len, ps_len, is_get, us_get, ps_get, at_i, at_u, at_p0, at_p1, evs_len, ids_len, evss_len, idss_len, evs_get, ids_get, evss_get, idss_get, at_e0, at_e1, at_e2, at_e3, at_e4, at_d0, at_d1, at_l, at_agg, asL_vs, asI_i, asU_u, asB_b, bofZ, bof1, bof0, List.getD_cons_zero, List.getD_cons_succ, implies_true, and_true, true_and, forall_const]; first | done | omega | (refine ⟨?_, ?_⟩ <;> omega)) | (simp (disch := (first | omega | (simp only [tab_len, List.length_append, List.length_map, List.length_range, List.length_replicate]; omega))) [nc, nct, w64_of, Int.toNat_natCast, Int.toNat_zero, List.length_map, is_len, us_len, ps_len, is_get, us_get, ps_get, at_i, at_u, at_p0, at_p1, evs_len, ids_len, evss_len, idss_len, evs_get, ids_get, evss_get, idss_get, at_e0, at_e1, at_e2, at_e3, at_e4, at_d0, at_d1, at_l, at_agg, asL_vs, asI_i, asU_u, asB_b, bofZ, bof1, bof0, List.getD_cons_zero, List.getD_cons_succ]; done))); cbv)
    | (refine ⟨fun _ h_s => ?_, fun _ h_s => ?_⟩ <;> (cbv; (try simp only [nc] at *); try simp (disch := (first | omega | (simp only [tab_len, List.length_append, List.length_map, List.length_range, List.length_replicate]; omega))) only [nc, nct, w64_of, Int.toNat_natCast, Int.toNat_zero, List.length_map, is_len, us_len, ps_len, is_get, us_get, ps_get, at_i, at_u, at_p0, at_p1, evs_len, ids_len, evss_len, idss_len, evs_get, ids_get, evss_get, idss_get, at_e0, at_e1, at_e2, at_e3, at_e4, at_d0, at_d1, at_l, at_agg, asL_vs, asI_i, asU_u, asB_b, bofZ, bof1, bof0, List.getD_cons_zero, List.getD_cons_succ, decide_eq_true_eq, decide_eq_false_iff_not, Bool.not_eq_true, Bool.not_eq_false, Bool.not_eq_true', Bool.not_eq_false', ne_eq, Decidable.not_not, Int.not_le, Int.not_lt, beq_iff_eq] at h_s))
    | (refine hF ?_; intro _; clear hF)
    | (refine hF ?_; cbv; clear hF)
    | (refine ⟨fun _ => ?_, ?_⟩; (· ((try simp only [nc] at *); first | done | omega | exact ⟨by omega, rfl⟩ | (simp (disch := (first | omega | (simp only [tab_len, List.length_append, List.length_map, List.length_range, List.length_replicate]; omega))) only [nc, nct, w64_of, Int.toNat_natCast, Int.toNat_zero, List.length_map, is_len, us_len, ps_len, is_get, us_get, ps_get, at_i, at_u, at_p0, at_p1, evs_len, ids_len, evss_len, idss_len, evs_get, ids_get, evss_get, idss_get, at_e0, at_e1, at_e2, at_e3, at_e4, at_d0, at_d1, at_l, at_agg, asL_vs, asI_i, asU_u, asB_b, bofZ, bof1, bof0, List.getD_cons_zero, List.getD_cons_succ]; first | done | omega | rfl | exact ⟨by omega, rfl⟩ | (simp; done) | (simp; omega)) | (intros; trivial))); (try (simp only [nc] at *)); (try simp (disch := (first | omega | (simp only [tab_len, List.length_append, List.length_map, List.length_range, List.length_replicate]; omega))) only [nc, nct, w64_of, Int.toNat_natCast, Int.toNat_zero, List.length_map, is_len, us_len, ps_len, is_get, us_get, ps_get, at_i, at_u, at_p0, at_p1, evs_len, ids_len, evss_len, idss_len, evs_get, ids_get, evss_get, idss_get, at_e0, at_e1, at_e2, at_e3, at_e4, at_d0, at_d1, at_l, at_agg, asL_vs, asI_i, asU_u, asB_b, bofZ, bof1, bof0, List.getD_cons_zero, List.getD_cons_succ]); (try cbv))
    | fail
  )
  all_goals (try simp only [nc] at *)
  all_goals (try simp (disch := (first | omega | (simp only [tab_len, List.length_append, List.length_map, List.length_range, List.length_replicate]; omega))) only [nc, nct, w64_of, Int.toNat_natCast, Int.toNat_zero, List.length_map, is_len, us_len, ps_len, is_get, us_get, ps_get, at_i, at_u, at_p0, at_p1, evs_len, ids_len, evss_len, idss_len, evs_get, ids_get, evss_get, idss_get, at_e0, at_e1, at_e2, at_e3, at_e4, at_d0, at_d1, at_l, at_agg, asL_vs, asI_i, asU_u, asB_b, bofZ, bof1, bof0, List.getD_cons_zero, List.getD_cons_succ])
  all_goals (have e : ((a : Int) = b) ↔ a = b := Int.ofNat_inj; try simp only [frM, e] at *)
  all_goals grind
theorem dloc_ok (V : Vw) {n : Nat} (hV : Wf V n) (a b : Nat) (ha : a < n) (hb : b < n) : Pure Try.prog γ false 82 [pVw V, .i fun _ => (a : Int), .i fun _ => (b : Int)] (.b fun _ => locM V a b) := by
  refine Pure.go (ty := ty) ty_eq mo Try.func82 rfl Try.ntmps82 Try.results82 Try.call82 (by simp) fun P C CQ D W F E hF => ?_
  cbv
  repeat' (first
    | (refine E.c (SCalls.of_le (dnear_ok V hV a b ha hb) ?_ ?_); (· (cbv; (try simp only [nc] at *); first | done | (simp; done) | (simp (disch := (first | omega | (simp only [tab_len, List.length_append, List.length_map, List.length_range, List.length_replicate]; omega))) only [nc, nct, w64_of, Int.toNat_natCast, Int.toNat_zero, List.length_map, is_len, us_len, ps_len, is_get, us_get, ps_get, at_i, at_u, at_p0, at_p1, evs_len, ids_len, evss_len, idss_len, evs_get, ids_get, evss_get, idss_get, at_e0, at_e1, at_e2, at_e3, at_e4, at_d0, at_d1, at_l, at_agg, asL_vs, asI_i, asU_u, asB_b, bofZ, bof1, bof0, List.getD_cons_zero, List.getD_cons_succ, implies_true, and_true, true_and, forall_const]; first | done | omega | (refine ⟨?_, ?_⟩ <;> omega)) | (simp (disch := (first | omega | (simp only [tab_len, List.length_append, List.length_map, List.length_range, List.length_replicate]; omega))) [nc, nct, w64_of, Int.toNat_natCast, Int.toNat_zero, List.length_map, is_len, us_len, ps_len, is_get, us_get, ps_get, at_i, at_u, at_p0, at_p1, evs_len, ids_len, evss_len, idss_len, evs_get, ids_get, evss_get, idss_get, at_e0, at_e1, at_e2, at_e3, at_e4, at_d0, at_d1, at_l, at_agg, asL_vs, asI_i, asU_u, asB_b, bofZ, bof1, bof0, List.getD_cons_zero, List.getD_cons_succ]; done))); cbv)
    | (refine E.q (QCalls.of_le (dnear_ok V hV a b ha hb) ?_ ?_); (· (cbv; (try simp only [nc] at *); first | done | (simp; done) | (simp (disch := (first | omega | (simp only [tab_len, List.length_append, List.length_map, List.length_range, List.length_replicate]; omega))) only [nc, nct, w64_of, Int.toNat_natCast, Int.toNat_zero, List.length_map, is_len, us_len, ps_len, is_get, us_get, ps_get, at_i, at_u, at_p0, at_p1, evs_len, ids_len, evss_len, idss_len, evs_get, ids_get, evss_get, idss_get, at_e0, at_e1, at_e2, at_e3, at_e4, at_d0, at_d1, at_l, at_agg, asL_vs, asI_i, asU_u, asB_b, bofZ, bof1, bof0, List.getD_cons_zero, List.getD_cons_succ, implies_true, and_true, true_and, forall_const]; first | done | omega | (refine ⟨?_, ?_⟩ <;> omega)) | (simp (disch := (first | omega | (simp only [tab_len, List.length_append, List.length_map, List.length_range, List.length_replicate]; omega))) [nc, nct, w64_of, Int.toNat_natCast, Int.toNat_zero, List.length_map, is_len, us_len, ps_len, is_get, us_get, ps_get, at_i, at_u, at_p0, at_p1, evs_len, ids_len, evss_len, idss_len, evs_get, ids_get, evss_get, idss_get, at_e0, at_e1, at_e2, at_e3, at_e4, at_d0, at_d1, at_l, at_agg, asL_vs, asI_i, asU_u, asB_b, bofZ, bof1, bof0, List.getD_cons_zero, List.getD_cons_succ]; done))); cbv)
    | (refine ⟨fun _ h_s => ?_, fun _ h_s => ?_⟩ <;> (cbv; (try simp only [nc] at *); try simp (disch := (first | omega | (simp only [tab_len, List.length_append, List.length_map, List.length_range, List.length_replicate]; omega))) only [nc, nct, w64_of, Int.toNat_natCast, Int.toNat_zero, List.length_map, is_len, us_len, ps_len, is_get, us_get, ps_get, at_i, at_u, at_p0, at_p1, evs_len, ids_len, evss_len, idss_len, evs_get, ids_get, evss_get, idss_get, at_e0, at_e1, at_e2, at_e3, at_e4, at_d0, at_d1, at_l, at_agg, asL_vs, asI_i, asU_u, asB_b, bofZ, bof1, bof0, List.getD_cons_zero, List.getD_cons_succ, decide_eq_true_eq, decide_eq_false_iff_not, Bool.not_eq_true, Bool.not_eq_false, Bool.not_eq_true', Bool.not_eq_false', ne_eq, Decidable.not_not, Int.not_le, Int.not_lt, beq_iff_eq] at h_s))
    | (refine hF ?_; intro _; clear hF)
    | (refine hF ?_; cbv; clear hF)
    | (refine ⟨fun _ => ?_, ?_⟩; (· ((try simp only [nc] at *); first | done | omega | exact ⟨by omega, rfl⟩ | (simp (disch := (first | omega | (simp only [tab_len, List.length_append, List.length_map, List.length_range, List.length_replicate]; omega))) only [nc, nct, w64_of, Int.toNat_natCast, Int.toNat_zero, List.length_map, is_len, us_len, ps_len, is_get, us_get, ps_get, at_i, at_u, at_p0, at_p1, evs_len, ids_len, evss_len, idss_len, evs_get, ids_get, evss_get, idss_get, at_e0, at_e1, at_e2, at_e3, at_e4, at_d0, at_d1, at_l, at_agg, asL_vs, asI_i, asU_u, asB_b, bofZ, bof1, bof0, List.getD_cons_zero, List.getD_cons_succ]; first | done | omega | rfl | exact ⟨by omega, rfl⟩ | (simp; done) | (simp; omega)) | (intros; trivial))); (try (simp only [nc] at *)); (try simp (disch := (first | omega | (simp only [tab_len, List.length_append, List.length_map, List.length_range, List.length_replicate]; omega))) only [nc, nct, w64_of, Int.toNat_natCast, Int.toNat_zero, List.length_map, is_len, us_len, ps_len, is_get, us_get, ps_get, at_i, at_u, at_p0, at_p1, evs_len, ids_len, evss_len, idss_len, evs_get, ids_get, evss_get, idss_get, at_e0, at_e1, at_e2, at_e3, at_e4, at_d0, at_d1, at_l, at_agg, asL_vs, asI_i, asU_u, asB_b, bofZ, bof1, bof0, List.getD_cons_zero, List.getD_cons_succ]); (try cbv))
    | fail
  )
  all_goals (try simp only [nc] at *)
  all_goals (try simp (disch := (first | omega | (simp only [tab_len, List.length_append, List.length_map, List.length_range, List.length_replicate]; omega))) only [nc, nct, w64_of, Int.toNat_natCast, Int.toNat_zero, List.length_map, is_len, us_len, ps_len, is_get, us_get, ps_get, at_i, at_u, at_p0, at_p1, evs_len, ids_len, evss_len, idss_len, evs_get, ids_get, evss_get, idss_get, at_e0, at_e1, at_e2, at_e3, at_e4, at_d0, at_d1, at_l, at_agg, asL_vs, asI_i, asU_u, asB_b, bofZ, bof1, bof0, List.getD_cons_zero, List.getD_cons_succ])
  all_goals (have e : ((a : Int) = b) ↔ a = b := Int.ofNat_inj; simp_all [locM])
end Go.AL.Rl

namespace Go.AL.Rl
open Go Go.AL Go.Proofs
set_option maxRecDepth 100000
variable {γ : Nat → Option AV}

/-- the bits of all that are such -/
def maskTo (p : Nat → Bool) : Nat → BitVec 64
  | 0 => 0#64
  | n + 1 => if p n = true then maskTo p n ||| 1#64 <<< n else maskTo p n
theorem mask_bit (p : Nat → Bool) : ∀ (n : Nat), n ≤ 64 → ∀ j, (maskTo p n).getLsbD j = (decide (j < n) && p j)
  | 0, _, j => by simp [maskTo]
  | n + 1, h, j => by
    have ih := mask_bit p n (by omega) j
    unfold maskTo
    split
    · rename_i hp
      rw [BitVec.getLsbD_or, ih, BitVec.getLsbD_shiftLeft, BitVec.getLsbD_one]
      by_cases hj : j = n
      · subst hj; simp [hp]; omega
      · by_cases hlt : j < n
        · simp [hlt, show j < n + 1 by omega]
        · simp [hlt, show ¬ j < n + 1 by omega]; omega
    · rename_i hp
      rw [ih]
      by_cases hj : j = n
      · subst hj; simp at hp; simp [hp]
      · by_cases hlt : j < n
        · simp [hlt, show j < n + 1 by omega]
        · simp [hlt, show ¬ j < n + 1 by omega]
theorem bofInt {k : Nat} (h : k < 9223372036854775808) : (BitVec.ofInt 64 (k : Int)).toNat = k := by simp; omega
theorem dmask1_ok (V : Vw) {n : Nat} (hV : Wf V n) (f : Nat) (v : Unit → AV) (p : Nat → Bool) (hp : ∀ k < n, Pure Try.prog γ false f [.vp v 0, .i fun _ => (k : Int)] (.b fun _ => p k)) :
    Pure Try.prog γ false 90 [pVw V, .fn f [.vp v 0] []] (.u fun _ => maskTo p n) := by
  have h1 := hV.ids
  have h2 := hV.small
  refine Pure.go (ty := ty) ty_eq mo Try.func90 rfl Try.ntmps90 Try.results90 Try.call90 (by simp) fun P C CQ D W F E hF => ?_
  cbv
  repeat' (first
    | (refine ⟨fun _ h_s => ?_, fun _ h_s => ?_⟩ <;> (cbv; (try simp only [nc] at *); try simp (disch := (first | omega | (simp only [tab_len, List.length_append, List.length_map, List.length_range, List.length_replicate]; omega))) only [nc, nct, w64_of, Int.toNat_natCast, Int.toNat_zero, List.length_map, is_len, us_len, ps_len, is_get, us_get, ps_get, at_i, at_u, at_p0, at_p1, evs_len, ids_len, evss_len, idss_len, evs_get, ids_get, evss_get, idss_get, at_e0, at_e1, at_e2, at_e3, at_e4, at_d0, at_d1, at_l, at_agg, asL_vs, asI_i, asU_u, asB_b, bofZ, bof1, bof0, List.getD_cons_zero, List.getD_cons_succ, decide_eq_true_eq, decide_eq_false_iff_not, Bool.not_eq_true, Bool.not_eq_false, Bool.not_eq_true', Bool.not_eq_false', ne_eq, Decidable.not_not, Int.not_le, Int.not_lt, beq_iff_eq] at h_s))
    | (refine hF ?_; intro _; clear hF)
    | (refine hF ?_; cbv; clear hF)
    | (refine ⟨fun _ => ?_, ?_⟩; (· ((try simp only [nc] at *); first | done | omega | exact ⟨by omega, rfl⟩ | (simp (disch := (first | omega | (simp only [tab_len, List.length_append, List.length_map, List.length_range, List.length_replicate]; omega))) only [nc, nct, w64_of, Int.toNat_natCast, Int.toNat_zero, List.length_map, is_len, us_len, ps_len, is_get, us_get, ps_get, at_i, at_u, at_p0, at_p1, evs_len, ids_len, evss_len, idss_len, evs_get, ids_get, evss_get, idss_get, at_e0, at_e1, at_e2, at_e3, at_e4, at_d0, at_d1, at_l, at_agg, asL_vs, asI_i, asU_u, asB_b, bofZ, bof1, bof0, List.getD_cons_zero, List.getD_cons_succ]; first | done | omega | rfl | exact ⟨by omega, rfl⟩ | (simp; done) | (simp; omega)) | (intros; trivial))); (try (simp only [nc] at *)); (try simp (disch := (first | omega | (simp only [tab_len, List.length_append, List.length_map, List.length_range, List.length_replicate]; omega))) only [nc, nct, w64_of, Int.toNat_natCast, Int.toNat_zero, List.length_map, is_len, us_len, ps_len, is_get, us_get, ps_get, at_i, at_u, at_p0, at_p1, evs_len, ids_len, evss_len, idss_len, evs_get, ids_get, evss_get, idss_get, at_e0, at_e1, at_e2, at_e3, at_e4, at_d0, at_d1, at_l, at_agg, asL_vs, asI_i, asU_u, asB_b, bofZ, bof1, bof0, List.getD_cons_zero, List.getD_cons_succ]); (try cbv))
    | fail
  )
  refine E.loopS (ι := Nat) (fun k => k ≤ n) (fun k => n - k) (fun k => [(12, .i fun _ => ((k : Nat) : Int)), (5, .u fun _ => maskTo p k)]) (fun k h => h) 0 (fun _ => by first | rfl | simp) (Nat.zero_le _) ?_ fun k hk I hI => ?_
  · cbv; simp [h1, maskTo]
  cbv
  have hpk := hp k
  have hbk := bofInt (k := k) (by omega)
  repeat' (first
    | (refine hI (k + 1) ?_ ?_ ?_; rotate_left 1; (· ((try simp only [nc] at *); omega)); (cbv; clear hI; (try clear hF); (try simp only [nc] at *); (try simp (disch := (first | omega | (simp only [tab_len, List.length_append, List.length_map, List.length_range, List.length_replicate]; omega))) only [nc, nct, w64_of, Int.toNat_natCast, Int.toNat_zero, List.length_map, is_len, us_len, ps_len, is_get, us_get, ps_get, at_i, at_u, at_p0, at_p1, evs_len, ids_len, evss_len, idss_len, evs_get, ids_get, evss_get, idss_get, at_e0, at_e1, at_e2, at_e3, at_e4, at_d0, at_d1, at_l, at_agg, asL_vs, asI_i, asU_u, asB_b, bofZ, bof1, bof0, List.getD_cons_zero, List.getD_cons_succ, implies_true, and_true, true_and, forall_const])); rotate_left 1; (try ((try simp only [nc] at *); omega)))
    | (refine E.c (SCalls.of_le (hpk (by ((try simp only [nc] at *); omega))) ?_ ?_); (· (cbv; (try simp only [nc] at *); first | done | (simp; done) | (simp (disch := (first | omega | (simp only [tab_len, List.length_append, List.length_map, List.length_range, List.length_replicate]; omega))) only [nc, nct, w64_of, Int.toNat_natCast, Int.toNat_zero, List.length_map, is_len, us_len, ps_len, is_get, us_get, ps_get, at_i, at_u, at_p0, at_p1, evs_len, ids_len, evss_len, idss_len, evs_get, ids_get, evss_get, idss_get, at_e0, at_e1, at_e2, at_e3, at_e4, at_d0, at_d1, at_l, at_agg, asL_vs, asI_i, asU_u, asB_b, bofZ, bof1, bof0, List.getD_cons_zero, List.getD_cons_succ, implies_true, and_true, true_and, forall_const]; first | done | omega | (refine ⟨?_, ?_⟩ <;> omega)) | (simp (disch := (first | omega | (simp only [tab_len, List.length_append, List.length_map, List.length_range, List.length_replicate]; omega))) [nc, nct, w64_of, Int.toNat_natCast, Int.toNat_zero, List.length_map, is_len, us_len, ps_len, is_get, us_get, ps_get, at_i, at_u, at_p0, at_p1, evs_len, ids_len, evss_len, idss_len, evs_get, ids_get, evss_get, idss_get, at_e0, at_e1, at_e2, at_e3, at_e4, at_d0, at_d1, at_l, at_agg, asL_vs, asI_i, asU_u, asB_b, bofZ, bof1, bof0, List.getD_cons_zero, List.getD_cons_succ]; done))); cbv)
    | (refine ⟨fun _ h_s => ?_, fun _ h_s => ?_⟩ <;> (cbv; (try simp only [nc] at *); try simp (disch := (first | omega | (simp only [tab_len, List.length_append, List.length_map, List.length_range, List.length_replicate]; omega))) only [nc, nct, w64_of, Int.toNat_natCast, Int.toNat_zero, List.length_map, is_len, us_len, ps_len, is_get, us_get, ps_get, at_i, at_u, at_p0, at_p1, evs_len, ids_len, evss_len, idss_len, evs_get, ids_get, evss_get, idss_get, at_e0, at_e1, at_e2, at_e3, at_e4, at_d0, at_d1, at_l, at_agg, asL_vs, asI_i, asU_u, asB_b, bofZ, bof1, bof0, List.getD_cons_zero, List.getD_cons_succ, decide_eq_true_eq, decide_eq_false_iff_not, Bool.not_eq_true, Bool.not_eq_false, Bool.not_eq_true', Bool.not_eq_false', ne_eq, Decidable.not_not, Int.not_le, Int.not_lt, beq_iff_eq] at h_s))
    | (refine hF ?_; intro _; clear hF)
    | (refine hF ?_; cbv; clear hF)
    | (refine ⟨fun _ => ?_, ?_⟩; (· ((try simp only [nc] at *); first | done | omega | exact ⟨by omega, rfl⟩ | (simp (disch := (first | omega | (simp only [tab_len, List.length_append, List.length_map, List.length_range, List.length_replicate]; omega))) only [nc, nct, w64_of, Int.toNat_natCast, Int.toNat_zero, List.length_map, is_len, us_len, ps_len, is_get, us_get, ps_get, at_i, at_u, at_p0, at_p1, evs_len, ids_len, evss_len, idss_len, evs_get, ids_get, evss_get, idss_get, at_e0, at_e1, at_e2, at_e3, at_e4, at_d0, at_d1, at_l, at_agg, asL_vs, asI_i, asU_u, asB_b, bofZ, bof1, bof0, List.getD_cons_zero, List.getD_cons_succ]; first | done | omega | rfl | exact ⟨by omega, rfl⟩ | (simp; done) | (simp; omega)) | (intros; trivial))); (try (simp only [nc] at *)); (try simp (disch := (first | omega | (simp only [tab_len, List.length_append, List.length_map, List.length_range, List.length_replicate]; omega))) only [nc, nct, w64_of, Int.toNat_natCast, Int.toNat_zero, List.length_map, is_len, us_len, ps_len, is_get, us_get, ps_get, at_i, at_u, at_p0, at_p1, evs_len, ids_len, evss_len, idss_len, evs_get, ids_get, evss_get, idss_get, at_e0, at_e1, at_e2, at_e3, at_e4, at_d0, at_d1, at_l, at_agg, asL_vs, asI_i, asU_u, asB_b, bofZ, bof1, bof0, List.getD_cons_zero, List.getD_cons_succ]); (try cbv))
    | fail
  )
  all_goals (try simp only [nc] at *)
  all_goals (try simp (disch := (first | omega | (simp only [tab_len, List.length_append, List.length_map, List.length_range, List.length_replicate]; omega))) only [nc, nct, w64_of, Int.toNat_natCast, Int.toNat_zero, List.length_map, is_len, us_len, ps_len, is_get, us_get, ps_get, at_i, at_u, at_p0, at_p1, evs_len, ids_len, evss_len, idss_len, evs_get, ids_get, evss_get, idss_get, at_e0, at_e1, at_e2, at_e3, at_e4, at_d0, at_d1, at_l, at_agg, asL_vs, asI_i, asU_u, asB_b, bofZ, bof1, bof0, List.getD_cons_zero, List.getD_cons_succ])
  · refine ⟨?_, by omega⟩
    (try simp only [hbk])
    rw [maskTo, if_pos (by assumption)]
    (try rfl)
  · refine ⟨?_, by omega⟩
    rw [maskTo, if_neg (by simp_all)]
  · have e : k = n := by omega
    rw [e]
theorem dmask3_ok (V : Vw) {n : Nat} (hV : Wf V n) (f : Nat) (v u : Unit → AV) (p : Nat → Bool) (hp : ∀ k < n, Pure Try.prog γ false f [.i fun _ => (k : Int), .vp v 0, .vp u 0] (.b fun _ => p k)) :
    Pure Try.prog γ false 90 [pVw V, .fn f [] [.vp v 0, .vp u 0]] (.u fun _ => maskTo p n) := by
  have h1 := hV.ids
  have h2 := hV.small
  refine Pure.go (ty := ty) ty_eq mo Try.func90 rfl Try.ntmps90 Try.results90 Try.call90 (by simp) fun P C CQ D W F E hF => ?_
  cbv
  repeat' (first
    | (refine ⟨fun _ h_s => ?_, fun _ h_s => ?_⟩ <;> (cbv; (try simp only [nc] at *); try simp (disch := (first | omega | (simp only [tab_len, List.length_append, List.length_map, List.length_range, List.length_replicate]; omega))) only [nc, nct, w64_of, Int.toNat_natCast, Int.toNat_zero, List.length_map, is_len, us_len, ps_len, is_get, us_get, ps_get, at_i, at_u, at_p0, at_p1, evs_len, ids_len, evss_len, idss_len, evs_get, ids_get, evss_get, idss_get, at_e0, at_e1, at_e2, at_e3, at_e4, at_d0, at_d1, at_l, at_agg, asL_vs, asI_i, asU_u, asB_b, bofZ, bof1, bof0, List.getD_cons_zero, List.getD_cons_succ, decide_eq_true_eq, decide_eq_false_iff_not, Bool.not_eq_true, Bool.not_eq_false, Bool.not_eq_true', Bool.not_eq_false', ne_eq, Decidable.not_not, Int.not_le, Int.not_lt, beq_iff_eq] at h_s))
    | (refine hF ?_; intro _; clear hF)
    | (refine hF ?_; cbv; clear hF)
    | (refine ⟨fun _ => ?_, ?_⟩; (· ((try simp only [nc] at *); first | done | omega | exact ⟨by omega, rfl⟩ | (simp (disch := (first | omega | (simp only [tab_len, List.length_append, List.length_map, List.length_range, List.length_replicate]; omega))) only [nc, nct, w64_of, Int.toNat_natCast, Int.toNat_zero, List.length_map, is_len, us_len, ps_len, is_get, us_get, ps_get, at_i, at_u, at_p0, at_p1, evs_len, ids_len, evss_len, idss_len, evs_get, ids_get, evss_get, idss_get, at_e0, at_e1, at_e2, at_e3, at_e4, at_d0, at_d1, at_l, at_agg, asL_vs, asI_i, asU_u, asB_b, bofZ, bof1, bof0, List.getD_cons_zero, List.getD_cons_succ]; first | done | omega | rfl | exact ⟨by omega, rfl⟩ | (simp; done) | (simp; omega)) | (intros; trivial))); (try (simp only [nc] at *)); (try simp (disch := (first | omega | (simp only [tab_len, List.length_append, List.length_map, List.length_range, List.length_replicate]; omega))) only [nc, nct, w64_of, Int.toNat_natCast, Int.toNat_zero, List.length_map, is_len, us_len, ps_len, is_get, us_get, ps_get, at_i, at_u, at_p0, at_p1, evs_len, ids_len, evss_len, idss_len, evs_get, ids_get, evss_get, idss_get, at_e0, at_e1, at_e2, at_e3, at_e4, at_d0, at_d1, at_l, at_agg, asL_vs, asI_i, asU_u, asB_b, bofZ, bof1, bof0, List.getD_cons_zero, List.getD_cons_succ]); (try cbv))
    | fail
  )
  refine E.loopS (ι := Nat) (fun k => k ≤ n) (fun k => n - k) (fun k => [(12, .i fun _ => ((k : Nat) : Int)), (5, .u fun _ => maskTo p k)]) (fun k h => h) 0 (fun _ => by first | rfl | simp) (Nat.zero_le _) ?_ fun k hk I hI => ?_
  · cbv; simp [h1, maskTo]
  cbv
  have hpk := hp k
  have hbk := bofInt (k := k) (by omega)
  repeat' (first
    | (refine hI (k + 1) ?_ ?_ ?_; rotate_left 1; (· ((try simp only [nc] at *); omega)); (cbv; clear hI; (try clear hF); (try simp only [nc] at *); (try simp (disch := (first | omega | (simp only [tab_len, List.length_append, List.length_map, List.length_range, List.length_replicate]; omega))) only [nc, nct, w64_of, Int.toNat_natCast, Int.toNat_zero, List.length_map, is_len, us_len, ps_len, is_get, us_get, ps_get, at_i, at_u, at_p0, at_p1, evs_len, ids_len, evss_len, idss_len, evs_get, ids_get, evss_get, idss_get, at_e0, at_e1, at_e2, at_e3, at_e4, at_d0, at_d1, at_l, at_agg, asL_vs, asI_i, asU_u, asB_b, bofZ, bof1, bof0, List.getD_cons_zero, List.getD_cons_succ, implies_true, and_true, true_and, forall_const])); rotate_left 1; (try ((try simp only [nc] at *); omega)))
    | (refine E.c (SCalls.of_le (hpk (by ((try simp only [nc] at *); omega))) ?_ ?_); (· (cbv; (try simp only [nc] at *); first | done | (simp; done) | (simp (disch := (first | omega | (simp only [tab_len, List.length_append, List.length_map, List.length_range, List.length_replicate]; omega))) only [nc, nct, w64_of, Int.toNat_natCast, Int.toNat_zero, List.length_map, is_len, us_len, ps_len, is_get, us_get, ps_get, at_i, at_u, at_p0, at_p1, evs_len, ids_len, evss_len, idss_len, evs_get, ids_get, evss_get, idss_get, at_e0, at_e1, at_e2, at_e3, at_e4, at_d0, at_d1, at_l, at_agg, asL_vs, asI_i, asU_u, asB_b, bofZ, bof1, bof0, List.getD_cons_zero, List.getD_cons_succ, implies_true, and_true, true_and, forall_const]; first | done | omega | (refine ⟨?_, ?_⟩ <;> omega)) | (simp (disch := (first | omega | (simp only [tab_len, List.length_append, List.length_map, List.length_range, List.length_replicate]; omega))) [nc, nct, w64_of, Int.toNat_natCast, Int.toNat_zero, List.length_map, is_len, us_len, ps_len, is_get, us_get, ps_get, at_i, at_u, at_p0, at_p1, evs_len, ids_len, evss_len, idss_len, evs_get, ids_get, evss_get, idss_get, at_e0, at_e1, at_e2, at_e3, at_e4, at_d0, at_d1, at_l, at_agg, asL_vs, asI_i, asU_u, asB_b, bofZ, bof1, bof0, List.getD_cons_zero, List.getD_cons_succ]; done))); cbv)
    | (refine ⟨fun _ h_s => ?_, fun _ h_s => ?_⟩ <;> (cbv; (try simp only [nc] at *); try simp (disch := (first | omega | (simp only [tab_len, List.length_append, List.length_map, List.length_range, List.length_replicate]; omega))) only [nc, nct, w64_of, Int.toNat_natCast, Int.toNat_zero, List.length_map, is_len, us_len, ps_len, is_get, us_get, ps_get, at_i, at_u, at_p0, at_p1, evs_len, ids_len, evss_len, idss_len, evs_get, ids_get, evss_get, idss_get, at_e0, at_e1, at_e2, at_e3, at_e4, at_d0, at_d1, at_l, at_agg, asL_vs, asI_i, asU_u, asB_b, bofZ, bof1, bof0, List.getD_cons_zero, List.getD_cons_succ, decide_eq_true_eq, decide_eq_false_iff_not, Bool.not_eq_true, Bool.not_eq_false, Bool.not_eq_true', Bool.not_eq_false', ne_eq, Decidable.not_not, Int.not_le, Int.not_lt, beq_iff_eq] at h_s))
    | (refine hF ?_; intro _; clear hF)
    | (refine hF ?_; cbv; clear hF)
    | (refine ⟨fun _ => ?_, ?_⟩; (· ((try simp only [nc] at *); first | done | omega | exact ⟨by omega, rfl⟩ | (simp (disch := (first | omega | (simp only [tab_len, List.length_append, List.length_map, List.length_range, List.length_replicate]; omega))) only [nc, nct, w64_of, Int.toNat_natCast, Int.toNat_zero, List.length_map, is_len, us_len, ps_len, is_get, us_get, ps_get, at_i, at_u, at_p0, at_p1, evs_len, ids_len, evss_len, idss_len, evs_get, ids_get, evss_get, idss_get, at_e0, at_e1, at_e2, at_e3, at_e4, at_d0, at_d1, at_l, at_agg, asL_vs, asI_i, asU_u, asB_b, bofZ, bof1, bof0, List.getD_cons_zero, List.getD_cons_succ]; first | done | omega | rfl | exact ⟨by omega, rfl⟩ | (simp; done) | (simp; omega)) | (intros; trivial))); (try (simp only [nc] at *)); (try simp (disch := (first | omega | (simp only [tab_len, List.length_append, List.length_map, List.length_range, List.length_replicate]; omega))) only [nc, nct, w64_of, Int.toNat_natCast, Int.toNat_zero, List.length_map, is_len, us_len, ps_len, is_get, us_get, ps_get, at_i, at_u, at_p0, at_p1, evs_len, ids_len, evss_len, idss_len, evs_get, ids_get, evss_get, idss_get, at_e0, at_e1, at_e2, at_e3, at_e4, at_d0, at_d1, at_l, at_agg, asL_vs, asI_i, asU_u, asB_b, bofZ, bof1, bof0, List.getD_cons_zero, List.getD_cons_succ]); (try cbv))
    | fail
  )
  all_goals (try simp only [nc] at *)
  all_goals (try simp (disch := (first | omega | (simp only [tab_len, List.length_append, List.length_map, List.length_range, List.length_replicate]; omega))) only [nc, nct, w64_of, Int.toNat_natCast, Int.toNat_zero, List.length_map, is_len, us_len, ps_len, is_get, us_get, ps_get, at_i, at_u, at_p0, at_p1, evs_len, ids_len, evss_len, idss_len, evs_get, ids_get, evss_get, idss_get, at_e0, at_e1, at_e2, at_e3, at_e4, at_d0, at_d1, at_l, at_agg, asL_vs, asI_i, asU_u, asB_b, bofZ, bof1, bof0, List.getD_cons_zero, List.getD_cons_succ])
  · refine ⟨?_, by omega⟩
    (try simp only [hbk])
    rw [maskTo, if_pos (by assumption)]
    (try rfl)
  · refine ⟨?_, by omega⟩
    rw [maskTo, if_neg (by simp_all)]
  · have e : k = n := by omega
    rw [e]

theorem rowsEq {n : Nat} {a b : List (BitVec 64)} (ha : a.length = n) (hb : b.length = n) (h : ∀ i j, bit a i j = bit b i j) : a = b := by
  apply List.ext_getElem (by omega)
  intro i h1 h2
  apply BitVec.eq_of_getLsbD_eq
  intro j hj
  have := h i j
  unfold bit at this
  simpa [h1, h2] using this
def relRows (n : Nat) (p : Nat → Nat → Bool) : List (BitVec 64) := tab n fun i => maskTo (p i) n
theorem relRows_len (n : Nat) (p : Nat → Nat → Bool) : (relRows n p).length = n := by simp [relRows]
theorem bit_rel {n : Nat} (hn : n ≤ 64) (p : Nat → Nat → Bool) (i j : Nat) : bit (relRows n p) i j = (decide (i < n) && (decide (j < n) && p i j)) := by
  by_cases hi : i < n
  · unfold bit relRows
    rw [tab_get n _ i hi, mask_bit _ _ hn]; simp [hi]
  · rw [bit_out (by rw [relRows_len]; omega)]; simp [hi]
theorem fits_rel {n : Nat} (hn : n ≤ 64) (p : Nat → Nat → Bool) : Fits n (relRows n p) := fits_mk hn (relRows_len n p) fun i j h => by
  rw [bit_rel hn] at h; simp at h; exact h.2.1
/-- the pairs, one row behind the other -/
def prE (p : Nat → Nat → Bool) (a b : Nat) : List (Int × Int) := (List.range b).flatMap fun j => if p a j = true then [((a : Int), (j : Int))] else []
def prA (p : Nat → Nat → Bool) (n a : Nat) : List (Int × Int) := (List.range a).flatMap fun i => prE p i n
theorem prE_succ (p : Nat → Nat → Bool) (a b : Nat) : prE p a (b + 1) = prE p a b ++ if p a b = true then [((a : Int), (b : Int))] else [] := by
  unfold prE; rw [List.range_succ, List.flatMap_append]; simp
theorem prA_succ (p : Nat → Nat → Bool) (n a : Nat) : prA p n (a + 1) = prA p n a ++ prE p a n := by
  unfold prA; rw [List.range_succ, List.flatMap_append]; simp
theorem prE_len (p : Nat → Nat → Bool) (a : Nat) : ∀ b, (prE p a b).length ≤ b
  | 0 => by simp [prE]
  | b + 1 => by rw [prE_succ, List.length_append]; have := prE_len p a b; split <;> simp <;> omega
theorem prA_len (p : Nat → Nat → Bool) (n : Nat) : ∀ a, (prA p n a).length ≤ a * n
  | 0 => by simp [prA]
  | a + 1 => by rw [prA_succ, List.length_append, Nat.add_mul]; have := prA_len p n a; have := prE_len p a n; omega
theorem prA_mem (p : Nat → Nat → Bool) (n a : Nat) (q : Int × Int) : q ∈ prA p n a ↔ ∃ i < a, ∃ j < n, p i j = true ∧ q = ((i : Int), (j : Int)) := by
  unfold prA prE
  simp only [List.mem_flatMap, List.mem_range]
  constructor
  · rintro ⟨i, hi, j, hj, h⟩
    split at h
    · exact ⟨i, hi, j, hj, by assumption, by simpa using h⟩
    · cases h
  · rintro ⟨i, hi, j, hj, h1, h2⟩
    exact ⟨i, hi, j, hj, by rw [if_pos h1]; simp [h2]⟩
theorem bit_ofStep (n : Nat) (acc : List (BitVec 64)) (hl : acc.length = n) (hn : n ≤ 64) (a b : Nat) (ha : a < n) (hb : b < n) (i j : Nat) : bit (ofStep n acc ((a : Int), (b : Int))) i j = (bit acc i j || (decide (i = a) && decide (j = b))) := by
  unfold ofStep
  rw [if_pos (by simp only; omega)]
  simp only [Int.toNat_natCast]
  unfold bit
  by_cases h : i = a
  · subst h
    rw [getD_set_self _ _ _ (by omega), BitVec.getLsbD_or, BitVec.getLsbD_shiftLeft, BitVec.getLsbD_one]
    by_cases h2 : j = b
    · subst h2; simp; right; omega
    · simp [h2]; omega
  · rw [getD_set_ne' _ _ _ _ (by omega)]; simp [h]
theorem bit_ofTo (n : Nat) (hn : n ≤ 64) (l : List (Int × Int)) (hl : ∀ q ∈ l, ∃ a < n, ∃ b < n, q = (((a : Nat) : Int), ((b : Nat) : Int))) (i j : Nat) : ∀ k, k ≤ l.length → bit (ofTo n l k) i j = decide (((i : Int), (j : Int)) ∈ l.take k)
  | 0, _ => by
    simp only [ofTo, List.take_zero, List.foldl_nil, List.not_mem_nil, decide_false]
    exact bit_zero _ _ _
  | k + 1, hk => by
    have ih := bit_ofTo n hn l hl i j k (by omega)
    obtain ⟨a, ha, b, hb, he⟩ := hl _ (getD_mem (d := (0, 0)) (show k < l.length by omega))
    rw [ofTo_succ n l k (by omega), he, bit_ofStep n _ (by rw [ofTo_len]; simp) hn a b ha hb, ih, take_succ' l k (0, 0) (by omega), he]
    simp only [List.mem_append, List.mem_singleton, Prod.mk.injEq, Int.ofNat_inj, Bool.decide_or, Bool.decide_and]
theorem ofTo_rel (n : Nat) (hn : n ≤ 64) (p : Nat → Nat → Bool) : ofTo n (prA p n n) (prA p n n).length = relRows n p := by
  refine rowsEq (n := n) (by rw [ofTo_len]; simp) (relRows_len n p) fun i j => ?_
  rw [bit_ofTo n hn _ (fun q hq => by
    obtain ⟨a, ha, b, hb, _, he⟩ := (prA_mem p n n q).1 hq
    exact ⟨a, ha, b, hb, he⟩) i j _ (Nat.le_refl _), List.take_length, bit_rel hn, Bool.eq_iff_iff, decide_eq_true_iff, prA_mem]
  simp only [Bool.and_eq_true, decide_eq_true_eq, Prod.mk.injEq, Int.ofNat_inj]
  constructor
  · rintro ⟨a, ha, b, hb, h1, h2, h3⟩; subst h2; subst h3; exact ⟨ha, hb, h1⟩
  · rintro ⟨ha, hb, h1⟩; exact ⟨i, ha, j, hb, h1, rfl, rfl⟩
theorem drel1_ok (V : Vw) {n : Nat} (hV : Wf V n) (f : Nat) (v : Unit → AV) (p : Nat → Nat → Bool) (hp : ∀ a < n, ∀ b < n, Pure Try.prog γ false f [.vp v 0, .i fun _ => (a : Int), .i fun _ => (b : Int)] (.b fun _ => p a b)) :
    Pure Try.prog γ false 75 [pVw V, .fn f [.vp v 0] []] (encRel n (relRows n p)) := by
  have h1 := hV.ids
  have h2 := hV.small
  obtain ⟨G, hG⟩ : ∃ G : Nat → Nat → Nat, ∀ a b, G a b = (prA p n a ++ prE p a b).length := ⟨_, fun _ _ => rfl⟩
  have hG0 : G 0 0 = 0 := by rw [hG]; rfl
  have hof := of_in (γ := γ) (n : Int) (prA p n n) (by omega) (by omega) (by have := prA_len p n n; have : n * n ≤ 62 * 62 := Nat.mul_le_mul h2 h2; omega)
  rw [ofTo_rel n (by omega) p] at hof
  refine Pure.goL (ty := ty) ty_eq mo Try.func75 rfl Try.ntmps75 Try.results75 Try.call75 (by simp) fun P C CQ D W F E hF => ?_
  refine E.cut 4 (told 43 [(0, pVw V), (4, .ptr 0 0), (5, .vs 2 fun _ => ps (prA p n n))] [.box (.agg [.lit 0, .nils])]) (by kernel_rfl) (Nat.zero_le _) (fun I hI => ?_) (E.bl ?_)
  · cbv
    repeat' (first
      | (refine ⟨fun _ h_s => ?_, fun _ h_s => ?_⟩ <;> (cbv; (try simp only [nc] at *); try simp (disch := (first | omega | (simp only [tab_len, List.length_append, List.length_map, List.length_range, List.length_replicate]; omega))) only [nc, nct, w64_of, Int.toNat_natCast, Int.toNat_zero, List.length_map, is_len, us_len, ps_len, is_get, us_get, ps_get, at_i, at_u, at_p0, at_p1, evs_len, ids_len, evss_len, idss_len, evs_get, ids_get, evss_get, idss_get, at_e0, at_e1, at_e2, at_e3, at_e4, at_d0, at_d1, at_l, at_agg, asL_vs, asI_i, asU_u, asB_b, bofZ, bof1, bof0, List.getD_cons_zero, List.getD_cons_succ, decide_eq_true_eq, decide_eq_false_iff_not, Bool.not_eq_true, Bool.not_eq_false, Bool.not_eq_true', Bool.not_eq_false', ne_eq, Decidable.not_not, Int.not_le, Int.not_lt, beq_iff_eq] at h_s))
      | (refine hF ?_; intro _; clear hF)
      | (refine hF ?_; cbv; clear hF)
      | (refine ⟨fun _ => ?_, ?_⟩; (· ((try simp only [nc] at *); first | done | omega | exact ⟨by omega, rfl⟩ | (simp (disch := (first | omega | (simp only [tab_len, List.length_append, List.length_map, List.length_range, List.length_replicate]; omega))) only [nc, nct, w64_of, Int.toNat_natCast, Int.toNat_zero, List.length_map, is_len, us_len, ps_len, is_get, us_get, ps_get, at_i, at_u, at_p0, at_p1, evs_len, ids_len, evss_len, idss_len, evs_get, ids_get, evss_get, idss_get, at_e0, at_e1, at_e2, at_e3, at_e4, at_d0, at_d1, at_l, at_agg, asL_vs, asI_i, asU_u, asB_b, bofZ, bof1, bof0, List.getD_cons_zero, List.getD_cons_succ]; first | done | omega | rfl | exact ⟨by omega, rfl⟩ | (simp; done) | (simp; omega)) | (intros; trivial))); (try (simp only [nc] at *)); (try simp (disch := (first | omega | (simp only [tab_len, List.length_append, List.length_map, List.length_range, List.length_replicate]; omega))) only [nc, nct, w64_of, Int.toNat_natCast, Int.toNat_zero, List.length_map, is_len, us_len, ps_len, is_get, us_get, ps_get, at_i, at_u, at_p0, at_p1, evs_len, ids_len, evss_len, idss_len, evs_get, ids_get, evss_get, idss_get, at_e0, at_e1, at_e2, at_e3, at_e4, at_d0, at_d1, at_l, at_agg, asL_vs, asI_i, asU_u, asB_b, bofZ, bof1, bof0, List.getD_cons_zero, List.getD_cons_succ]); (try cbv))
      | fail
    )
    refine E.w (AWP.ghostSlot 5 2 rfl (by omega) (E.loopSA (ι := Nat) (fun a => a ≤ n) (fun a => n - a) (fun a => [(13, .i fun _ => ((a : Nat) : Int)), (5, .sl 1 (G a 0) 2 (fun _ => 0) fun _ => (prA p n a).length)]) (fun a h => h.set 1 (.run (G a 0) 2 fun _ => ps (prA p n a))) 0 (fun _ => by first | rfl | simp) (Nat.zero_le _) ?_ fun a ha I hI' => ?_))
    · cbv; simp [h1, prA, hG0, ps, LV.of]
    cbv
    have hla := prA_len p n a
    have hsa := prA_succ p n a
    have hma : a * n ≤ 62 * 62 := Nat.mul_le_mul (by omega) h2
    skip
    repeat' (first
      | (refine ⟨fun _ h_s => ?_, fun _ h_s => ?_⟩ <;> (cbv; (try simp only [nc] at *); try simp (disch := (first | omega | (simp only [tab_len, List.length_append, List.length_map, List.length_range, List.length_replicate]; omega))) only [nc, nct, w64_of, Int.toNat_natCast, Int.toNat_zero, List.length_map, is_len, us_len, ps_len, is_get, us_get, ps_get, at_i, at_u, at_p0, at_p1, evs_len, ids_len, evss_len, idss_len, evs_get, ids_get, evss_get, idss_get, at_e0, at_e1, at_e2, at_e3, at_e4, at_d0, at_d1, at_l, at_agg, asL_vs, asI_i, asU_u, asB_b, bofZ, bof1, bof0, List.getD_cons_zero, List.getD_cons_succ, decide_eq_true_eq, decide_eq_false_iff_not, Bool.not_eq_true, Bool.not_eq_false, Bool.not_eq_true', Bool.not_eq_false', ne_eq, Decidable.not_not, Int.not_le, Int.not_lt, beq_iff_eq] at h_s))
      | (refine hF ?_; intro _; clear hF)
      | (refine hF ?_; cbv; clear hF)
      | (refine ⟨fun _ => ?_, ?_⟩; (· ((try simp only [nc] at *); first | done | omega | exact ⟨by omega, rfl⟩ | (simp (disch := (first | omega | (simp only [tab_len, List.length_append, List.length_map, List.length_range, List.length_replicate]; omega))) only [nc, nct, w64_of, Int.toNat_natCast, Int.toNat_zero, List.length_map, is_len, us_len, ps_len, is_get, us_get, ps_get, at_i, at_u, at_p0, at_p1, evs_len, ids_len, evss_len, idss_len, evs_get, ids_get, evss_get, idss_get, at_e0, at_e1, at_e2, at_e3, at_e4, at_d0, at_d1, at_l, at_agg, asL_vs, asI_i, asU_u, asB_b, bofZ, bof1, bof0, List.getD_cons_zero, List.getD_cons_succ]; first | done | omega | rfl | exact ⟨by omega, rfl⟩ | (simp; done) | (simp; omega)) | (intros; trivial) | exact ⟨by first | trivial | rfl, by first | trivial | rfl | simp, by first | trivial | simp, by simp; omega, by simp; omega, by simp [AV.flat, AV.cells, AV.one]⟩)); (try (simp only [nc] at *)); (try simp (disch := (first | omega | (simp only [tab_len, List.length_append, List.length_map, List.length_range, List.length_replicate]; omega))) only [nc, nct, w64_of, Int.toNat_natCast, Int.toNat_zero, List.length_map, is_len, us_len, ps_len, is_get, us_get, ps_get, at_i, at_u, at_p0, at_p1, evs_len, ids_len, evss_len, idss_len, evs_get, ids_get, evss_get, idss_get, at_e0, at_e1, at_e2, at_e3, at_e4, at_d0, at_d1, at_l, at_agg, asL_vs, asI_i, asU_u, asB_b, bofZ, bof1, bof0, List.getD_cons_zero, List.getD_cons_succ]); (try cbv))
      | fail
    )
    · refine E.loopS (ι := Nat) (fun b => b ≤ n) (fun b => n - b) (fun b => [(21, .i fun _ => ((b : Nat) : Int)), (5, .sl 1 (G a b) 2 (fun _ => 0) fun _ => (prA p n a ++ prE p a b).length)]) (fun b h => h.set 1 (.run (G a b) 2 fun _ => ps (prA p n a ++ prE p a b))) 0 (fun _ => by first | rfl | simp) (Nat.zero_le _) ?_ fun b hb I2 hI2 => ?_
      · cbv; simp [h1, prE]
      cbv
      have hpk := hp a
      have hlb := prE_len p a b
      have hsb := prE_succ p a b
      repeat' (first
        | (refine hI' (a + 1) ?_ ?_ ?_; rotate_left 1; (· ((try simp only [nc] at *); omega)); (cbv; clear hI'; (try clear hF); (try simp only [nc] at *); (try simp (disch := (first | omega | (simp only [tab_len, List.length_append, List.length_map, List.length_range, List.length_replicate]; omega))) only [nc, nct, w64_of, Int.toNat_natCast, Int.toNat_zero, List.length_map, is_len, us_len, ps_len, is_get, us_get, ps_get, at_i, at_u, at_p0, at_p1, evs_len, ids_len, evss_len, idss_len, evs_get, ids_get, evss_get, idss_get, at_e0, at_e1, at_e2, at_e3, at_e4, at_d0, at_d1, at_l, at_agg, asL_vs, asI_i, asU_u, asB_b, bofZ, bof1, bof0, List.getD_cons_zero, List.getD_cons_succ, implies_true, and_true, true_and, forall_const])); rotate_left 1; (try ((try simp only [nc] at *); omega)))
        | (refine hI2 (b + 1) ?_ ?_ ?_; rotate_left 1; (· ((try simp only [nc] at *); omega)); (cbv; clear hI2; (try clear hF); (try simp only [nc] at *); (try simp (disch := (first | omega | (simp only [tab_len, List.length_append, List.length_map, List.length_range, List.length_replicate]; omega))) only [nc, nct, w64_of, Int.toNat_natCast, Int.toNat_zero, List.length_map, is_len, us_len, ps_len, is_get, us_get, ps_get, at_i, at_u, at_p0, at_p1, evs_len, ids_len, evss_len, idss_len, evs_get, ids_get, evss_get, idss_get, at_e0, at_e1, at_e2, at_e3, at_e4, at_d0, at_d1, at_l, at_agg, asL_vs, asI_i, asU_u, asB_b, bofZ, bof1, bof0, List.getD_cons_zero, List.getD_cons_succ, implies_true, and_true, true_and, forall_const])); rotate_left 1; (try ((try simp only [nc] at *); omega)))
        | (refine E.c (SCalls.of_le (hpk (by ((try simp only [nc] at *); omega)) b (by ((try simp only [nc] at *); omega))) ?_ ?_); (· (cbv; (try simp only [nc] at *); first | done | (simp; done) | (simp (disch := (first | omega | (simp only [tab_len, List.length_append, List.length_map, List.length_range, List.length_replicate]; omega))) only [nc, nct, w64_of, Int.toNat_natCast, Int.toNat_zero, List.length_map, is_len, us_len, ps_len, is_get, us_get, ps_get, at_i, at_u, at_p0, at_p1, evs_len, ids_len, evss_len, idss_len, evs_get, ids_get, evss_get, idss_get, at_e0, at_e1, at_e2, at_e3, at_e4, at_d0, at_d1, at_l, at_agg, asL_vs, asI_i, asU_u, asB_b, bofZ, bof1, bof0, List.getD_cons_zero, List.getD_cons_succ, implies_true, and_true, true_and, forall_const]; first | done | omega | (refine ⟨?_, ?_⟩ <;> omega)) | (simp (disch := (first | omega | (simp only [tab_len, List.length_append, List.length_map, List.length_range, List.length_replicate]; omega))) [nc, nct, w64_of, Int.toNat_natCast, Int.toNat_zero, List.length_map, is_len, us_len, ps_len, is_get, us_get, ps_get, at_i, at_u, at_p0, at_p1, evs_len, ids_len, evss_len, idss_len, evs_get, ids_get, evss_get, idss_get, at_e0, at_e1, at_e2, at_e3, at_e4, at_d0, at_d1, at_l, at_agg, asL_vs, asI_i, asU_u, asB_b, bofZ, bof1, bof0, List.getD_cons_zero, List.getD_cons_succ]; done))); cbv)
        | (refine ⟨fun _ h_s => ?_, fun _ h_s => ?_⟩ <;> (cbv; (try simp only [nc] at *); try simp (disch := (first | omega | (simp only [tab_len, List.length_append, List.length_map, List.length_range, List.length_replicate]; omega))) only [nc, nct, w64_of, Int.toNat_natCast, Int.toNat_zero, List.length_map, is_len, us_len, ps_len, is_get, us_get, ps_get, at_i, at_u, at_p0, at_p1, evs_len, ids_len, evss_len, idss_len, evs_get, ids_get, evss_get, idss_get, at_e0, at_e1, at_e2, at_e3, at_e4, at_d0, at_d1, at_l, at_agg, asL_vs, asI_i, asU_u, asB_b, bofZ, bof1, bof0, List.getD_cons_zero, List.getD_cons_succ, decide_eq_true_eq, decide_eq_false_iff_not, Bool.not_eq_true, Bool.not_eq_false, Bool.not_eq_true', Bool.not_eq_false', ne_eq, Decidable.not_not, Int.not_le, Int.not_lt, beq_iff_eq] at h_s))
        | (refine hF ?_; intro _; clear hF)
        | (refine hF ?_; cbv; clear hF)
        | (refine ⟨fun _ => ?_, ?_⟩; (· ((try simp only [nc] at *); first | done | omega | exact ⟨by omega, rfl⟩ | (simp (disch := (first | omega | (simp only [tab_len, List.length_append, List.length_map, List.length_range, List.length_replicate]; omega))) only [nc, nct, w64_of, Int.toNat_natCast, Int.toNat_zero, List.length_map, is_len, us_len, ps_len, is_get, us_get, ps_get, at_i, at_u, at_p0, at_p1, evs_len, ids_len, evss_len, idss_len, evs_get, ids_get, evss_get, idss_get, at_e0, at_e1, at_e2, at_e3, at_e4, at_d0, at_d1, at_l, at_agg, asL_vs, asI_i, asU_u, asB_b, bofZ, bof1, bof0, List.getD_cons_zero, List.getD_cons_succ]; first | done | omega | rfl | exact ⟨by omega, rfl⟩ | (simp; done) | (simp; omega)) | (intros; trivial) | exact ⟨by first | trivial | rfl, by first | trivial | rfl | simp, by first | trivial | simp, by simp; omega, by simp; omega, by simp [AV.flat, AV.cells, AV.one]⟩)); (try (simp only [nc] at *)); (try simp (disch := (first | omega | (simp only [tab_len, List.length_append, List.length_map, List.length_range, List.length_replicate]; omega))) only [nc, nct, w64_of, Int.toNat_natCast, Int.toNat_zero, List.length_map, is_len, us_len, ps_len, is_get, us_get, ps_get, at_i, at_u, at_p0, at_p1, evs_len, ids_len, evss_len, idss_len, evs_get, ids_get, evss_get, idss_get, at_e0, at_e1, at_e2, at_e3, at_e4, at_d0, at_d1, at_l, at_agg, asL_vs, asI_i, asU_u, asB_b, bofZ, bof1, bof0, List.getD_cons_zero, List.getD_cons_succ]); (try cbv))
        | fail
      )
      all_goals (try simp only [nc] at *)
      all_goals (try simp (disch := (first | omega | (simp only [tab_len, List.length_append, List.length_map, List.length_range, List.length_replicate]; omega))) only [nc, nct, w64_of, Int.toNat_natCast, Int.toNat_zero, List.length_map, is_len, us_len, ps_len, is_get, us_get, ps_get, at_i, at_u, at_p0, at_p1, evs_len, ids_len, evss_len, idss_len, evs_get, ids_get, evss_get, idss_get, at_e0, at_e1, at_e2, at_e3, at_e4, at_d0, at_d1, at_l, at_agg, asL_vs, asI_i, asU_u, asB_b, bofZ, bof1, bof0, List.getD_cons_zero, List.getD_cons_succ])
      · rw [if_pos (by assumption)] at hsb
        simp [hG, hsb, ps]
        omega
      · rw [if_neg (by simp_all)] at hsb
        simp [hG, hsb]
      · have e : b = n := by omega
        subst e
        have e0 : prE p (a + 1) 0 = [] := rfl
        simp only [hG, hsa, e0, List.append_nil]
        simp
    · refine hI ?_
      cbv
      clear hI hI' hF
      have e : a = n := by ((try simp only [nc] at *); omega)
      subst e
      (try simp only [nc] at *)
      (try simp (disch := (first | omega | (simp only [tab_len, List.length_append, List.length_map, List.length_range, List.length_replicate]; omega))) only [nc, nct, w64_of, Int.toNat_natCast, Int.toNat_zero, List.length_map, is_len, us_len, ps_len, is_get, us_get, ps_get, at_i, at_u, at_p0, at_p1, evs_len, ids_len, evss_len, idss_len, evs_get, ids_get, evss_get, idss_get, at_e0, at_e1, at_e2, at_e3, at_e4, at_d0, at_d1, at_l, at_agg, asL_vs, asI_i, asU_u, asB_b, bofZ, bof1, bof0, List.getD_cons_zero, List.getD_cons_succ, implies_true, and_true, true_and, forall_const])
      refine ⟨by omega, ?_⟩
      rw [List.drop_zero, List.take_of_length_le (by simp)]
  · cbv
    repeat' (first
      | (refine E.c (SCalls.of_le (hof) ?_ ?_); (· (cbv; (try simp only [nc] at *); first | done | (simp; done) | (simp (disch := (first | omega | (simp only [tab_len, List.length_append, List.length_map, List.length_range, List.length_replicate]; omega))) only [nc, nct, w64_of, Int.toNat_natCast, Int.toNat_zero, List.length_map, is_len, us_len, ps_len, is_get, us_get, ps_get, at_i, at_u, at_p0, at_p1, evs_len, ids_len, evss_len, idss_len, evs_get, ids_get, evss_get, idss_get, at_e0, at_e1, at_e2, at_e3, at_e4, at_d0, at_d1, at_l, at_agg, asL_vs, asI_i, asU_u, asB_b, bofZ, bof1, bof0, List.getD_cons_zero, List.getD_cons_succ, implies_true, and_true, true_and, forall_const]; first | done | omega | (refine ⟨?_, ?_⟩ <;> omega)) | (simp (disch := (first | omega | (simp only [tab_len, List.length_append, List.length_map, List.length_range, List.length_replicate]; omega))) [nc, nct, w64_of, Int.toNat_natCast, Int.toNat_zero, List.length_map, is_len, us_len, ps_len, is_get, us_get, ps_get, at_i, at_u, at_p0, at_p1, evs_len, ids_len, evss_len, idss_len, evs_get, ids_get, evss_get, idss_get, at_e0, at_e1, at_e2, at_e3, at_e4, at_d0, at_d1, at_l, at_agg, asL_vs, asI_i, asU_u, asB_b, bofZ, bof1, bof0, List.getD_cons_zero, List.getD_cons_succ]; done))); cbv)
      | (refine ⟨fun _ h_s => ?_, fun _ h_s => ?_⟩ <;> (cbv; (try simp only [nc] at *); try simp (disch := (first | omega | (simp only [tab_len, List.length_append, List.length_map, List.length_range, List.length_replicate]; omega))) only [nc, nct, w64_of, Int.toNat_natCast, Int.toNat_zero, List.length_map, is_len, us_len, ps_len, is_get, us_get, ps_get, at_i, at_u, at_p0, at_p1, evs_len, ids_len, evss_len, idss_len, evs_get, ids_get, evss_get, idss_get, at_e0, at_e1, at_e2, at_e3, at_e4, at_d0, at_d1, at_l, at_agg, asL_vs, asI_i, asU_u, asB_b, bofZ, bof1, bof0, List.getD_cons_zero, List.getD_cons_succ, decide_eq_true_eq, decide_eq_false_iff_not, Bool.not_eq_true, Bool.not_eq_false, Bool.not_eq_true', Bool.not_eq_false', ne_eq, Decidable.not_not, Int.not_le, Int.not_lt, beq_iff_eq] at h_s))
      | (refine hF ?_; intro _; clear hF)
      | (refine hF ?_; cbv; clear hF)
      | (refine ⟨fun _ => ?_, ?_⟩; (· ((try simp only [nc] at *); first | done | omega | exact ⟨by omega, rfl⟩ | (simp (disch := (first | omega | (simp only [tab_len, List.length_append, List.length_map, List.length_range, List.length_replicate]; omega))) only [nc, nct, w64_of, Int.toNat_natCast, Int.toNat_zero, List.length_map, is_len, us_len, ps_len, is_get, us_get, ps_get, at_i, at_u, at_p0, at_p1, evs_len, ids_len, evss_len, idss_len, evs_get, ids_get, evss_get, idss_get, at_e0, at_e1, at_e2, at_e3, at_e4, at_d0, at_d1, at_l, at_agg, asL_vs, asI_i, asU_u, asB_b, bofZ, bof1, bof0, List.getD_cons_zero, List.getD_cons_succ]; first | done | omega | rfl | exact ⟨by omega, rfl⟩ | (simp; done) | (simp; omega)) | (intros; trivial) | exact ⟨by first | trivial | rfl, by first | trivial | rfl | simp, by first | trivial | simp, by simp; omega, by simp; omega, by simp [AV.flat, AV.cells, AV.one]⟩)); (try (simp only [nc] at *)); (try simp (disch := (first | omega | (simp only [tab_len, List.length_append, List.length_map, List.length_range, List.length_replicate]; omega))) only [nc, nct, w64_of, Int.toNat_natCast, Int.toNat_zero, List.length_map, is_len, us_len, ps_len, is_get, us_get, ps_get, at_i, at_u, at_p0, at_p1, evs_len, ids_len, evss_len, idss_len, evs_get, ids_get, evss_get, idss_get, at_e0, at_e1, at_e2, at_e3, at_e4, at_d0, at_d1, at_l, at_agg, asL_vs, asI_i, asU_u, asB_b, bofZ, bof1, bof0, List.getD_cons_zero, List.getD_cons_succ]); (try cbv))
      | fail
    )
    all_goals (try simp only [nc] at *)
    all_goals (try simp (disch := (first | omega | (simp only [tab_len, List.length_append, List.length_map, List.length_range, List.length_replicate]; omega))) only [nc, nct, w64_of, Int.toNat_natCast, Int.toNat_zero, List.length_map, is_len, us_len, ps_len, is_get, us_get, ps_get, at_i, at_u, at_p0, at_p1, evs_len, ids_len, evss_len, idss_len, evs_get, ids_get, evss_get, idss_get, at_e0, at_e1, at_e2, at_e3, at_e4, at_d0, at_d1, at_l, at_agg, asL_vs, asI_i, asU_u, asB_b, bofZ, bof1, bof0, List.getD_cons_zero, List.getD_cons_succ])
theorem drel2_ok (V : Vw) {n : Nat} (hV : Wf V n) (f : Nat) (v : Unit → AV) (p : Nat → Nat → Bool) (hp : ∀ a < n, ∀ b < n, Pure Try.prog γ false f [.i fun _ => (a : Int), .i fun _ => (b : Int), .vp v 0] (.b fun _ => p a b)) :
    Pure Try.prog γ false 75 [pVw V, .fn f [] [.vp v 0]] (encRel n (relRows n p)) := by
  have h1 := hV.ids
  have h2 := hV.small
  obtain ⟨G, hG⟩ : ∃ G : Nat → Nat → Nat, ∀ a b, G a b = (prA p n a ++ prE p a b).length := ⟨_, fun _ _ => rfl⟩
  have hG0 : G 0 0 = 0 := by rw [hG]; rfl
  have hof := of_in (γ := γ) (n : Int) (prA p n n) (by omega) (by omega) (by have := prA_len p n n; have : n * n ≤ 62 * 62 := Nat.mul_le_mul h2 h2; omega)
  rw [ofTo_rel n (by omega) p] at hof
  refine Pure.goL (ty := ty) ty_eq mo Try.func75 rfl Try.ntmps75 Try.results75 Try.call75 (by simp) fun P C CQ D W F E hF => ?_
  refine E.cut 4 (told 43 [(0, pVw V), (4, .ptr 0 0), (5, .vs 2 fun _ => ps (prA p n n))] [.box (.agg [.lit 0, .nils])]) (by kernel_rfl) (Nat.zero_le _) (fun I hI => ?_) (E.bl ?_)
  · cbv
    repeat' (first
      | (refine ⟨fun _ h_s => ?_, fun _ h_s => ?_⟩ <;> (cbv; (try simp only [nc] at *); try simp (disch := (first | omega | (simp only [tab_len, List.length_append, List.length_map, List.length_range, List.length_replicate]; omega))) only [nc, nct, w64_of, Int.toNat_natCast, Int.toNat_zero, List.length_map, is_len, us_len, ps_len, is_get, us_get, ps_get, at_i, at_u, at_p0, at_p1, evs_len, ids_len, evss_len, idss_len, evs_get, ids_get, evss_get, idss_get, at_e0, at_e1, at_e2, at_e3, at_e4, at_d0, at_d1, at_l, at_agg, asL_vs, asI_i, asU_u, asB_b, bofZ, bof1, bof0, List.getD_cons_zero, List.getD_cons_succ, decide_eq_true_eq, decide_eq_false_iff_not, Bool.not_eq_true, Bool.not_eq_false, Bool.not_eq_true', Bool.not_eq_false', ne_eq, Decidable.not_not, Int.not_le, Int.not_lt, beq_iff_eq] at h_s))
      | (refine hF ?_; intro _; clear hF)
      | (refine hF ?_; cbv; clear hF)
      | (refine ⟨fun _ => ?_, ?_⟩; (· ((try simp only [nc] at *); first | done | omega | exact ⟨by omega, rfl⟩ | (simp (disch := (first | omega | (simp only [tab_len, List.length_append, List.length_map, List.length_range, List.length_replicate]; omega))) only [nc, nct, w64_of, Int.toNat_natCast, Int.toNat_zero, List.length_map, is_len, us_len, ps_len, is_get, us_get, ps_get, at_i, at_u, at_p0, at_p1, evs_len, ids_len, evss_len, idss_len, evs_get, ids_get, evss_get, idss_get, at_e0, at_e1, at_e2, at_e3, at_e4, at_d0, at_d1, at_l, at_agg, asL_vs, asI_i, asU_u, asB_b, bofZ, bof1, bof0, List.getD_cons_zero, List.getD_cons_succ]; first | done | omega | rfl | exact ⟨by omega, rfl⟩ | (simp; done) | (simp; omega)) | (intros; trivial) | exact ⟨by first | trivial | rfl, by first | trivial | rfl | simp, by first | trivial | simp, by simp; omega, by simp; omega, by simp [AV.flat, AV.cells, AV.one]⟩)); (try (simp only [nc] at *)); (try simp (disch := (first | omega | (simp only [tab_len, List.length_append, List.length_map, List.length_range, List.length_replicate]; omega))) only [nc, nct, w64_of, Int.toNat_natCast, Int.toNat_zero, List.length_map, is_len, us_len, ps_len, is_get, us_get, ps_get, at_i, at_u, at_p0, at_p1, evs_len, ids_len, evss_len, idss_len, evs_get, ids_get, evss_get, idss_get, at_e0, at_e1, at_e2, at_e3, at_e4, at_d0, at_d1, at_l, at_agg, asL_vs, asI_i, asU_u, asB_b, bofZ, bof1, bof0, List.getD_cons_zero, List.getD_cons_succ]); (try cbv))
      | fail
    )
    refine E.w (AWP.ghostSlot 5 2 rfl (by omega) (E.loopSA (ι := Nat) (fun a => a ≤ n) (fun a => n - a) (fun a => [(13, .i fun _ => ((a : Nat) : Int)), (5, .sl 1 (G a 0) 2 (fun _ => 0) fun _ => (prA p n a).length)]) (fun a h => h.set 1 (.run (G a 0) 2 fun _ => ps (prA p n a))) 0 (fun _ => by first | rfl | simp) (Nat.zero_le _) ?_ fun a ha I hI' => ?_))
    · cbv; simp [h1, prA, hG0, ps, LV.of]
    cbv
    have hla := prA_len p n a
    have hsa := prA_succ p n a
    have hma : a * n ≤ 62 * 62 := Nat.mul_le_mul (by omega) h2
    skip
    repeat' (first
      | (refine ⟨fun _ h_s => ?_, fun _ h_s => ?_⟩ <;> (cbv; (try simp only [nc] at *); try simp (disch := (first | omega | (simp only [tab_len, List.length_append, List.length_map, List.length_range, List.length_replicate]; omega))) only [nc, nct, w64_of, Int.toNat_natCast, Int.toNat_zero, List.length_map, is_len, us_len, ps_len, is_get, us_get, ps_get, at_i, at_u, at_p0, at_p1, evs_len, ids_len, evss_len, idss_len, evs_get, ids_get, evss_get, idss_get, at_e0, at_e1, at_e2, at_e3, at_e4, at_d0, at_d1, at_l, at_agg, asL_vs, asI_i, asU_u, asB_b, bofZ, bof1, bof0, List.getD_cons_zero, List.getD_cons_succ, decide_eq_true_eq, decide_eq_false_iff_not, Bool.not_eq_true, Bool.not_eq_false, Bool.not_eq_true', Bool.not_eq_false', ne_eq, Decidable.not_not, Int.not_le, Int.not_lt, beq_iff_eq] at h_s))
      | (refine hF ?_; intro _; clear hF)
      | (refine hF ?_; cbv; clear hF)
      | (refine ⟨fun _ => ?_, ?_⟩; (· ((try simp only [nc] at *); first | done | omega | exact ⟨by omega, rfl⟩ | (simp (disch := (first | omega | (simp only [tab_len, List.length_append, List.length_map, List.length_range, List.length_replicate]; omega))) only [nc, nct, w64_of, Int.toNat_natCast, Int.toNat_zero, List.length_map, is_len, us_len, ps_len, is_get, us_get, ps_get, at_i, at_u, at_p0, at_p1, evs_len, ids_len, evss_len, idss_len, evs_get, ids_get, evss_get, idss_get, at_e0, at_e1, at_e2, at_e3, at_e4, at_d0, at_d1, at_l, at_agg, asL_vs, asI_i, asU_u, asB_b, bofZ, bof1, bof0, List.getD_cons_zero, List.getD_cons_succ]; first | done | omega | rfl | exact ⟨by omega, rfl⟩ | (simp; done) | (simp; omega)) | (intros; trivial) | exact ⟨by first | trivial | rfl, by first | trivial | rfl | simp, by first | trivial | simp, by simp; omega, by simp; omega, by simp [AV.flat, AV.cells, AV.one]⟩ | exact ⟨by first | trivial | rfl, by first | trivial | rfl | simp, by first | trivial | simp, by simp; omega, by simp; omega, by simp [AV.flat, AV.cells, AV.one]⟩)); (try (simp only [nc] at *)); (try simp (disch := (first | omega | (simp only [tab_len, List.length_append, List.length_map, List.length_range, List.length_replicate]; omega))) only [nc, nct, w64_of, Int.toNat_natCast, Int.toNat_zero, List.length_map, is_len, us_len, ps_len, is_get, us_get, ps_get, at_i, at_u, at_p0, at_p1, evs_len, ids_len, evss_len, idss_len, evs_get, ids_get, evss_get, idss_get, at_e0, at_e1, at_e2, at_e3, at_e4, at_d0, at_d1, at_l, at_agg, asL_vs, asI_i, asU_u, asB_b, bofZ, bof1, bof0, List.getD_cons_zero, List.getD_cons_succ]); (try cbv))
      | fail
    )
    · refine E.loopS (ι := Nat) (fun b => b ≤ n) (fun b => n - b) (fun b => [(21, .i fun _ => ((b : Nat) : Int)), (5, .sl 1 (G a b) 2 (fun _ => 0) fun _ => (prA p n a ++ prE p a b).length)]) (fun b h => h.set 1 (.run (G a b) 2 fun _ => ps (prA p n a ++ prE p a b))) 0 (fun _ => by first | rfl | simp) (Nat.zero_le _) ?_ fun b hb I2 hI2 => ?_
      · cbv; simp [h1, prE]
      cbv
      have hpk := hp a
      have hlb := prE_len p a b
      have hsb := prE_succ p a b
      repeat' (first
        | (refine hI' (a + 1) ?_ ?_ ?_; rotate_left 1; (· ((try simp only [nc] at *); omega)); (cbv; clear hI'; (try clear hF); (try simp only [nc] at *); (try simp (disch := (first | omega | (simp only [tab_len, List.length_append, List.length_map, List.length_range, List.length_replicate]; omega))) only [nc, nct, w64_of, Int.toNat_natCast, Int.toNat_zero, List.length_map, is_len, us_len, ps_len, is_get, us_get, ps_get, at_i, at_u, at_p0, at_p1, evs_len, ids_len, evss_len, idss_len, evs_get, ids_get, evss_get, idss_get, at_e0, at_e1, at_e2, at_e3, at_e4, at_d0, at_d1, at_l, at_agg, asL_vs, asI_i, asU_u, asB_b, bofZ, bof1, bof0, List.getD_cons_zero, List.getD_cons_succ, implies_true, and_true, true_and, forall_const])); rotate_left 1; (try ((try simp only [nc] at *); omega)))
        | (refine hI2 (b + 1) ?_ ?_ ?_; rotate_left 1; (· ((try simp only [nc] at *); omega)); (cbv; clear hI2; (try clear hF); (try simp only [nc] at *); (try simp (disch := (first | omega | (simp only [tab_len, List.length_append, List.length_map, List.length_range, List.length_replicate]; omega))) only [nc, nct, w64_of, Int.toNat_natCast, Int.toNat_zero, List.length_map, is_len, us_len, ps_len, is_get, us_get, ps_get, at_i, at_u, at_p0, at_p1, evs_len, ids_len, evss_len, idss_len, evs_get, ids_get, evss_get, idss_get, at_e0, at_e1, at_e2, at_e3, at_e4, at_d0, at_d1, at_l, at_agg, asL_vs, asI_i, asU_u, asB_b, bofZ, bof1, bof0, List.getD_cons_zero, List.getD_cons_succ, implies_true, and_true, true_and, forall_const])); rotate_left 1; (try ((try simp only [nc] at *); omega)))
        | (refine E.c (SCalls.of_le (hpk (by ((try simp only [nc] at *); omega)) b (by ((try simp only [nc] at *); omega))) ?_ ?_); (· (cbv; (try simp only [nc] at *); first | done | (simp; done) | (simp (disch := (first | omega | (simp only [tab_len, List.length_append, List.length_map, List.length_range, List.length_replicate]; omega))) only [nc, nct, w64_of, Int.toNat_natCast, Int.toNat_zero, List.length_map, is_len, us_len, ps_len, is_get, us_get, ps_get, at_i, at_u, at_p0, at_p1, evs_len, ids_len, evss_len, idss_len, evs_get, ids_get, evss_get, idss_get, at_e0, at_e1, at_e2, at_e3, at_e4, at_d0, at_d1, at_l, at_agg, asL_vs, asI_i, asU_u, asB_b, bofZ, bof1, bof0, List.getD_cons_zero, List.getD_cons_succ, implies_true, and_true, true_and, forall_const]; first | done | omega | (refine ⟨?_, ?_⟩ <;> omega)) | (simp (disch := (first | omega | (simp only [tab_len, List.length_append, List.length_map, List.length_range, List.length_replicate]; omega))) [nc, nct, w64_of, Int.toNat_natCast, Int.toNat_zero, List.length_map, is_len, us_len, ps_len, is_get, us_get, ps_get, at_i, at_u, at_p0, at_p1, evs_len, ids_len, evss_len, idss_len, evs_get, ids_get, evss_get, idss_get, at_e0, at_e1, at_e2, at_e3, at_e4, at_d0, at_d1, at_l, at_agg, asL_vs, asI_i, asU_u, asB_b, bofZ, bof1, bof0, List.getD_cons_zero, List.getD_cons_succ]; done))); cbv)
        | (refine ⟨fun _ h_s => ?_, fun _ h_s => ?_⟩ <;> (cbv; (try simp only [nc] at *); try simp (disch := (first | omega | (simp only [tab_len, List.length_append, List.length_map, List.length_range, List.length_replicate]; omega))) only [nc, nct, w64_of, Int.toNat_natCast, Int.toNat_zero, List.length_map, is_len, us_len, ps_len, is_get, us_get, ps_get, at_i, at_u, at_p0, at_p1, evs_len, ids_len, evss_len, idss_len, evs_get, ids_get, evss_get, idss_get, at_e0, at_e1, at_e2, at_e3, at_e4, at_d0, at_d1, at_l, at_agg, asL_vs, asI_i, asU_u, asB_b, bofZ, bof1, bof0, List.getD_cons_zero, List.getD_cons_succ, decide_eq_true_eq, decide_eq_false_iff_not, Bool.not_eq_true, Bool.not_eq_false, Bool.not_eq_true', Bool.not_eq_false', ne_eq, Decidable.not_not, Int.not_le, Int.not_lt, beq_iff_eq] at h_s))
        | (refine hF ?_; intro _; clear hF)
        | (refine hF ?_; cbv; clear hF)
        | (refine ⟨fun _ => ?_, ?_⟩; (· ((try simp only [nc] at *); first | done | omega | exact ⟨by omega, rfl⟩ | (simp (disch := (first | omega | (simp only [tab_len, List.length_append, List.length_map, List.length_range, List.length_replicate]; omega))) only [nc, nct, w64_of, Int.toNat_natCast, Int.toNat_zero, List.length_map, is_len, us_len, ps_len, is_get, us_get, ps_get, at_i, at_u, at_p0, at_p1, evs_len, ids_len, evss_len, idss_len, evs_get, ids_get, evss_get, idss_get, at_e0, at_e1, at_e2, at_e3, at_e4, at_d0, at_d1, at_l, at_agg, asL_vs, asI_i, asU_u, asB_b, bofZ, bof1, bof0, List.getD_cons_zero, List.getD_cons_succ]; first | done | omega | rfl | exact ⟨by omega, rfl⟩ | (simp; done) | (simp; omega)) | (intros; trivial) | exact ⟨by first | trivial | rfl, by first | trivial | rfl | simp, by first | trivial | simp, by simp; omega, by simp; omega, by simp [AV.flat, AV.cells, AV.one]⟩ | exact ⟨by first | trivial | rfl, by first | trivial | rfl | simp, by first | trivial | simp, by simp; omega, by simp; omega, by simp [AV.flat, AV.cells, AV.one]⟩)); (try (simp only [nc] at *)); (try simp (disch := (first | omega | (simp only [tab_len, List.length_append, List.length_map, List.length_range, List.length_replicate]; omega))) only [nc, nct, w64_of, Int.toNat_natCast, Int.toNat_zero, List.length_map, is_len, us_len, ps_len, is_get, us_get, ps_get, at_i, at_u, at_p0, at_p1, evs_len, ids_len, evss_len, idss_len, evs_get, ids_get, evss_get, idss_get, at_e0, at_e1, at_e2, at_e3, at_e4, at_d0, at_d1, at_l, at_agg, asL_vs, asI_i, asU_u, asB_b, bofZ, bof1, bof0, List.getD_cons_zero, List.getD_cons_succ]); (try cbv))
        | fail
      )
      all_goals (try simp only [nc] at *)
      all_goals (try simp (disch := (first | omega | (simp only [tab_len, List.length_append, List.length_map, List.length_range, List.length_replicate]; omega))) only [nc, nct, w64_of, Int.toNat_natCast, Int.toNat_zero, List.length_map, is_len, us_len, ps_len, is_get, us_get, ps_get, at_i, at_u, at_p0, at_p1, evs_len, ids_len, evss_len, idss_len, evs_get, ids_get, evss_get, idss_get, at_e0, at_e1, at_e2, at_e3, at_e4, at_d0, at_d1, at_l, at_agg, asL_vs, asI_i, asU_u, asB_b, bofZ, bof1, bof0, List.getD_cons_zero, List.getD_cons_succ])
      · rw [if_pos (by assumption)] at hsb
        simp [hG, hsb, ps]
        omega
      · rw [if_neg (by simp_all)] at hsb
        simp [hG, hsb]
      · have e : b = n := by omega
        subst e
        have e0 : prE p (a + 1) 0 = [] := rfl
        simp only [hG, hsa, e0, List.append_nil]
        simp
    · refine hI ?_
      cbv
      clear hI hI' hF
      have e : a = n := by ((try simp only [nc] at *); omega)
      subst e
      (try simp only [nc] at *)
      (try simp (disch := (first | omega | (simp only [tab_len, List.length_append, List.length_map, List.length_range, List.length_replicate]; omega))) only [nc, nct, w64_of, Int.toNat_natCast, Int.toNat_zero, List.length_map, is_len, us_len, ps_len, is_get, us_get, ps_get, at_i, at_u, at_p0, at_p1, evs_len, ids_len, evss_len, idss_len, evs_get, ids_get, evss_get, idss_get, at_e0, at_e1, at_e2, at_e3, at_e4, at_d0, at_d1, at_l, at_agg, asL_vs, asI_i, asU_u, asB_b, bofZ, bof1, bof0, List.getD_cons_zero, List.getD_cons_succ, implies_true, and_true, true_and, forall_const])
      refine ⟨by omega, ?_⟩
      rw [List.drop_zero, List.take_of_length_le (by simp)]
  · cbv
    repeat' (first
      | (refine E.c (SCalls.of_le (hof) ?_ ?_); (· (cbv; (try simp only [nc] at *); first | done | (simp; done) | (simp (disch := (first | omega | (simp only [tab_len, List.length_append, List.length_map, List.length_range, List.length_replicate]; omega))) only [nc, nct, w64_of, Int.toNat_natCast, Int.toNat_zero, List.length_map, is_len, us_len, ps_len, is_get, us_get, ps_get, at_i, at_u, at_p0, at_p1, evs_len, ids_len, evss_len, idss_len, evs_get, ids_get, evss_get, idss_get, at_e0, at_e1, at_e2, at_e3, at_e4, at_d0, at_d1, at_l, at_agg, asL_vs, asI_i, asU_u, asB_b, bofZ, bof1, bof0, List.getD_cons_zero, List.getD_cons_succ, implies_true, and_true, true_and, forall_const]; first | done | omega | (refine ⟨?_, ?_⟩ <;> omega)) | (simp (disch := (first | omega | (simp only [tab_len, List.length_append, List.length_map, List.length_range, List.length_replicate]; omega))) [nc, nct, w64_of, Int.toNat_natCast, Int.toNat_zero, List.length_map, is_len, us_len, ps_len, is_get, us_get, ps_get, at_i, at_u, at_p0, at_p1, evs_len, ids_len, evss_len, idss_len, evs_get, ids_get, evss_get, idss_get, at_e0, at_e1, at_e2, at_e3, at_e4, at_d0, at_d1, at_l, at_agg, asL_vs, asI_i, asU_u, asB_b, bofZ, bof1, bof0, List.getD_cons_zero, List.getD_cons_succ]; done))); cbv)
      | (refine ⟨fun _ h_s => ?_, fun _ h_s => ?_⟩ <;> (cbv; (try simp only [nc] at *); try simp (disch := (first | omega | (simp only [tab_len, List.length_append, List.length_map, List.length_range, List.length_replicate]; omega))) only [nc, nct, w64_of, Int.toNat_natCast, Int.toNat_zero, List.length_map, is_len, us_len, ps_len, is_get, us_get, ps_get, at_i, at_u, at_p0, at_p1, evs_len, ids_len, evss_len, idss_len, evs_get, ids_get, evss_get, idss_get, at_e0, at_e1, at_e2, at_e3, at_e4, at_d0, at_d1, at_l, at_agg, asL_vs, asI_i, asU_u, asB_b, bofZ, bof1, bof0, List.getD_cons_zero, List.getD_cons_succ, decide_eq_true_eq, decide_eq_false_iff_not, Bool.not_eq_true, Bool.not_eq_false, Bool.not_eq_true', Bool.not_eq_false', ne_eq, Decidable.not_not, Int.not_le, Int.not_lt, beq_iff_eq] at h_s))
      | (refine hF ?_; intro _; clear hF)
      | (refine hF ?_; cbv; clear hF)
      | (refine ⟨fun _ => ?_, ?_⟩; (· ((try simp only [nc] at *); first | done | omega | exact ⟨by omega, rfl⟩ | (simp (disch := (first | omega | (simp only [tab_len, List.length_append, List.length_map, List.length_range, List.length_replicate]; omega))) only [nc, nct, w64_of, Int.toNat_natCast, Int.toNat_zero, List.length_map, is_len, us_len, ps_len, is_get, us_get, ps_get, at_i, at_u, at_p0, at_p1, evs_len, ids_len, evss_len, idss_len, evs_get, ids_get, evss_get, idss_get, at_e0, at_e1, at_e2, at_e3, at_e4, at_d0, at_d1, at_l, at_agg, asL_vs, asI_i, asU_u, asB_b, bofZ, bof1, bof0, List.getD_cons_zero, List.getD_cons_succ]; first | done | omega | rfl | exact ⟨by omega, rfl⟩ | (simp; done) | (simp; omega)) | (intros; trivial) | exact ⟨by first | trivial | rfl, by first | trivial | rfl | simp, by first | trivial | simp, by simp; omega, by simp; omega, by simp [AV.flat, AV.cells, AV.one]⟩ | exact ⟨by first | trivial | rfl, by first | trivial | rfl | simp, by first | trivial | simp, by simp; omega, by simp; omega, by simp [AV.flat, AV.cells, AV.one]⟩)); (try (simp only [nc] at *)); (try simp (disch := (first | omega | (simp only [tab_len, List.length_append, List.length_map, List.length_range, List.length_replicate]; omega))) only [nc, nct, w64_of, Int.toNat_natCast, Int.toNat_zero, List.length_map, is_len, us_len, ps_len, is_get, us_get, ps_get, at_i, at_u, at_p0, at_p1, evs_len, ids_len, evss_len, idss_len, evs_get, ids_get, evss_get, idss_get, at_e0, at_e1, at_e2, at_e3, at_e4, at_d0, at_d1, at_l, at_agg, asL_vs, asI_i, asU_u, asB_b, bofZ, bof1, bof0, List.getD_cons_zero, List.getD_cons_succ]); (try cbv))
      | fail
    )
    all_goals (try simp only [nc] at *)
    all_goals (try simp (disch := (first | omega | (simp only [tab_len, List.length_append, List.length_map, List.length_range, List.length_replicate]; omega))) only [nc, nct, w64_of, Int.toNat_natCast, Int.toNat_zero, List.length_map, is_len, us_len, ps_len, is_get, us_get, ps_get, at_i, at_u, at_p0, at_p1, evs_len, ids_len, evss_len, idss_len, evs_get, ids_get, evss_get, idss_get, at_e0, at_e1, at_e2, at_e3, at_e4, at_d0, at_d1, at_l, at_agg, asL_vs, asI_i, asU_u, asB_b, bofZ, bof1, bof0, List.getD_cons_zero, List.getD_cons_succ])
end Go.AL.Rl
