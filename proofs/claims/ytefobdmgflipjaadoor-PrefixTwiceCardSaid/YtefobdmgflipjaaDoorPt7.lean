import Derived.Test.YtefobdmgflipjaaDoorPt6
import Derived.OpenShut
import Derived.ReadAgain
import Derived.Deep.DeepHandedRow
import Derived.Lib.LaidTab
import Derived.ProofKit
import Derived.Test.YtefobdmgflipjaaDoorCards
import Derived.Test.YtefobdmgflipjaaDoorTie
set_option linter.unusedVariables false
set_option linter.unusedSimpArgs false
namespace Go.AL.Rl
open Go Go.AL Go.Proofs
set_option maxRecDepth 100000
set_option maxHeartbeats 3200000
variable {γ : Nat → Option AV}

theorem klongs_ok (a b : List Int) (ha : (a.length : Int) ≤ 9223372036854775807) : Pure Tryd.prog γ false 44 [.vs 1 fun _ => is a, .vs 1 fun _ => is b] (.b fun _ => decide (a = b)) := by
  refine Pure.go (ty := ty) ty_eq mo Tryd.func44 rfl Tryd.ntmps44 Tryd.results44 Tryd.call44 (by simp) fun P C CQ D W F E hF => ?_
  cbv
  repeat' (first
    | (refine ⟨fun _ h_s => ?_, fun _ h_s => ?_⟩ <;> (cbv; (try simp only [nc] at *); try simp (disch := (first | omega | (simp only [lnS, zA, zM, zG, zP]; omega))) only [nc, nct, w64_of, zT, zZ, zM, rdS, at_agg, bofZ, bof1, bof0, zC, zS, reduceCtorEq, Bool.not_true, Bool.not_false, zD, zE, zB, zF, zN, zO, ne_eq, zQ, zL, zR, beq_iff_eq] at h_s))
    | (refine hF ?_; intro _; clear hF)
    | (refine hF ?_; cbv; clear hF)
    | (refine ⟨fun _ => ?_, ?_⟩; (· ((try simp only [nc] at *); first | done | omega | exact ⟨by omega, rfl⟩ | (simp (disch := (first | omega | (simp only [lnS, zA, zM, zG, zP]; omega))) only [nc, nct, w64_of, zT, zZ, zM, rdS, at_agg, bofZ, bof1, bof0, zC, zS]; first | done | omega | rfl | exact ⟨by omega, rfl⟩ | (simp; done) | (simp; omega)) | (intros; trivial))); (try (simp only [nc] at *)); (try simp (disch := (first | omega | (simp only [lnS, zA, zM, zG, zP]; omega))) only [nc, nct, w64_of, zT, zZ, zM, rdS, at_agg, bofZ, bof1, bof0, zC, zS]); (try cbv))
    | (refine E.d 8 (by decide +kernel) ?_; cbv; (fail_if_success guard_target =~ False))
    | fail
  )
  · simp
    intro e; subst e; simp_all
  · refine E.loopS (ι := Nat) (fun i => i ≤ a.length ∧ (∀ k < i, a.getD k 0 = b.getD k 0)) (fun i => a.length - i) (fun i => [(5, .i fun _ => ((i : Nat) : Int))]) (fun i h => h) 0 (fun _ => by first | rfl | simp) ⟨Nat.zero_le _, ?_⟩ ?_ fun i hi I hI => ?_
    · intro k hk; omega
    · cbv; simp
    cbv
    obtain ⟨hi, hp⟩ := hi
    repeat' (first
      | (refine hI (i + 1) ?_ ?_ ?_; rotate_left 1; (· ((try simp only [nc] at *); omega)); (cbv; clear hI; (try clear hF); (try simp only [nc] at *); (try simp (disch := (first | omega | (simp only [lnS, zA, zM, zG, zP]; omega))) only [nc, nct, w64_of, zT, zZ, zM, rdS, at_agg, bofZ, bof1, bof0, zC, zS, implies_true, and_true, true_and, forall_const])); rotate_left 1; (try ((try simp only [nc] at *); omega)))
      | (refine ⟨fun _ h_s => ?_, fun _ h_s => ?_⟩ <;> (cbv; (try simp only [nc] at *); try simp (disch := (first | omega | (simp only [lnS, zA, zM, zG, zP]; omega))) only [nc, nct, w64_of, zT, zZ, zM, rdS, at_agg, bofZ, bof1, bof0, zC, zS, reduceCtorEq, Bool.not_true, Bool.not_false, zD, zE, zB, zF, zN, zO, ne_eq, zQ, zL, zR, beq_iff_eq] at h_s))
      | (refine hF ?_; intro _; clear hF)
      | (refine hF ?_; cbv; clear hF)
      | (refine ⟨fun _ => ?_, ?_⟩; (· ((try simp only [nc] at *); first | done | omega | exact ⟨by omega, rfl⟩ | (simp (disch := (first | omega | (simp only [lnS, zA, zM, zG, zP]; omega))) only [nc, nct, w64_of, zT, zZ, zM, rdS, at_agg, bofZ, bof1, bof0, zC, zS]; first | done | omega | rfl | exact ⟨by omega, rfl⟩ | (simp; done) | (simp; omega)) | (intros; trivial))); (try (simp only [nc] at *)); (try simp (disch := (first | omega | (simp only [lnS, zA, zM, zG, zP]; omega))) only [nc, nct, w64_of, zT, zZ, zM, rdS, at_agg, bofZ, bof1, bof0, zC, zS]); (try cbv))
      | (refine E.d 8 (by decide +kernel) ?_; cbv; (fail_if_success guard_target =~ False))
      | fail
    )
    · refine decide_eq_false fun e => ?_
      subst e
      simp at h_s
    · refine ⟨by ((try simp only [nc] at *); omega), fun k hk => ?_⟩
      rcases Nat.lt_or_ge k i with h1 | h1
      · exact hp k h1
      · obtain rfl : k = i := by omega
        simpa using h_s
    · push_cast; rfl
    · refine decide_eq_true (List.ext_getElem (by ((try simp only [nc] at *); omega)) fun k h1 h2 => ?_)
      have := hp k (by ((try simp only [nc] at *); omega))
      simpa [h1, h2] using this
theorem ev_iff (a b : Ev) : a = b ↔ a.kind = b.kind ∧ a.loc = b.loc ∧ a.order = b.order ∧ a.rd = b.rd ∧ a.wr = b.wr := by
  cases a; cases b; simp
theorem kevents_ok (a b : List Ev) (ha : (a.length : Int) ≤ 9223372036854775807) : Pure Tryd.prog γ false 45 [.vs 5 fun _ => evs a, .vs 5 fun _ => evs b] (.b fun _ => decide (a = b)) := by
  refine Pure.go (ty := ty) ty_eq mo Tryd.func45 rfl Tryd.ntmps45 Tryd.results45 Tryd.call45 (by simp) fun P C CQ D W F E hF => ?_
  cbv
  repeat' (first
    | (refine ⟨fun _ h_s => ?_, fun _ h_s => ?_⟩ <;> (cbv; (try simp only [nc] at *); try simp (disch := (first | omega | (simp only [lnS, zA, zM, zG, zP]; omega))) only [nc, nct, w64_of, zT, zZ, zM, rdS, at_agg, bofZ, bof1, bof0, zC, zS, reduceCtorEq, Bool.not_true, Bool.not_false, zD, zE, zB, zF, zN, zO, ne_eq, zQ, zL, zR, beq_iff_eq] at h_s))
    | (refine hF ?_; intro _; clear hF)
    | (refine hF ?_; cbv; clear hF)
    | (refine ⟨fun _ => ?_, ?_⟩; (· ((try simp only [nc] at *); first | done | omega | exact ⟨by omega, rfl⟩ | (simp (disch := (first | omega | (simp only [lnS, zA, zM, zG, zP]; omega))) only [nc, nct, w64_of, zT, zZ, zM, rdS, at_agg, bofZ, bof1, bof0, zC, zS]; first | done | omega | rfl | exact ⟨by omega, rfl⟩ | (simp; done) | (simp; omega)) | (intros; trivial))); (try (simp only [nc] at *)); (try simp (disch := (first | omega | (simp only [lnS, zA, zM, zG, zP]; omega))) only [nc, nct, w64_of, zT, zZ, zM, rdS, at_agg, bofZ, bof1, bof0, zC, zS]); (try cbv))
    | (refine E.d 8 (by decide +kernel) ?_; cbv; (fail_if_success guard_target =~ False))
    | fail
  )
  · simp
    intro e; subst e; simp_all
  · refine E.loopS (ι := Nat) (fun i => i ≤ a.length ∧ (∀ k < i, a.getD k ev0 = b.getD k ev0)) (fun i => a.length - i) (fun i => [(5, .i fun _ => ((i : Nat) : Int))]) (fun i h => h) 0 (fun _ => by first | rfl | simp) ⟨Nat.zero_le _, ?_⟩ ?_ fun i hi I hI => ?_
    · intro k hk; omega
    · cbv; simp
    cbv
    obtain ⟨hi, hp⟩ := hi
    repeat' (first
      | (refine hI (i + 1) ?_ ?_ ?_; rotate_left 1; (· ((try simp only [nc] at *); omega)); (cbv; clear hI; (try clear hF); (try simp only [nc] at *); (try simp (disch := (first | omega | (simp only [lnS, zA, zM, zG, zP]; omega))) only [nc, nct, w64_of, zT, zZ, zM, rdS, at_agg, bofZ, bof1, bof0, zC, zS, implies_true, and_true, true_and, forall_const])); rotate_left 1; (try ((try simp only [nc] at *); omega)))
      | (refine ⟨fun _ h_s => ?_, fun _ h_s => ?_⟩ <;> (cbv; (try simp only [nc] at *); try simp (disch := (first | omega | (simp only [lnS, zA, zM, zG, zP]; omega))) only [nc, nct, w64_of, zT, zZ, zM, rdS, at_agg, bofZ, bof1, bof0, zC, zS, reduceCtorEq, Bool.not_true, Bool.not_false, zD, zE, zB, zF, zN, zO, ne_eq, zQ, zL, zR, beq_iff_eq] at h_s))
      | (refine hF ?_; intro _; clear hF)
      | (refine hF ?_; cbv; clear hF)
      | (refine ⟨fun _ => ?_, ?_⟩; (· ((try simp only [nc] at *); first | done | omega | exact ⟨by omega, rfl⟩ | (simp (disch := (first | omega | (simp only [lnS, zA, zM, zG, zP]; omega))) only [nc, nct, w64_of, zT, zZ, zM, rdS, at_agg, bofZ, bof1, bof0, zC, zS]; first | done | omega | rfl | exact ⟨by omega, rfl⟩ | (simp; done) | (simp; omega)) | (intros; trivial))); (try (simp only [nc] at *)); (try simp (disch := (first | omega | (simp only [lnS, zA, zM, zG, zP]; omega))) only [nc, nct, w64_of, zT, zZ, zM, rdS, at_agg, bofZ, bof1, bof0, zC, zS]); (try cbv))
      | (refine E.d 8 (by decide +kernel) ?_; cbv; (fail_if_success guard_target =~ False))
      | fail
    )
    · refine decide_eq_false fun e => ?_
      subst e
      simp at h_s
    · refine ⟨by ((try simp only [nc] at *); omega), fun k hk => ?_⟩
      rcases Nat.lt_or_ge k i with h1 | h1
      · exact hp k h1
      · obtain rfl : k = i := by omega
        exact (ev_iff _ _).2 (by simpa [and_assoc] using h_s)
    · push_cast; rfl
    · refine decide_eq_true (List.ext_getElem (by ((try simp only [nc] at *); omega)) fun k h1 h2 => ?_)
      have := hp k (by ((try simp only [nc] at *); omega))
      simpa [h1, h2] using this
theorem mk_iff (a b : Mk) : a = b ↔ (a.id.t = b.id.t ∧ a.id.i = b.id.i) ∧ a.w = b.w := by
  constructor
  · rintro rfl; exact ⟨⟨rfl, rfl⟩, rfl⟩
  · rintro ⟨⟨h1, h2⟩, h3⟩; exact Mk.ext' (EId.ext' h1 h2) h3
theorem kmarks_ok (a b : List Mk) (ha : (a.length : Int) ≤ 9223372036854775807) : Pure Tryd.prog γ false 26 [.vs 3 fun _ => mks a, .vs 3 fun _ => mks b] (.b fun _ => decide (a = b)) := by
  refine Pure.go (ty := ty) ty_eq mo Tryd.func26 rfl Tryd.ntmps26 Tryd.results26 Tryd.call26 (by simp) fun P C CQ D W F E hF => ?_
  cbv
  skip
  repeat' (first
    | (refine ⟨fun _ h_s => ?_, fun _ h_s => ?_⟩ <;> (cbv; (try simp only [nc] at *); try simp (disch := (first | omega | (simp only [lnS, zA, zM, zG, zP, mks_len]; omega))) only [nc, nct, w64_of, zT, zZ, zM, rdS, at_agg, bofZ, bof1, bof0, zC, zS, mks_len, mks_get, reduceCtorEq, Bool.not_true, Bool.not_false, zD, zE, zB, zF, zN, zO, ne_eq, zQ, zL, zR, beq_iff_eq] at h_s))
    | (refine hF ?_; intro _; clear hF)
    | (refine hF ?_; cbv; clear hF)
    | (refine ⟨fun _ => ?_, ?_⟩; (· ((try simp only [nc] at *); first | done | omega | exact ⟨by omega, rfl⟩ | (simp (disch := (first | omega | (simp only [lnS, zA, zM, zG, zP, mks_len]; omega))) only [nc, nct, w64_of, zT, zZ, zM, rdS, at_agg, bofZ, bof1, bof0, zC, zS, mks_len, mks_get]; first | done | omega | rfl | exact ⟨by omega, rfl⟩ | (simp; done) | (simp; omega)) | (intros; trivial))); (try (simp only [nc] at *)); (try simp (disch := (first | omega | (simp only [lnS, zA, zM, zG, zP, mks_len]; omega))) only [nc, nct, w64_of, zT, zZ, zM, rdS, at_agg, bofZ, bof1, bof0, zC, zS, mks_len, mks_get]); (try cbv))
    | (refine E.d 8 (by decide +kernel) ?_; cbv; (fail_if_success guard_target =~ False))
    | fail
  )
  · simp
    intro e; subst e; simp_all
  · refine E.loopS (ι := Nat) (fun i => i ≤ a.length ∧ (∀ k < i, a.getD k mk0 = b.getD k mk0)) (fun i => a.length - i) (fun i => [(5, .i fun _ => ((i : Nat) : Int))]) (fun i h => h) 0 (fun _ => by first | rfl | simp) ⟨Nat.zero_le _, ?_⟩ ?_ fun i hi I hI => ?_
    · intro k hk; omega
    · cbv; simp
    cbv
    obtain ⟨hi, hp⟩ := hi
    repeat' (first
      | (refine hI (i + 1) ?_ ?_ ?_; rotate_left 1; (· ((try simp only [nc] at *); omega)); (cbv; clear hI; (try clear hF); (try simp only [nc] at *); (try simp (disch := (first | omega | (simp only [lnS, zA, zM, zG, zP, mks_len]; omega))) only [nc, nct, w64_of, zT, zZ, zM, rdS, at_agg, bofZ, bof1, bof0, zC, zS, mks_len, mks_get, implies_true, and_true, true_and, forall_const])); rotate_left 1; (try ((try simp only [nc] at *); omega)))
      | (refine ⟨fun _ h_s => ?_, fun _ h_s => ?_⟩ <;> (cbv; (try simp only [nc] at *); try simp (disch := (first | omega | (simp only [lnS, zA, zM, zG, zP, mks_len]; omega))) only [nc, nct, w64_of, zT, zZ, zM, rdS, at_agg, bofZ, bof1, bof0, zC, zS, mks_len, mks_get, reduceCtorEq, Bool.not_true, Bool.not_false, zD, zE, zB, zF, zN, zO, ne_eq, zQ, zL, zR, beq_iff_eq] at h_s))
      | (refine hF ?_; intro _; clear hF)
      | (refine hF ?_; cbv; clear hF)
      | (refine ⟨fun _ => ?_, ?_⟩; (· ((try simp only [nc] at *); first | done | omega | exact ⟨by omega, rfl⟩ | (simp (disch := (first | omega | (simp only [lnS, zA, zM, zG, zP, mks_len]; omega))) only [nc, nct, w64_of, zT, zZ, zM, rdS, at_agg, bofZ, bof1, bof0, zC, zS, mks_len, mks_get]; first | done | omega | rfl | exact ⟨by omega, rfl⟩ | (simp; done) | (simp; omega)) | (intros; trivial))); (try (simp only [nc] at *)); (try simp (disch := (first | omega | (simp only [lnS, zA, zM, zG, zP, mks_len]; omega))) only [nc, nct, w64_of, zT, zZ, zM, rdS, at_agg, bofZ, bof1, bof0, zC, zS, mks_len, mks_get]); (try cbv))
      | (refine E.d 8 (by decide +kernel) ?_; cbv; (fail_if_success guard_target =~ False))
      | fail
    )
    · refine decide_eq_false fun e => ?_
      subst e
      simp at h_s
    · refine ⟨by ((try simp only [nc] at *); omega), fun k hk => ?_⟩
      rcases Nat.lt_or_ge k i with h1 | h1
      · exact hp k h1
      · obtain rfl : k = i := by omega
        exact (mk_iff _ _).2 (by simpa [and_assoc] using h_s)
    · push_cast; rfl
    · refine decide_eq_true (List.ext_getElem (by ((try simp only [nc] at *); omega)) fun k h1 h2 => ?_)
      have := hp k (by ((try simp only [nc] at *); omega))
      simpa [h1, h2] using this
def sameG (a b : Gr) : Bool := decide (a.init = b.init) && decide (a.th = b.th) && decide (a.fr = b.fr) && decide (a.ord = b.ord)
theorem sameG_self (a : Gr) : sameG a a = true := by simp [sameG]
theorem list_same {α : Type} (a b : List α) (d : α) (hl : a.length = b.length) (h : ∀ k < a.length, a.getD k d = b.getD k d) : a = b := by
  refine List.ext_getElem hl fun k h1 h2 => ?_
  have := h k h1
  simpa [h1, h2] using this
theorem ors_le {g : Gr} (hg : Rd g) (x : Nat) : ((g.ord.getD x []).length : Int) ≤ 9223372036854775807 := by
  rcases Nat.lt_or_ge x g.ord.length with h1 | h1
  · exact hg.ords _ (getD_mem h1)
  · simp [List.getElem?_eq_none h1]
theorem kgraph_ok (a b : Gr) (ha : Rd a) (hb : Rd b) : Pure Tryd.prog γ false 25 [aGr a, aGr b] (.b fun _ => sameG a b) := by
  have kl := klongs_ok (γ := γ) a.init b.init ha.init
  have b2 := ha.th
  have b3 := ha.fr
  have b4 := ha.ord
  have c2 := hb.th
  have c3 := hb.fr
  have c4 := hb.ord
  have n1 : a.init ≠ b.init → false = sameG a b := fun h => by unfold sameG; rw [decide_eq_false h]; rfl
  have n2 : a.th ≠ b.th → false = sameG a b := fun h => by unfold sameG; rw [decide_eq_false h]; simp
  have n3 : a.fr ≠ b.fr → false = sameG a b := fun h => by unfold sameG; rw [decide_eq_false h]; simp
  have n4 : a.ord ≠ b.ord → false = sameG a b := fun h => by unfold sameG; rw [decide_eq_false h]; simp
  have ny : a.init = b.init → a.th = b.th → a.fr = b.fr → a.ord = b.ord → true = sameG a b := fun h1 h2 h3 h4 => by unfold sameG; simp [h1, h2, h3, h4]
  generalize sameG a b = z at *
  refine Pure.go (ty := ty) ty_eq mo Tryd.func25 rfl Tryd.ntmps25 Tryd.results25 Tryd.call25 (by simp) fun P C CQ D W F E hF => ?_
  cbv
  repeat' (first
    | (refine E.c (SCalls.of_le (kl) ?_ ?_); (· (cbv; (try simp only [nc] at *); first | done | (simp; done) | (simp (disch := (first | omega | (simp only [lnS, zA, zM, zG, zP, mks_len]; omega))) only [nc, nct, w64_of, zT, zZ, zM, rdS, at_agg, bofZ, bof1, bof0, zC, zS, mks_len, mks_get, implies_true, and_true, true_and, forall_const]; first | done | omega | (refine ⟨?_, ?_⟩ <;> omega)) | (simp (disch := (first | omega | (simp only [lnS, zA, zM, zG, zP, mks_len]; omega))) [nc, nct, w64_of, zT, zZ, zM, rdS, at_agg, bofZ, bof1, bof0, zC, zS, mks_len, mks_get]; done))); cbv)
    | (refine ⟨fun _ h_s => ?_, fun _ h_s => ?_⟩ <;> (cbv; (try simp only [nc] at *); try simp (disch := (first | omega | (simp only [lnS, zA, zM, zG, zP, mks_len]; omega))) only [nc, nct, w64_of, zT, zZ, zM, rdS, at_agg, bofZ, bof1, bof0, zC, zS, mks_len, mks_get, reduceCtorEq, Bool.not_true, Bool.not_false, zD, zE, zB, zF, zN, zO, ne_eq, zQ, zL, zR, beq_iff_eq] at h_s))
    | (refine hF ?_; intro _; clear hF)
    | (refine hF ?_; cbv; clear hF)
    | (refine ⟨fun _ => ?_, ?_⟩; (· ((try simp only [nc] at *); first | done | omega | exact ⟨by omega, rfl⟩ | (simp (disch := (first | omega | (simp only [lnS, zA, zM, zG, zP, mks_len]; omega))) only [nc, nct, w64_of, zT, zZ, zM, rdS, at_agg, bofZ, bof1, bof0, zC, zS, mks_len, mks_get]; first | done | omega | rfl | exact ⟨by omega, rfl⟩ | (simp; done) | (simp; omega)) | (intros; trivial))); (try (simp only [nc] at *)); (try simp (disch := (first | omega | (simp only [lnS, zA, zM, zG, zP, mks_len]; omega))) only [nc, nct, w64_of, zT, zZ, zM, rdS, at_agg, bofZ, bof1, bof0, zC, zS, mks_len, mks_get]); (try cbv))
    | (refine E.d 10 (by decide +kernel) ?_; cbv; (fail_if_success guard_target =~ False))
    | fail
  )
  · exact (n1 (by simpa using h_s)).symm
  · exact (n2 fun e => by rw [e] at h_s; simp at h_s).symm
  · exact (n3 fun e => by rw [e] at h_s; simp at h_s).symm
  · exact (n4 fun e => by rw [e] at h_s; simp at h_s).symm
  refine E.loopS (ι := Nat) (fun k => k ≤ a.th.length ∧ (∀ j < k, a.th.getD j [] = b.th.getD j [])) (fun k => a.th.length - k) (fun k => [(5, .i fun _ => ((k : Nat) : Int))]) (fun k h => h) 0 (fun _ => by first | rfl | simp) ⟨Nat.zero_le _, ?_⟩ ?_ fun k hk I hI => ?_
  · intro j hj; omega
  · cbv; simp
  cbv
  obtain ⟨hk, hpk⟩ := hk
  have ke := kevents_ok (γ := γ) (a.th.getD k []) (b.th.getD k []) (ths_le ha k)
  repeat' (first
    | (refine hI (k + 1) ?_ ?_ ?_; rotate_left 1; (· ((try simp only [nc] at *); omega)); (cbv; clear hI; (try clear hF); (try simp only [nc] at *); (try simp (disch := (first | omega | (simp only [lnS, zA, zM, zG, zP, mks_len]; omega))) only [nc, nct, w64_of, zT, zZ, zM, rdS, at_agg, bofZ, bof1, bof0, zC, zS, mks_len, mks_get, implies_true, and_true, true_and, forall_const])); rotate_left 1; (try ((try simp only [nc] at *); omega)))
    | (refine E.c (SCalls.of_le (ke) ?_ ?_); (· (cbv; (try simp only [nc] at *); first | done | (simp; done) | (simp (disch := (first | omega | (simp only [lnS, zA, zM, zG, zP, mks_len]; omega))) only [nc, nct, w64_of, zT, zZ, zM, rdS, at_agg, bofZ, bof1, bof0, zC, zS, mks_len, mks_get, implies_true, and_true, true_and, forall_const]; first | done | omega | (refine ⟨?_, ?_⟩ <;> omega)) | (simp (disch := (first | omega | (simp only [lnS, zA, zM, zG, zP, mks_len]; omega))) [nc, nct, w64_of, zT, zZ, zM, rdS, at_agg, bofZ, bof1, bof0, zC, zS, mks_len, mks_get]; done))); cbv)
    | (refine E.q (QCalls.of_le (ke) ?_ ?_); (· (cbv; (try simp only [nc] at *); first | done | (simp; done) | (simp (disch := (first | omega | (simp only [lnS, zA, zM, zG, zP, mks_len]; omega))) only [nc, nct, w64_of, zT, zZ, zM, rdS, at_agg, bofZ, bof1, bof0, zC, zS, mks_len, mks_get, implies_true, and_true, true_and, forall_const]; first | done | omega | (refine ⟨?_, ?_⟩ <;> omega)) | (simp (disch := (first | omega | (simp only [lnS, zA, zM, zG, zP, mks_len]; omega))) [nc, nct, w64_of, zT, zZ, zM, rdS, at_agg, bofZ, bof1, bof0, zC, zS, mks_len, mks_get]; done))); cbv)
    | (refine E.c (SCalls.of_le (ke) ?_ ?_); (· (cbv; (try simp only [nc] at *); first | done | (simp; done) | (simp (disch := (first | omega | (simp only [lnS, zA, zM, zG, zP, mks_len]; omega))) only [nc, nct, w64_of, zT, zZ, zM, rdS, at_agg, bofZ, bof1, bof0, zC, zS, mks_len, mks_get, implies_true, and_true, true_and, forall_const]; first | done | omega | (refine ⟨?_, ?_⟩ <;> omega)) | (simp (disch := (first | omega | (simp only [lnS, zA, zM, zG, zP, mks_len]; omega))) [nc, nct, w64_of, zT, zZ, zM, rdS, at_agg, bofZ, bof1, bof0, zC, zS, mks_len, mks_get]; done))); cbv)
    | (refine ⟨fun _ h_s => ?_, fun _ h_s => ?_⟩ <;> (cbv; (try simp only [nc] at *); try simp (disch := (first | omega | (simp only [lnS, zA, zM, zG, zP, mks_len]; omega))) only [nc, nct, w64_of, zT, zZ, zM, rdS, at_agg, bofZ, bof1, bof0, zC, zS, mks_len, mks_get, reduceCtorEq, Bool.not_true, Bool.not_false, zD, zE, zB, zF, zN, zO, ne_eq, zQ, zL, zR, beq_iff_eq] at h_s))
    | (refine hF ?_; intro _; clear hF)
    | (refine hF ?_; cbv; clear hF)
    | (refine ⟨fun _ => ?_, ?_⟩; (· ((try simp only [nc] at *); first | done | omega | exact ⟨by omega, rfl⟩ | (simp (disch := (first | omega | (simp only [lnS, zA, zM, zG, zP, mks_len]; omega))) only [nc, nct, w64_of, zT, zZ, zM, rdS, at_agg, bofZ, bof1, bof0, zC, zS, mks_len, mks_get]; first | done | omega | rfl | exact ⟨by omega, rfl⟩ | (simp; done) | (simp; omega)) | (intros; trivial))); (try (simp only [nc] at *)); (try simp (disch := (first | omega | (simp only [lnS, zA, zM, zG, zP, mks_len]; omega))) only [nc, nct, w64_of, zT, zZ, zM, rdS, at_agg, bofZ, bof1, bof0, zC, zS, mks_len, mks_get]); (try cbv))
    | (refine E.d 10 (by decide +kernel) ?_; cbv; (fail_if_success guard_target =~ False))
    | fail
  )
  · exact (n2 fun e => by rw [e] at h_s; simp at h_s).symm
  · refine ⟨by ((try simp only [nc] at *); omega), fun j hj => ?_⟩
    rcases Nat.lt_or_ge j k with h1 | h1
    · exact hpk j h1
    · obtain rfl : j = k := by omega
      simpa using h_s
  · push_cast; rfl
  have z2 : a.th = b.th := list_same _ _ [] (by ((try simp only [nc] at *); omega)) fun j hj => hpk j (by ((try simp only [nc] at *); omega))
  refine E.loopS (ι := Nat) (fun m => m ≤ a.fr.length ∧ (∀ j < m, a.fr.getD j [] = b.fr.getD j [])) (fun m => a.fr.length - m) (fun m => [(6, .i fun _ => ((m : Nat) : Int))]) (fun m h => h) 0 (fun _ => by first | rfl | simp) ⟨Nat.zero_le _, ?_⟩ ?_ fun m hm I2 hI2 => ?_
  · intro j hj; omega
  · cbv; simp
  cbv
  obtain ⟨hm, hpm⟩ := hm
  have ke2 := kids_ok (γ := γ) (a.fr.getD m []) (b.fr.getD m []) (frs_le ha m)
  repeat' (first
    | (refine hI2 (m + 1) ?_ ?_ ?_; rotate_left 1; (· ((try simp only [nc] at *); omega)); (cbv; clear hI2; (try clear hF); (try simp only [nc] at *); (try simp (disch := (first | omega | (simp only [lnS, zA, zM, zG, zP, mks_len]; omega))) only [nc, nct, w64_of, zT, zZ, zM, rdS, at_agg, bofZ, bof1, bof0, zC, zS, mks_len, mks_get, implies_true, and_true, true_and, forall_const])); rotate_left 1; (try ((try simp only [nc] at *); omega)))
    | (refine E.c (SCalls.of_le (ke2) ?_ ?_); (· (cbv; (try simp only [nc] at *); first | done | (simp; done) | (simp (disch := (first | omega | (simp only [lnS, zA, zM, zG, zP, mks_len]; omega))) only [nc, nct, w64_of, zT, zZ, zM, rdS, at_agg, bofZ, bof1, bof0, zC, zS, mks_len, mks_get, implies_true, and_true, true_and, forall_const]; first | done | omega | (refine ⟨?_, ?_⟩ <;> omega)) | (simp (disch := (first | omega | (simp only [lnS, zA, zM, zG, zP, mks_len]; omega))) [nc, nct, w64_of, zT, zZ, zM, rdS, at_agg, bofZ, bof1, bof0, zC, zS, mks_len, mks_get]; done))); cbv)
    | (refine E.q (QCalls.of_le (ke2) ?_ ?_); (· (cbv; (try simp only [nc] at *); first | done | (simp; done) | (simp (disch := (first | omega | (simp only [lnS, zA, zM, zG, zP, mks_len]; omega))) only [nc, nct, w64_of, zT, zZ, zM, rdS, at_agg, bofZ, bof1, bof0, zC, zS, mks_len, mks_get, implies_true, and_true, true_and, forall_const]; first | done | omega | (refine ⟨?_, ?_⟩ <;> omega)) | (simp (disch := (first | omega | (simp only [lnS, zA, zM, zG, zP, mks_len]; omega))) [nc, nct, w64_of, zT, zZ, zM, rdS, at_agg, bofZ, bof1, bof0, zC, zS, mks_len, mks_get]; done))); cbv)
    | (refine E.c (SCalls.of_le (ke2) ?_ ?_); (· (cbv; (try simp only [nc] at *); first | done | (simp; done) | (simp (disch := (first | omega | (simp only [lnS, zA, zM, zG, zP, mks_len]; omega))) only [nc, nct, w64_of, zT, zZ, zM, rdS, at_agg, bofZ, bof1, bof0, zC, zS, mks_len, mks_get, implies_true, and_true, true_and, forall_const]; first | done | omega | (refine ⟨?_, ?_⟩ <;> omega)) | (simp (disch := (first | omega | (simp only [lnS, zA, zM, zG, zP, mks_len]; omega))) [nc, nct, w64_of, zT, zZ, zM, rdS, at_agg, bofZ, bof1, bof0, zC, zS, mks_len, mks_get]; done))); cbv)
    | (refine ⟨fun _ h_s => ?_, fun _ h_s => ?_⟩ <;> (cbv; (try simp only [nc] at *); try simp (disch := (first | omega | (simp only [lnS, zA, zM, zG, zP, mks_len]; omega))) only [nc, nct, w64_of, zT, zZ, zM, rdS, at_agg, bofZ, bof1, bof0, zC, zS, mks_len, mks_get, reduceCtorEq, Bool.not_true, Bool.not_false, zD, zE, zB, zF, zN, zO, ne_eq, zQ, zL, zR, beq_iff_eq] at h_s))
    | (refine hF ?_; intro _; clear hF)
    | (refine hF ?_; cbv; clear hF)
    | (refine ⟨fun _ => ?_, ?_⟩; (· ((try simp only [nc] at *); first | done | omega | exact ⟨by omega, rfl⟩ | (simp (disch := (first | omega | (simp only [lnS, zA, zM, zG, zP, mks_len]; omega))) only [nc, nct, w64_of, zT, zZ, zM, rdS, at_agg, bofZ, bof1, bof0, zC, zS, mks_len, mks_get]; first | done | omega | rfl | exact ⟨by omega, rfl⟩ | (simp; done) | (simp; omega)) | (intros; trivial))); (try (simp only [nc] at *)); (try simp (disch := (first | omega | (simp only [lnS, zA, zM, zG, zP, mks_len]; omega))) only [nc, nct, w64_of, zT, zZ, zM, rdS, at_agg, bofZ, bof1, bof0, zC, zS, mks_len, mks_get]); (try cbv))
    | (refine E.d 10 (by decide +kernel) ?_; cbv; (fail_if_success guard_target =~ False))
    | fail
  )
  · exact (n3 fun e => by rw [e] at h_s; simp at h_s).symm
  · refine ⟨by ((try simp only [nc] at *); omega), fun j hj => ?_⟩
    rcases Nat.lt_or_ge j m with h1 | h1
    · exact hpm j h1
    · obtain rfl : j = m := by omega
      simpa using h_s
  · push_cast; rfl
  have z3 : a.fr = b.fr := list_same _ _ [] (by ((try simp only [nc] at *); omega)) fun j hj => hpm j (by ((try simp only [nc] at *); omega))
  refine E.loopS (ι := Nat) (fun o => o ≤ a.ord.length ∧ (∀ j < o, a.ord.getD j [] = b.ord.getD j [])) (fun o => a.ord.length - o) (fun o => [(7, .i fun _ => ((o : Nat) : Int))]) (fun o h => h) 0 (fun _ => by first | rfl | simp) ⟨Nat.zero_le _, ?_⟩ ?_ fun o ho I3 hI3 => ?_
  · intro j hj; omega
  · cbv; simp
  cbv
  obtain ⟨ho, hpo⟩ := ho
  have ke3 := kids_ok (γ := γ) (a.ord.getD o []) (b.ord.getD o []) (ors_le ha o)
  repeat' (first
    | (refine hI3 (o + 1) ?_ ?_ ?_; rotate_left 1; (· ((try simp only [nc] at *); omega)); (cbv; clear hI3; (try clear hF); (try simp only [nc] at *); (try simp (disch := (first | omega | (simp only [lnS, zA, zM, zG, zP, mks_len]; omega))) only [nc, nct, w64_of, zT, zZ, zM, rdS, at_agg, bofZ, bof1, bof0, zC, zS, mks_len, mks_get, implies_true, and_true, true_and, forall_const])); rotate_left 1; (try ((try simp only [nc] at *); omega)))
    | (refine E.c (SCalls.of_le (ke3) ?_ ?_); (· (cbv; (try simp only [nc] at *); first | done | (simp; done) | (simp (disch := (first | omega | (simp only [lnS, zA, zM, zG, zP, mks_len]; omega))) only [nc, nct, w64_of, zT, zZ, zM, rdS, at_agg, bofZ, bof1, bof0, zC, zS, mks_len, mks_get, implies_true, and_true, true_and, forall_const]; first | done | omega | (refine ⟨?_, ?_⟩ <;> omega)) | (simp (disch := (first | omega | (simp only [lnS, zA, zM, zG, zP, mks_len]; omega))) [nc, nct, w64_of, zT, zZ, zM, rdS, at_agg, bofZ, bof1, bof0, zC, zS, mks_len, mks_get]; done))); cbv)
    | (refine E.q (QCalls.of_le (ke3) ?_ ?_); (· (cbv; (try simp only [nc] at *); first | done | (simp; done) | (simp (disch := (first | omega | (simp only [lnS, zA, zM, zG, zP, mks_len]; omega))) only [nc, nct, w64_of, zT, zZ, zM, rdS, at_agg, bofZ, bof1, bof0, zC, zS, mks_len, mks_get, implies_true, and_true, true_and, forall_const]; first | done | omega | (refine ⟨?_, ?_⟩ <;> omega)) | (simp (disch := (first | omega | (simp only [lnS, zA, zM, zG, zP, mks_len]; omega))) [nc, nct, w64_of, zT, zZ, zM, rdS, at_agg, bofZ, bof1, bof0, zC, zS, mks_len, mks_get]; done))); cbv)
    | (refine E.c (SCalls.of_le (ke3) ?_ ?_); (· (cbv; (try simp only [nc] at *); first | done | (simp; done) | (simp (disch := (first | omega | (simp only [lnS, zA, zM, zG, zP, mks_len]; omega))) only [nc, nct, w64_of, zT, zZ, zM, rdS, at_agg, bofZ, bof1, bof0, zC, zS, mks_len, mks_get, implies_true, and_true, true_and, forall_const]; first | done | omega | (refine ⟨?_, ?_⟩ <;> omega)) | (simp (disch := (first | omega | (simp only [lnS, zA, zM, zG, zP, mks_len]; omega))) [nc, nct, w64_of, zT, zZ, zM, rdS, at_agg, bofZ, bof1, bof0, zC, zS, mks_len, mks_get]; done))); cbv)
    | (refine ⟨fun _ h_s => ?_, fun _ h_s => ?_⟩ <;> (cbv; (try simp only [nc] at *); try simp (disch := (first | omega | (simp only [lnS, zA, zM, zG, zP, mks_len]; omega))) only [nc, nct, w64_of, zT, zZ, zM, rdS, at_agg, bofZ, bof1, bof0, zC, zS, mks_len, mks_get, reduceCtorEq, Bool.not_true, Bool.not_false, zD, zE, zB, zF, zN, zO, ne_eq, zQ, zL, zR, beq_iff_eq] at h_s))
    | (refine hF ?_; intro _; clear hF)
    | (refine hF ?_; cbv; clear hF)
    | (refine ⟨fun _ => ?_, ?_⟩; (· ((try simp only [nc] at *); first | done | omega | exact ⟨by omega, rfl⟩ | (simp (disch := (first | omega | (simp only [lnS, zA, zM, zG, zP, mks_len]; omega))) only [nc, nct, w64_of, zT, zZ, zM, rdS, at_agg, bofZ, bof1, bof0, zC, zS, mks_len, mks_get]; first | done | omega | rfl | exact ⟨by omega, rfl⟩ | (simp; done) | (simp; omega)) | (intros; trivial))); (try (simp only [nc] at *)); (try simp (disch := (first | omega | (simp only [lnS, zA, zM, zG, zP, mks_len]; omega))) only [nc, nct, w64_of, zT, zZ, zM, rdS, at_agg, bofZ, bof1, bof0, zC, zS, mks_len, mks_get]); (try cbv))
    | (refine E.d 10 (by decide +kernel) ?_; cbv; (fail_if_success guard_target =~ False))
    | fail
  )
  · exact (n4 fun e => by rw [e] at h_s; simp at h_s).symm
  · refine ⟨by ((try simp only [nc] at *); omega), fun j hj => ?_⟩
    rcases Nat.lt_or_ge j o with h1 | h1
    · exact hpo j h1
    · obtain rfl : j = o := by omega
      simpa using h_s
  · push_cast; rfl
  have z4 : a.ord = b.ord := list_same _ _ [] (by ((try simp only [nc] at *); omega)) fun j hj => hpo j (by ((try simp only [nc] at *); omega))
  exact (ny (by assumption) z2 z3 z4).symm
theorem kstate_ok (a b : Sta) (ha : Rd a.g) (hb : Rd b.g) (hm : (a.ms.length : Int) ≤ 9223372036854775807) : Pure Tryd.prog γ false 14 [aSt a, aSt b] (.b fun _ => sameG a.g b.g && decide (a.ms = b.ms) && decide (a.half = b.half)) := by
  have k1 := kgraph_ok (γ := γ) a.g b.g ha hb
  have k2 := kmarks_ok (γ := γ) a.ms b.ms hm
  generalize sameG a.g b.g = z at *
  refine Pure.go (ty := ty) ty_eq mo Tryd.func14 rfl Tryd.ntmps14 Tryd.results14 Tryd.call14 (by simp) fun P C CQ D W F E hF => ?_
  cbv
  repeat' (first
    | (refine E.c (SCalls.of_le (k2) ?_ ?_); (· (cbv; (try simp only [nc] at *); first | done | (simp; done) | (simp (disch := (first | omega | (simp only [lnS, zA, zM, zG, zP, mks_len]; omega))) only [nc, nct, w64_of, zT, zZ, zM, rdS, at_agg, bofZ, bof1, bof0, zC, zS, mks_len, mks_get, implies_true, and_true, true_and, forall_const]; first | done | omega | (refine ⟨?_, ?_⟩ <;> omega)) | (simp (disch := (first | omega | (simp only [lnS, zA, zM, zG, zP, mks_len]; omega))) [nc, nct, w64_of, zT, zZ, zM, rdS, at_agg, bofZ, bof1, bof0, zC, zS, mks_len, mks_get]; done))); cbv)
    | (refine E.c (SCalls.of_le (k1) ?_ ?_); (· (cbv; (try simp only [nc] at *); first | done | (simp; done) | (simp (disch := (first | omega | (simp only [lnS, zA, zM, zG, zP, mks_len]; omega))) only [nc, nct, w64_of, zT, zZ, zM, rdS, at_agg, bofZ, bof1, bof0, zC, zS, mks_len, mks_get, implies_true, and_true, true_and, forall_const]; first | done | omega | (refine ⟨?_, ?_⟩ <;> omega)) | (simp (disch := (first | omega | (simp only [lnS, zA, zM, zG, zP, mks_len]; omega))) [nc, nct, w64_of, zT, zZ, zM, rdS, at_agg, bofZ, bof1, bof0, zC, zS, mks_len, mks_get]; done))); cbv)
    | (refine ⟨fun _ h_s => ?_, fun _ h_s => ?_⟩ <;> (cbv; (try simp only [nc] at *); try simp (disch := (first | omega | (simp only [lnS, zA, zM, zG, zP, mks_len]; omega))) only [nc, nct, w64_of, zT, zZ, zM, rdS, at_agg, bofZ, bof1, bof0, zC, zS, mks_len, mks_get, reduceCtorEq, Bool.not_true, Bool.not_false, zD, zE, zB, zF, zN, zO, ne_eq, zQ, zL, zR, beq_iff_eq] at h_s))
    | (refine hF ?_; intro _; clear hF)
    | (refine hF ?_; cbv; clear hF)
    | (refine ⟨fun _ => ?_, ?_⟩; (· ((try simp only [nc] at *); first | done | omega | exact ⟨by omega, rfl⟩ | (simp (disch := (first | omega | (simp only [lnS, zA, zM, zG, zP, mks_len]; omega))) only [nc, nct, w64_of, zT, zZ, zM, rdS, at_agg, bofZ, bof1, bof0, zC, zS, mks_len, mks_get]; first | done | omega | rfl | exact ⟨by omega, rfl⟩ | (simp; done) | (simp; omega)) | (intros; trivial))); (try (simp only [nc] at *)); (try simp (disch := (first | omega | (simp only [lnS, zA, zM, zG, zP, mks_len]; omega))) only [nc, nct, w64_of, zT, zZ, zM, rdS, at_agg, bofZ, bof1, bof0, zC, zS, mks_len, mks_get]); (try cbv))
    | fail
  )
  all_goals (simp_all; done)
def lightS (mx : Int) (s : Sta) : Bool := lightM mx s.g && decide ((s.ms.length : Int) ≤ 3 * mx)
theorem klight_ok (s : Sta) (hg : Rd s.g) (hm : (s.ms.length : Int) ≤ 9223372036854775807) : Pure Tryd.prog γ false 13 [aSt s, .i fun _ => 60] (.b fun _ => lightS 60 s) := by
  have k1 := light_ok (γ := γ) s.g hg 60 (by omega) (by omega)
  unfold lightS
  generalize lightM 60 s.g = z at *
  refine Pure.go (ty := ty) ty_eq mo Tryd.func13 rfl Tryd.ntmps13 Tryd.results13 Tryd.call13 (by simp) fun P C CQ D W F E hF => ?_
  cbv
  repeat' (first
    | (refine E.c (SCalls.of_le (k1) ?_ ?_); (· (cbv; (try simp only [nc] at *); first | done | (simp; done) | (simp (disch := (first | omega | (simp only [lnS, zA, zM, zG, zP, mks_len]; omega))) only [nc, nct, w64_of, zT, zZ, zM, rdS, at_agg, bofZ, bof1, bof0, zC, zS, mks_len, mks_get, implies_true, and_true, true_and, forall_const]; first | done | omega | (refine ⟨?_, ?_⟩ <;> omega)) | (simp (disch := (first | omega | (simp only [lnS, zA, zM, zG, zP, mks_len]; omega))) [nc, nct, w64_of, zT, zZ, zM, rdS, at_agg, bofZ, bof1, bof0, zC, zS, mks_len, mks_get]; done))); cbv)
    | (refine ⟨fun _ h_s => ?_, fun _ h_s => ?_⟩ <;> (cbv; (try simp only [nc] at *); try simp (disch := (first | omega | (simp only [lnS, zA, zM, zG, zP, mks_len]; omega))) only [nc, nct, w64_of, zT, zZ, zM, rdS, at_agg, bofZ, bof1, bof0, zC, zS, mks_len, mks_get, reduceCtorEq, Bool.not_true, Bool.not_false, zD, zE, zB, zF, zN, zO, ne_eq, zQ, zL, zR, beq_iff_eq] at h_s))
    | (refine hF ?_; intro _; clear hF)
    | (refine hF ?_; cbv; clear hF)
    | (refine ⟨fun _ => ?_, ?_⟩; (· ((try simp only [nc] at *); first | done | omega | exact ⟨by omega, rfl⟩ | (simp (disch := (first | omega | (simp only [lnS, zA, zM, zG, zP, mks_len]; omega))) only [nc, nct, w64_of, zT, zZ, zM, rdS, at_agg, bofZ, bof1, bof0, zC, zS, mks_len, mks_get]; first | done | omega | rfl | exact ⟨by omega, rfl⟩ | (simp; done) | (simp; omega)) | (intros; trivial))); (try (simp only [nc] at *)); (try simp (disch := (first | omega | (simp only [lnS, zA, zM, zG, zP, mks_len]; omega))) only [nc, nct, w64_of, zT, zZ, zM, rdS, at_agg, bofZ, bof1, bof0, zC, zS, mks_len, mks_get]); (try cbv))
    | fail
  )
  · rw [show z = true by assumption, Bool.true_and, mks_len, w64_of (by omega) (by omega)]
  · rw [show z = false by simpa using h_s]; rfl
end Go.AL.Rl

namespace Go.AL
open Go Go.RowKit
section
variable {P : Program} {γ : Nat → Option AV}

theorem HeapR.grow {B : Nat} {S : Nat → Prop} {ρ : List Loc} {h : List Blk} {w : World} (hh : HeapR B S γ ρ h w) (K : Nat) (hK : K < w.heap.size) (hB : B ≤ K) (hno : ∀ (b : Nat) (loc : Loc), ρ[b]? = some loc → loc.k ≠ some K) :
    HeapR B (fun k => S k ∨ k = K) γ ρ h w ∧ Ext B S ρ w (fun k => S k ∨ k = K) ρ w := by
  refine ⟨⟨hh.len, fun b blk loc h1 h2 => (hh.blk b blk loc h1 h2).mono (fun k hk => .inl hk) (fun _ _ => rfl) (LocsUp.refl ρ) fun _ _ => rfl, fun b loc k h1 h2 => ?_, hh.inj, fun k hk => ?_, fun g x hg => ?_, hh.bsz⟩,
    Fr.refl w, fun _ _ => rfl, fun k hk => .inl hk, fun _ _ => rfl, LocsUp.refl ρ, fun k hk => ?_⟩
  · obtain ⟨k1, k2, k3⟩ := hh.own b loc k h1 h2
    refine ⟨fun hs => ?_, k2, k3⟩
    rcases hs with hs | hs
    · exact k1 hs
    · exact hno b loc h1 (by rw [h2, hs])
  · rcases hk with hk | hk
    · exact hh.sle k hk
    · rw [hk]; exact hK
  · exact R.mono (S := S) (fun k hk => .inl hk) (fun _ _ => rfl) (ρ := none) (ρ' := none) trivial _ _ (hh.gok g x hg)
  · rcases hk with hk | hk
    · exact .inl hk
    · rw [hk]; exact .inr hB
/-- the one own run, alone -/
theorem HeapR.give {B : Nat} {S : Nat → Prop} {ρ : List Loc} {h : List Blk} {w : World} (hh : HeapR B S γ ρ h w) {b g q : Nat} {es : Unit → LV} (hb : h[b]? = some (.run g q es)) {len : Unit → Nat} (hlen : len () = (es ()).l.length) {v : Value} (hv : R S w (some ρ) (.sl b g q (fun _ => 0) len) v) :
    ∃ S' ρ', HeapR B S' γ ρ' (h.set b (.run (g + 1) q fun _ => .nil)) w ∧ Ext B S ρ w S' ρ' w ∧ R S' w none (.vs q es) v := by
  obtain ⟨l, loc, a, cap, hl, q1, q2, q3, q4, rfl, q6, q7, q8⟩ := hv
  cases hl
  have hblk := hh.blk b _ loc hb q1
  obtain ⟨_, d2, d3, bvs, d4, d5, d6⟩ := hblk
  have hblen : bvs.length = len () := by rw [hlen]; exact Rs_len ((RL_iff _ _ _ _).1 d4)
  obtain ⟨p1, p2⟩ := hh.upd (loc' := { loc with g := g + 1, k := none, size := 0 }) (blk' := .run (g + 1) q fun _ => .nil) (w' := w) q1 (.inr (.inl ⟨q2, q2, by show loc.g < g + 1; omega, rfl⟩)) (fun K' hK' => by cases hK') (Fr.refl w) (fun _ _ _ => rfl)
    ⟨q2, rfl, q3, [], rfl, fun e he => (by cases he), .inl ⟨rfl, rfl⟩⟩
  rcases d6 with ⟨e1, rfl⟩ | ⟨K, cc, cty, e1, e2, e3, e4, e5⟩
  · refine ⟨S, _, p1, p2, a, cap, [], ?_, by simp, d4, .inl rfl⟩
    rw [← hblen]
  · obtain ⟨k1, k2, k3⟩ := hh.own b loc K q1 e1
    have hblt : b < ρ.length := (List.getElem?_eq_some_iff.1 q1).1
    obtain ⟨g1, g2⟩ := p1.grow K k2 k3 (fun c l hl hk => by
      by_cases e : b = c
      · subst e; rw [List.getElem?_set_self hblt] at hl; cases hl; cases hk
      · rw [List.getElem?_set_ne e] at hl
        exact e (hh.inj b c loc l K q1 hl e1 hk))
    refine ⟨_, _, g1, p2.trans g2, a, cap, bvs, by rw [hblen], by rw [hblen]; exact q6, RL.mono (fun k hk => .inl hk) (fun _ _ => rfl) _ _ d4, ?_⟩
    by_cases hz : bvs = []
    · exact .inl hz
    · right
      have hpos : 0 < bvs.length := List.length_pos_iff.2 hz
      rcases q8 d2 with ⟨z1, _⟩ | ⟨K', z1, z2, z3⟩
      · rw [z1] at e1; cases e1
      · rw [z1] at e1; cases e1
        rcases z2 with z2 | z2
        · omega
        · refine ⟨_, z2, rfl, .inr rfl, fun i e he => ?_⟩
          obtain ⟨s1, s2⟩ := e5 i e he
          refine ⟨s1.trans q3, fun j c hc => ?_⟩
          have := s2 j c hc
          rw [q3] at this
          have hlt : i * q + j < cc.size := (Array.getElem?_eq_some_iff.1 this).1
          simp only [Nat.zero_mul, Nat.zero_add]
          rw [cell_heap e2]; exact this
theorem SCalls.frz {f : FuncId} {x x' : AV} {y : AV} {h : List Blk} {b g q : Nat} {es es' : Unit → LV} {len off : Unit → Nat} {Q : AV → List Blk → Prop} (hp : Pure P γ false f [x', .vs q es'] y) (hb : h[b]? = some (.run g q es)) (hc : ∀ _ : Unit, off () = 0 ∧ len () = (es ()).l.length ∧ (es ()).l = (es' ()).l) (hx : leVs 0 [x'] [x])
    (hk : Q y (h.set b (.run (g + 1) q fun _ => .nil))) : SCalls P γ f [x, .sl b g q off len] h Q := by
  obtain ⟨ho, hlen, he⟩ := hc ()
  obtain rfl : off = fun _ => 0 := funext fun _ => ho
  obtain rfl : es = es' := funext fun _ => l_inj he
  refine ⟨hp.1, fun B S ρ w vals hh hr => ?_⟩
  obtain ⟨v1, vs1, rfl, r1, v2, vs2, rfl, r2, r3⟩ := hr
  have r3 : vs2 = [] := r3
  subst r3
  obtain ⟨S', ρ', h1, h2, h3⟩ := hh.give hb hlen r2
  have hx1 : Rs S w none [x'] [v1] := Rs_stable _ _ (leVs_stable _ _ hx) (Rs_le (n := 0) (S := S) (w := w) (ρ := ρ) _ _ _ hx ⟨v1, [], rfl, r1, rfl⟩)
  have hx2 : Rs S' w none [x'] [v1] := Rs.mono h2.sub h2.same (ρ := none) (ρ' := none) trivial _ _ hx1
  obtain ⟨u, us, hu, u1, u2⟩ := hx2
  cases hu
  refine (hp.2 S' w [v1, v2] h1.sle h1.gok ⟨v1, [v2], rfl, u1, v2, [], rfl, h3, rfl⟩).mono fun e w' ⟨v', S'', k1, k2, k3⟩ => ?_
  have k3 := k3.of_false
  exact ⟨y, _, S'', ρ', v', k1, hk, R.mono (S := S'') (fun _ h => h) (fun _ _ => rfl) (ρ := none) (ρ' := some ρ') trivial _ _ k2, h1.q k3, h2.trans (h1.ext k3)⟩
end
end Go.AL

namespace Go.AL.Rl
open Go Go.AL Go.Proofs
set_option maxRecDepth 100000
set_option maxHeartbeats 3200000
variable {γ : Nat → Option AV}

theorem rd_ok {g : Gr} (hg : GOk g) : Rd g := by
  have hs := hg.short
  have h1 := hs.th
  have h2 := hs.init
  have h3 := hg.lfr
  have h4 := hg.lord
  refine ⟨by omega, by omega, by omega, by omega, fun l hl => ?_, fun l hl => ?_, fun l hl => ?_⟩
  · have := hs.ths l hl; omega
  · obtain ⟨t, ht, e⟩ := List.getElem_of_mem hl
    have h5 := (hg.events t (by omega)).1
    have h6 := hs.at t
    rw [show g.fr.getD t [] = l by simp [ht, e]] at h5
    omega
  · obtain ⟨x, hx, e⟩ := List.getElem_of_mem hl
    have h5 := hg.orders x (by omega)
    unfold orderedM at h5
    rw [Bool.and_eq_true, decide_eq_true_eq, decide_eq_true_eq] at h5
    have h6 := cntT_le (x : Int) hs.ths
    have h7 := h5.2
    rw [show g.ord.getD x [] = l by simp [hx, e]] at h7
    omega
theorem numK_nd {ms : List Mk} (hn : ms.Nodup) {k : Nat} (hk : k < ms.length) : numK ms (ms.getD k mk0) = k := by
  refine numK_at hk rfl fun j hj e => ?_
  have h1 := plK_at hn hk
  have h2 := plK_at hn (k := j) (by omega)
  rw [e] at h2
  omega
theorem numK_pw {ms : List Mk} (hn : ms.Nodup) : ms.Pairwise fun x y => numK ms x < numK ms y := by
  rw [List.pairwise_iff_getElem]
  intro i j hi hj hij
  have h1 := numK_nd hn hi
  have h2 := numK_nd hn hj
  rw [show ms.getD i mk0 = ms[i] by simp [hi]] at h1
  rw [show ms.getD j mk0 = ms[j] by simp [hj]] at h2
  omega
def lastW (L M : List Mk) : Nat → Int
  | 0 => -1
  | k + 1 => numK L (M.getD k mk0)
theorem lastW_lt {L : List Mk} (hn : L.Nodup) (p : Mk → Bool) (i : Nat) (hi : i < (L.filter p).length) : lastW L (L.filter p) i < numK L ((L.filter p).getD i mk0) := by
  have hp := (numK_pw hn).sublist (List.filter_sublist (p := p))
  rw [List.pairwise_iff_getElem] at hp
  cases i with
  | zero =>
    obtain ⟨k, hk, e⟩ := List.getElem_of_mem ((List.filter_sublist (p := p)).subset (getD_mem (d := mk0) hi))
    have := numK_nd hn hk
    rw [show L.getD k mk0 = (L.filter p).getD 0 mk0 by rw [← e]; simp [hk]] at this
    show -1 < numK L ((L.filter p).getD 0 mk0)
    rw [this]; omega
  | succ k =>
    have := hp k (k + 1) (by omega) hi (by omega)
    unfold lastW
    simpa [hi, show k < (L.filter p).length by omega] using this
theorem close_len (g : Gr) (l : List EId) : (closeM g l).length ≤ 64 := by
  unfold closeM; split
  · exact tell_len _ _
  · simp
theorem ids_flat (l : List EId) : ∀ v ∈ (ids l).l, v.flat = true := by
  intro v hv
  simp only [ids, LV.l_of, List.mem_map] at hv
  obtain ⟨x, _, rfl⟩ := hv
  rfl
theorem prefixTwice_ok (hγ : γ 0 = some tabAV) (s : Sta) (hg : Rd s.g) (hm : (s.ms.length : Int) ≤ 9223372036854775807) (l m : List EId) : Pure Tryd.prog γ false 4 [aSt s, .vs 2 fun _ => ids l, .vs 2 fun _ => ids m] (.b fun _ => true) := by
  have kv := lives18_ok (γ := γ) hγ
  have ki := klight_ok (γ := γ) s hg hm
  by_cases hli : lightS 60 s = true
  · rw [hli] at ki
    have hml : (s.ms.length : Int) ≤ 180 := by
      unfold lightS at hli
      rw [Bool.and_eq_true, decide_eq_true_eq] at hli
      omega
    have kc := pcheck_ok (γ := γ) s hg (by omega)
    by_cases hs : SOk s
    · rw [show pcheckM s = 0 from if_pos hs] at kc
      by_cases hll : l.length ≤ 60 ∧ m.length ≤ 60
      · obtain ⟨hl, hl2⟩ := hll
        have k1 := pclose_ok (γ := γ) hγ s.g hg l (by omega)
        have k2 := pclose_ok (γ := γ) hγ s.g hg (l ++ m) (by simp; omega)
        have c1 := close_cl hs.1 l
        have c2 := close_cl hs.1 (l ++ m)
        have c3 : ∀ d ∈ closeM s.g l, d ∈ closeM s.g (l ++ m) := fun d hd => close_mono (fun d hd => List.mem_append.2 (.inl hd)) hd
        have l1 := close_len s.g l
        have l2 := close_len s.g (l ++ m)
        generalize closeM s.g l = less at *
        generalize closeM s.g (l ++ m) = more at *
        have q1 := pcut_ok (γ := γ) hγ s hg (by omega) more (by omega)
        have q3 := pcut_ok (γ := γ) hγ s hg (by omega) less (by omega)
        have z1 := (closedG_iff s.g more).2 ⟨hs.1, c2⟩
        have z3 := (closedG_iff s.g less).2 ⟨hs.1, c1⟩
        rw [if_pos ⟨hs, z1⟩, if_pos ⟨hs, z1⟩] at q1
        rw [if_pos ⟨hs, z3⟩, if_pos ⟨hs, z3⟩] at q3
        have ha := cut_ok hs c2
        have hc := cut_ok hs c1
        have hcc := cut_cut hs c2 c1 c3
        have z2 := (closedG_iff (cutM s more).g less).2 ⟨ha.1, k_cl hs.1 c2 c1 c3⟩
        have hn : s.ms.Nodup := ((marked_iff s.g s.ms).1 hs.2.1).1.nodup_iff.1 (allN_nodup s.g)
        have hw := fun i => lastW_lt hn (keptM (keepM s.g more)) i
        have hal : (cutM s more).ms.length ≤ s.ms.length := List.length_filter_le _ _
        have hcl : (cutM s less).ms.length ≤ s.ms.length := List.length_filter_le _ _
        have hms : (cutM s more).ms = s.ms.filter (keptM (keepM s.g more)) := rfl
        rw [← hms] at hw
        generalize cutM s more = a at *
        have q2 := pcut_ok (γ := γ) hγ a (rd_ok ha.1) (by omega) less (by omega)
        rw [if_pos ⟨ha, z2⟩, if_pos ⟨ha, z2⟩, hcc] at q2
        have kca := pcheck_ok (γ := γ) a (rd_ok ha.1) (by omega)
        rw [show pcheckM a = 0 from if_pos ha] at kca
        generalize cutM s less = c at *
        have kst := kstate_ok (γ := γ) c c (rd_ok hc.1) (rd_ok hc.1) (by omega)
        rw [sameG_self, decide_eq_true rfl, decide_eq_true rfl] at kst
        have kw := fun d => when_ok (γ := γ) s d hm
        obtain ⟨Wn, hWn⟩ : ∃ f : Mk → Int, f = numK s.ms := ⟨_, rfl⟩
        rw [← hWn] at kw
        refine Pure.go (ty := ty) ty_eq mo Tryd.func4 rfl Tryd.ntmps4 Tryd.results4 Tryd.call4 (by simp) fun P C CQ D W F E hF => ?_
        cbv
        skip
        repeat' (first
          | (refine E.de 7 [] [some 2] (by decide +kernel) ?_; cbv; (fail_if_success guard_target =~ False))
          | (refine E.c (SCalls.of_le (k1) ?_ ?_); (· (cbv; (try simp only [nc] at *); first | done | (simp; done) | (simp (disch := (first | omega | (simp only [lnS, zA, zM, zG, zP]; omega))) only [nc, nct, w64_of, zT, zZ, zM, rdS, at_agg, bofZ, bof1, bof0, zC, zS, implies_true, and_true, true_and, forall_const]; first | done | omega | (refine ⟨?_, ?_⟩ <;> omega)) | (simp (disch := (first | omega | (simp only [lnS, zA, zM, zG, zP]; omega))) [nc, nct, w64_of, zT, zZ, zM, rdS, at_agg, bofZ, bof1, bof0, zC, zS]; done))); cbv)
          | (refine E.c (SCalls.of_le (kc) ?_ ?_); (· (cbv; (try simp only [nc] at *); first | done | (simp; done) | (simp (disch := (first | omega | (simp only [lnS, zA, zM, zG, zP]; omega))) only [nc, nct, w64_of, zT, zZ, zM, rdS, at_agg, bofZ, bof1, bof0, zC, zS, implies_true, and_true, true_and, forall_const]; first | done | omega | (refine ⟨?_, ?_⟩ <;> omega)) | (simp (disch := (first | omega | (simp only [lnS, zA, zM, zG, zP]; omega))) [nc, nct, w64_of, zT, zZ, zM, rdS, at_agg, bofZ, bof1, bof0, zC, zS]; done))); cbv)
          | (refine E.c (SCalls.of_le (ki) ?_ ?_); (· (cbv; (try simp only [nc] at *); first | done | (simp; done) | (simp (disch := (first | omega | (simp only [lnS, zA, zM, zG, zP]; omega))) only [nc, nct, w64_of, zT, zZ, zM, rdS, at_agg, bofZ, bof1, bof0, zC, zS, implies_true, and_true, true_and, forall_const]; first | done | omega | (refine ⟨?_, ?_⟩ <;> omega)) | (simp (disch := (first | omega | (simp only [lnS, zA, zM, zG, zP]; omega))) [nc, nct, w64_of, zT, zZ, zM, rdS, at_agg, bofZ, bof1, bof0, zC, zS]; done))); cbv)
          | (refine E.c (SCalls.of_le (kv) ?_ ?_); (· (cbv; (try simp only [nc] at *); first | done | (simp; done) | (simp (disch := (first | omega | (simp only [lnS, zA, zM, zG, zP]; omega))) only [nc, nct, w64_of, zT, zZ, zM, rdS, at_agg, bofZ, bof1, bof0, zC, zS, implies_true, and_true, true_and, forall_const]; first | done | omega | (refine ⟨?_, ?_⟩ <;> omega)) | (simp (disch := (first | omega | (simp only [lnS, zA, zM, zG, zP]; omega))) [nc, nct, w64_of, zT, zZ, zM, rdS, at_agg, bofZ, bof1, bof0, zC, zS]; done))); cbv)
          | (refine ⟨fun _ h_s => ?_, fun _ h_s => ?_⟩ <;> (cbv; (try simp only [nc] at *); try simp (disch := (first | omega | (simp only [lnS, zA, zM, zG, zP]; omega))) only [nc, nct, w64_of, zT, zZ, zM, rdS, at_agg, bofZ, bof1, bof0, zC, zS, reduceCtorEq, Bool.not_true, Bool.not_false, zD, zE, zB, zF, zN, zO, ne_eq, zQ, zL, zR, beq_iff_eq] at h_s))
          | (refine hF ?_; intro _; clear hF)
          | (refine hF ?_; cbv; clear hF)
          | (refine ⟨fun _ => ?_, ?_⟩; (· ((try simp only [nc] at *); first | done | omega | exact ⟨by omega, rfl⟩ | (simp (disch := (first | omega | (simp only [lnS, zA, zM, zG, zP]; omega))) only [nc, nct, w64_of, zT, zZ, zM, rdS, at_agg, bofZ, bof1, bof0, zC, zS]; first | done | omega | rfl | exact ⟨by omega, rfl⟩ | (simp; done) | (simp; omega)) | (intros; trivial) | exact ⟨by first | trivial | rfl, by first | trivial | rfl, by first | trivial | rfl | (simp [LV.l]; done), by simp [LV.l]; omega, by simp [LV.l]; omega, ids_flat _⟩)); (try (simp only [nc] at *)); (try simp (disch := (first | omega | (simp only [lnS, zA, zM, zG, zP]; omega))) only [nc, nct, w64_of, zT, zZ, zM, rdS, at_agg, bofZ, bof1, bof0, zC, zS]); (try cbv))
          | (refine E.d 6 (by decide +kernel) ?_; cbv; (fail_if_success guard_target =~ False))
          | fail
        )
        · rfl
        · rfl
        · rfl
        refine E.c (SCalls.frz k2 rfl ?_ ?_ ?_)
        · intro _; exact ⟨rfl, by simp [LV.l], by simp [LV.l, ids]⟩
        · cbv; simp
        cbv
        repeat' (first
          | (refine E.c (SCalls.of_le (kst) ?_ ?_); (· (cbv; (try simp only [nc] at *); first | done | (simp; done) | (simp (disch := (first | omega | (simp only [lnS, zA, zM, zG, zP]; omega))) only [nc, nct, w64_of, zT, zZ, zM, rdS, at_agg, bofZ, bof1, bof0, zC, zS, implies_true, and_true, true_and, forall_const]; first | done | omega | (refine ⟨?_, ?_⟩ <;> omega)) | (simp (disch := (first | omega | (simp only [lnS, zA, zM, zG, zP]; omega))) [nc, nct, w64_of, zT, zZ, zM, rdS, at_agg, bofZ, bof1, bof0, zC, zS]; done))); cbv)
          | (refine E.c (SCalls.of_le (kca) ?_ ?_); (· (cbv; (try simp only [nc] at *); first | done | (simp; done) | (simp (disch := (first | omega | (simp only [lnS, zA, zM, zG, zP]; omega))) only [nc, nct, w64_of, zT, zZ, zM, rdS, at_agg, bofZ, bof1, bof0, zC, zS, implies_true, and_true, true_and, forall_const]; first | done | omega | (refine ⟨?_, ?_⟩ <;> omega)) | (simp (disch := (first | omega | (simp only [lnS, zA, zM, zG, zP]; omega))) [nc, nct, w64_of, zT, zZ, zM, rdS, at_agg, bofZ, bof1, bof0, zC, zS]; done))); cbv)
          | (refine E.c (SCalls.of_le (q3) ?_ ?_); (· (cbv; (try simp only [nc] at *); first | done | (simp; done) | (simp (disch := (first | omega | (simp only [lnS, zA, zM, zG, zP]; omega))) only [nc, nct, w64_of, zT, zZ, zM, rdS, at_agg, bofZ, bof1, bof0, zC, zS, implies_true, and_true, true_and, forall_const]; first | done | omega | (refine ⟨?_, ?_⟩ <;> omega)) | (simp (disch := (first | omega | (simp only [lnS, zA, zM, zG, zP]; omega))) [nc, nct, w64_of, zT, zZ, zM, rdS, at_agg, bofZ, bof1, bof0, zC, zS]; done))); cbv)
          | (refine E.c (SCalls.of_le (q2) ?_ ?_); (· (cbv; (try simp only [nc] at *); first | done | (simp; done) | (simp (disch := (first | omega | (simp only [lnS, zA, zM, zG, zP]; omega))) only [nc, nct, w64_of, zT, zZ, zM, rdS, at_agg, bofZ, bof1, bof0, zC, zS, implies_true, and_true, true_and, forall_const]; first | done | omega | (refine ⟨?_, ?_⟩ <;> omega)) | (simp (disch := (first | omega | (simp only [lnS, zA, zM, zG, zP]; omega))) [nc, nct, w64_of, zT, zZ, zM, rdS, at_agg, bofZ, bof1, bof0, zC, zS]; done))); cbv)
          | (refine E.c (SCalls.of_le (q1) ?_ ?_); (· (cbv; (try simp only [nc] at *); first | done | (simp; done) | (simp (disch := (first | omega | (simp only [lnS, zA, zM, zG, zP]; omega))) only [nc, nct, w64_of, zT, zZ, zM, rdS, at_agg, bofZ, bof1, bof0, zC, zS, implies_true, and_true, true_and, forall_const]; first | done | omega | (refine ⟨?_, ?_⟩ <;> omega)) | (simp (disch := (first | omega | (simp only [lnS, zA, zM, zG, zP]; omega))) [nc, nct, w64_of, zT, zZ, zM, rdS, at_agg, bofZ, bof1, bof0, zC, zS]; done))); cbv)
          | (refine ⟨fun _ h_s => ?_, fun _ h_s => ?_⟩ <;> (cbv; (try simp only [nc] at *); try simp (disch := (first | omega | (simp only [lnS, zA, zM, zG, zP]; omega))) only [nc, nct, w64_of, zT, zZ, zM, rdS, at_agg, bofZ, bof1, bof0, zC, zS, reduceCtorEq, Bool.not_true, Bool.not_false, zD, zE, zB, zF, zN, zO, ne_eq, zQ, zL, zR, beq_iff_eq] at h_s))
          | (refine hF ?_; intro _; clear hF)
          | (refine hF ?_; cbv; clear hF)
          | (refine ⟨fun _ => ?_, ?_⟩; (· ((try simp only [nc] at *); first | done | omega | exact ⟨by omega, rfl⟩ | (simp (disch := (first | omega | (simp only [lnS, zA, zM, zG, zP]; omega))) only [nc, nct, w64_of, zT, zZ, zM, rdS, at_agg, bofZ, bof1, bof0, zC, zS]; first | done | omega | rfl | exact ⟨by omega, rfl⟩ | (simp; done) | (simp; omega)) | (intros; trivial) | exact ⟨by first | trivial | rfl, by first | trivial | rfl, by first | trivial | rfl | (simp [LV.l]; done), by simp [LV.l]; omega, by simp [LV.l]; omega, ids_flat _⟩)); (try (simp only [nc] at *)); (try simp (disch := (first | omega | (simp only [lnS, zA, zM, zG, zP]; omega))) only [nc, nct, w64_of, zT, zZ, zM, rdS, at_agg, bofZ, bof1, bof0, zC, zS]); (try cbv))
          | (refine E.d 6 (by decide +kernel) ?_; cbv; (fail_if_success guard_target =~ False))
          | fail
        )
        iterate 5 exact absurd h_s (by simp)
        clear q1 q2 q3 kca kst k1 k2 kc ki kv
        have hw0 : lastW s.ms a.ms 0 = -1 := rfl
        have hwS : ∀ k, lastW s.ms a.ms (k + 1) = Wn (a.ms.getD k mk0) := fun k => by rw [hWn]; rfl
        rw [← hWn] at hw
        generalize lastW s.ms a.ms = V at *
        skip
        refine E.loopS (ι := Nat) (fun i => i ≤ a.ms.length) (fun i => a.ms.length - i) (fun i => [(16, .i fun _ => ((i : Nat) : Int)), (15, .i fun _ => V i)]) (fun i h => h) 0 (fun _ => by first | rfl | simp) (Nat.zero_le _) ?_ fun i hi I hI => ?_
        · cbv; simp [hw0]
        cbv
        have e1 := hw i
        have e2 := hwS i
        have kwi := kw (a.ms.getD i mk0)
        repeat' (first
          | (refine hI (i + 1) ?_ ?_ ?_; rotate_left 1; (· ((try simp only [nc] at *); omega)); (cbv; clear hI; (try clear hF); (try simp only [nc] at *); (try simp (disch := (first | omega | (simp only [lnS, zA, zM, zG, zP, mks_len]; omega))) only [nc, nct, w64_of, zT, zZ, zM, rdS, at_agg, bofZ, bof1, bof0, zC, zS, mks_len, mks_get, implies_true, and_true, true_and, forall_const])); rotate_left 1; (try ((try simp only [nc] at *); omega)))
          | (refine E.c (SCalls.of_le (kwi) ?_ ?_); (· (cbv; (try simp only [nc] at *); first | done | (simp; done) | (simp (disch := (first | omega | (simp only [lnS, zA, zM, zG, zP, mks_len]; omega))) only [nc, nct, w64_of, zT, zZ, zM, rdS, at_agg, bofZ, bof1, bof0, zC, zS, mks_len, mks_get, implies_true, and_true, true_and, forall_const]; first | done | omega | (refine ⟨?_, ?_⟩ <;> omega)) | (simp (disch := (first | omega | (simp only [lnS, zA, zM, zG, zP, mks_len]; omega))) [nc, nct, w64_of, zT, zZ, zM, rdS, at_agg, bofZ, bof1, bof0, zC, zS, mks_len, mks_get]; done))); cbv)
          | (refine E.q (QCalls.of_le (kwi) ?_ ?_); (· (cbv; (try simp only [nc] at *); first | done | (simp; done) | (simp (disch := (first | omega | (simp only [lnS, zA, zM, zG, zP, mks_len]; omega))) only [nc, nct, w64_of, zT, zZ, zM, rdS, at_agg, bofZ, bof1, bof0, zC, zS, mks_len, mks_get, implies_true, and_true, true_and, forall_const]; first | done | omega | (refine ⟨?_, ?_⟩ <;> omega)) | (simp (disch := (first | omega | (simp only [lnS, zA, zM, zG, zP, mks_len]; omega))) [nc, nct, w64_of, zT, zZ, zM, rdS, at_agg, bofZ, bof1, bof0, zC, zS, mks_len, mks_get]; done))); cbv)
          | (refine E.c (SCalls.of_le (kwi) ?_ ?_); (· (cbv; (try simp only [nc] at *); first | done | (simp; done) | (simp (disch := (first | omega | (simp only [lnS, zA, zM, zG, zP, mks_len]; omega))) only [nc, nct, w64_of, zT, zZ, zM, rdS, at_agg, bofZ, bof1, bof0, zC, zS, mks_len, mks_get, implies_true, and_true, true_and, forall_const]; first | done | omega | (refine ⟨?_, ?_⟩ <;> omega)) | (simp (disch := (first | omega | (simp only [lnS, zA, zM, zG, zP, mks_len]; omega))) [nc, nct, w64_of, zT, zZ, zM, rdS, at_agg, bofZ, bof1, bof0, zC, zS, mks_len, mks_get]; done))); cbv)
          | (refine ⟨fun _ h_s => ?_, fun _ h_s => ?_⟩ <;> (cbv; (try simp only [nc] at *); try simp (disch := (first | omega | (simp only [lnS, zA, zM, zG, zP, mks_len]; omega))) only [nc, nct, w64_of, zT, zZ, zM, rdS, at_agg, bofZ, bof1, bof0, zC, zS, mks_len, mks_get, reduceCtorEq, Bool.not_true, Bool.not_false, zD, zE, zB, zF, zN, zO, ne_eq, zQ, zL, zR, beq_iff_eq] at h_s))
          | (refine hF ?_; intro _; clear hF)
          | (refine hF ?_; cbv; clear hF)
          | (refine ⟨fun _ => ?_, ?_⟩; (· ((try simp only [nc] at *); first | done | omega | exact ⟨by omega, rfl⟩ | (simp (disch := (first | omega | (simp only [lnS, zA, zM, zG, zP, mks_len]; omega))) only [nc, nct, w64_of, zT, zZ, zM, rdS, at_agg, bofZ, bof1, bof0, zC, zS, mks_len, mks_get]; first | done | omega | rfl | exact ⟨by omega, rfl⟩ | (simp; done) | (simp; omega)) | (intros; trivial) | exact ⟨by first | trivial | rfl, by first | trivial | rfl, by first | trivial | rfl | (simp [LV.l]; done), by simp [LV.l]; omega, by simp [LV.l]; omega, ids_flat _⟩)); (try (simp only [nc] at *)); (try simp (disch := (first | omega | (simp only [lnS, zA, zM, zG, zP, mks_len]; omega))) only [nc, nct, w64_of, zT, zZ, zM, rdS, at_agg, bofZ, bof1, bof0, zC, zS, mks_len, mks_get]); (try cbv))
          | (refine E.d 6 (by decide +kernel) ?_; cbv; (fail_if_success guard_target =~ False))
          | fail
        )
        · exfalso
          have e3 : V i < Wn (a.ms.getD i ⟨⟨0, 0⟩, false⟩) := e1 (by ((try simp only [nc] at *); omega))
          omega
        · exact ⟨e2.symm, by push_cast; rfl⟩
        · rfl
      · refine Pure.go (ty := ty) ty_eq mo Tryd.func4 rfl Tryd.ntmps4 Tryd.results4 Tryd.call4 (by simp) fun P C CQ D W F E hF => ?_
        cbv
        repeat' (first
          | (refine E.c (SCalls.of_le (kc) ?_ ?_); (· (cbv; (try simp only [nc] at *); first | done | (simp; done) | (simp (disch := (first | omega | (simp only [lnS, zA, zM, zG, zP, mks_len]; omega))) only [nc, nct, w64_of, zT, zZ, zM, rdS, at_agg, bofZ, bof1, bof0, zC, zS, mks_len, mks_get, implies_true, and_true, true_and, forall_const]; first | done | omega | (refine ⟨?_, ?_⟩ <;> omega)) | (simp (disch := (first | omega | (simp only [lnS, zA, zM, zG, zP, mks_len]; omega))) [nc, nct, w64_of, zT, zZ, zM, rdS, at_agg, bofZ, bof1, bof0, zC, zS, mks_len, mks_get]; done))); cbv)
          | (refine E.c (SCalls.of_le (ki) ?_ ?_); (· (cbv; (try simp only [nc] at *); first | done | (simp; done) | (simp (disch := (first | omega | (simp only [lnS, zA, zM, zG, zP, mks_len]; omega))) only [nc, nct, w64_of, zT, zZ, zM, rdS, at_agg, bofZ, bof1, bof0, zC, zS, mks_len, mks_get, implies_true, and_true, true_and, forall_const]; first | done | omega | (refine ⟨?_, ?_⟩ <;> omega)) | (simp (disch := (first | omega | (simp only [lnS, zA, zM, zG, zP, mks_len]; omega))) [nc, nct, w64_of, zT, zZ, zM, rdS, at_agg, bofZ, bof1, bof0, zC, zS, mks_len, mks_get]; done))); cbv)
          | (refine E.c (SCalls.of_le (kv) ?_ ?_); (· (cbv; (try simp only [nc] at *); first | done | (simp; done) | (simp (disch := (first | omega | (simp only [lnS, zA, zM, zG, zP, mks_len]; omega))) only [nc, nct, w64_of, zT, zZ, zM, rdS, at_agg, bofZ, bof1, bof0, zC, zS, mks_len, mks_get, implies_true, and_true, true_and, forall_const]; first | done | omega | (refine ⟨?_, ?_⟩ <;> omega)) | (simp (disch := (first | omega | (simp only [lnS, zA, zM, zG, zP, mks_len]; omega))) [nc, nct, w64_of, zT, zZ, zM, rdS, at_agg, bofZ, bof1, bof0, zC, zS, mks_len, mks_get]; done))); cbv)
          | (refine ⟨fun _ h_s => ?_, fun _ h_s => ?_⟩ <;> (cbv; (try simp only [nc] at *); try simp (disch := (first | omega | (simp only [lnS, zA, zM, zG, zP, mks_len]; omega))) only [nc, nct, w64_of, zT, zZ, zM, rdS, at_agg, bofZ, bof1, bof0, zC, zS, mks_len, mks_get, reduceCtorEq, Bool.not_true, Bool.not_false, zD, zE, zB, zF, zN, zO, ne_eq, zQ, zL, zR, beq_iff_eq] at h_s))
          | (refine hF ?_; intro _; clear hF)
          | (refine hF ?_; cbv; clear hF)
          | (refine ⟨fun _ => ?_, ?_⟩; (· ((try simp only [nc] at *); first | done | omega | exact ⟨by omega, rfl⟩ | (simp (disch := (first | omega | (simp only [lnS, zA, zM, zG, zP, mks_len]; omega))) only [nc, nct, w64_of, zT, zZ, zM, rdS, at_agg, bofZ, bof1, bof0, zC, zS, mks_len, mks_get]; first | done | omega | rfl | exact ⟨by omega, rfl⟩ | (simp; done) | (simp; omega)) | (intros; trivial) | exact ⟨by first | trivial | rfl, by first | trivial | rfl, by first | trivial | rfl | (simp [LV.l]; done), by simp [LV.l]; omega, by simp [LV.l]; omega, ids_flat _⟩)); (try (simp only [nc] at *)); (try simp (disch := (first | omega | (simp only [lnS, zA, zM, zG, zP, mks_len]; omega))) only [nc, nct, w64_of, zT, zZ, zM, rdS, at_agg, bofZ, bof1, bof0, zC, zS, mks_len, mks_get]); (try cbv))
          | (refine E.d 6 (by decide +kernel) ?_; cbv; (fail_if_success guard_target =~ False))
          | fail
        )
        all_goals first
          | rfl
          | (exfalso; ((try simp only [nc] at *); omega))
    · rw [show pcheckM s = 2 from if_neg hs] at kc
      refine Pure.go (ty := ty) ty_eq mo Tryd.func4 rfl Tryd.ntmps4 Tryd.results4 Tryd.call4 (by simp) fun P C CQ D W F E hF => ?_
      cbv
      repeat' (first
        | (refine E.c (SCalls.of_le (kc) ?_ ?_); (· (cbv; (try simp only [nc] at *); first | done | (simp; done) | (simp (disch := (first | omega | (simp only [lnS, zA, zM, zG, zP, mks_len]; omega))) only [nc, nct, w64_of, zT, zZ, zM, rdS, at_agg, bofZ, bof1, bof0, zC, zS, mks_len, mks_get, implies_true, and_true, true_and, forall_const]; first | done | omega | (refine ⟨?_, ?_⟩ <;> omega)) | (simp (disch := (first | omega | (simp only [lnS, zA, zM, zG, zP, mks_len]; omega))) [nc, nct, w64_of, zT, zZ, zM, rdS, at_agg, bofZ, bof1, bof0, zC, zS, mks_len, mks_get]; done))); cbv)
        | (refine E.c (SCalls.of_le (ki) ?_ ?_); (· (cbv; (try simp only [nc] at *); first | done | (simp; done) | (simp (disch := (first | omega | (simp only [lnS, zA, zM, zG, zP, mks_len]; omega))) only [nc, nct, w64_of, zT, zZ, zM, rdS, at_agg, bofZ, bof1, bof0, zC, zS, mks_len, mks_get, implies_true, and_true, true_and, forall_const]; first | done | omega | (refine ⟨?_, ?_⟩ <;> omega)) | (simp (disch := (first | omega | (simp only [lnS, zA, zM, zG, zP, mks_len]; omega))) [nc, nct, w64_of, zT, zZ, zM, rdS, at_agg, bofZ, bof1, bof0, zC, zS, mks_len, mks_get]; done))); cbv)
        | (refine E.c (SCalls.of_le (kv) ?_ ?_); (· (cbv; (try simp only [nc] at *); first | done | (simp; done) | (simp (disch := (first | omega | (simp only [lnS, zA, zM, zG, zP, mks_len]; omega))) only [nc, nct, w64_of, zT, zZ, zM, rdS, at_agg, bofZ, bof1, bof0, zC, zS, mks_len, mks_get, implies_true, and_true, true_and, forall_const]; first | done | omega | (refine ⟨?_, ?_⟩ <;> omega)) | (simp (disch := (first | omega | (simp only [lnS, zA, zM, zG, zP, mks_len]; omega))) [nc, nct, w64_of, zT, zZ, zM, rdS, at_agg, bofZ, bof1, bof0, zC, zS, mks_len, mks_get]; done))); cbv)
        | (refine ⟨fun _ h_s => ?_, fun _ h_s => ?_⟩ <;> (cbv; (try simp only [nc] at *); try simp (disch := (first | omega | (simp only [lnS, zA, zM, zG, zP, mks_len]; omega))) only [nc, nct, w64_of, zT, zZ, zM, rdS, at_agg, bofZ, bof1, bof0, zC, zS, mks_len, mks_get, reduceCtorEq, Bool.not_true, Bool.not_false, zD, zE, zB, zF, zN, zO, ne_eq, zQ, zL, zR, beq_iff_eq] at h_s))
        | (refine hF ?_; intro _; clear hF)
        | (refine hF ?_; cbv; clear hF)
        | (refine ⟨fun _ => ?_, ?_⟩; (· ((try simp only [nc] at *); first | done | omega | exact ⟨by omega, rfl⟩ | (simp (disch := (first | omega | (simp only [lnS, zA, zM, zG, zP, mks_len]; omega))) only [nc, nct, w64_of, zT, zZ, zM, rdS, at_agg, bofZ, bof1, bof0, zC, zS, mks_len, mks_get]; first | done | omega | rfl | exact ⟨by omega, rfl⟩ | (simp; done) | (simp; omega)) | (intros; trivial) | exact ⟨by first | trivial | rfl, by first | trivial | rfl, by first | trivial | rfl | (simp [LV.l]; done), by simp [LV.l]; omega, by simp [LV.l]; omega, ids_flat _⟩)); (try (simp only [nc] at *)); (try simp (disch := (first | omega | (simp only [lnS, zA, zM, zG, zP, mks_len]; omega))) only [nc, nct, w64_of, zT, zZ, zM, rdS, at_agg, bofZ, bof1, bof0, zC, zS, mks_len, mks_get]); (try cbv))
        | (refine E.d 6 (by decide +kernel) ?_; cbv; (fail_if_success guard_target =~ False))
        | fail
      )
      all_goals first
        | rfl
        | (exfalso; ((try simp only [nc] at *); omega))
  · rw [show lightS 60 s = false by simpa using hli] at ki
    refine Pure.go (ty := ty) ty_eq mo Tryd.func4 rfl Tryd.ntmps4 Tryd.results4 Tryd.call4 (by simp) fun P C CQ D W F E hF => ?_
    cbv
    repeat' (first
      | (refine E.c (SCalls.of_le (ki) ?_ ?_); (· (cbv; (try simp only [nc] at *); first | done | (simp; done) | (simp (disch := (first | omega | (simp only [lnS, zA, zM, zG, zP, mks_len]; omega))) only [nc, nct, w64_of, zT, zZ, zM, rdS, at_agg, bofZ, bof1, bof0, zC, zS, mks_len, mks_get, implies_true, and_true, true_and, forall_const]; first | done | omega | (refine ⟨?_, ?_⟩ <;> omega)) | (simp (disch := (first | omega | (simp only [lnS, zA, zM, zG, zP, mks_len]; omega))) [nc, nct, w64_of, zT, zZ, zM, rdS, at_agg, bofZ, bof1, bof0, zC, zS, mks_len, mks_get]; done))); cbv)
      | (refine E.c (SCalls.of_le (kv) ?_ ?_); (· (cbv; (try simp only [nc] at *); first | done | (simp; done) | (simp (disch := (first | omega | (simp only [lnS, zA, zM, zG, zP, mks_len]; omega))) only [nc, nct, w64_of, zT, zZ, zM, rdS, at_agg, bofZ, bof1, bof0, zC, zS, mks_len, mks_get, implies_true, and_true, true_and, forall_const]; first | done | omega | (refine ⟨?_, ?_⟩ <;> omega)) | (simp (disch := (first | omega | (simp only [lnS, zA, zM, zG, zP, mks_len]; omega))) [nc, nct, w64_of, zT, zZ, zM, rdS, at_agg, bofZ, bof1, bof0, zC, zS, mks_len, mks_get]; done))); cbv)
      | (refine ⟨fun _ h_s => ?_, fun _ h_s => ?_⟩ <;> (cbv; (try simp only [nc] at *); try simp (disch := (first | omega | (simp only [lnS, zA, zM, zG, zP, mks_len]; omega))) only [nc, nct, w64_of, zT, zZ, zM, rdS, at_agg, bofZ, bof1, bof0, zC, zS, mks_len, mks_get, reduceCtorEq, Bool.not_true, Bool.not_false, zD, zE, zB, zF, zN, zO, ne_eq, zQ, zL, zR, beq_iff_eq] at h_s))
      | (refine hF ?_; intro _; clear hF)
      | (refine hF ?_; cbv; clear hF)
      | (refine ⟨fun _ => ?_, ?_⟩; (· ((try simp only [nc] at *); first | done | omega | exact ⟨by omega, rfl⟩ | (simp (disch := (first | omega | (simp only [lnS, zA, zM, zG, zP, mks_len]; omega))) only [nc, nct, w64_of, zT, zZ, zM, rdS, at_agg, bofZ, bof1, bof0, zC, zS, mks_len, mks_get]; first | done | omega | rfl | exact ⟨by omega, rfl⟩ | (simp; done) | (simp; omega)) | (intros; trivial) | exact ⟨by first | trivial | rfl, by first | trivial | rfl, by first | trivial | rfl | (simp [LV.l]; done), by simp [LV.l]; omega, by simp [LV.l]; omega, ids_flat _⟩)); (try (simp only [nc] at *)); (try simp (disch := (first | omega | (simp only [lnS, zA, zM, zG, zP, mks_len]; omega))) only [nc, nct, w64_of, zT, zZ, zM, rdS, at_agg, bofZ, bof1, bof0, zC, zS, mks_len, mks_get]); (try cbv))
      | (refine E.d 6 (by decide +kernel) ?_; cbv; (fail_if_success guard_target =~ False))
      | fail
    )
    all_goals first
      | rfl
      | (exfalso; ((try simp only [nc] at *); omega))
end Go.AL.Rl

namespace Go.AL
open Go Go.RowKit Go.ChangeShapes Go.WideShapes

section
variable {H : Type} {enc : TypeId × Value → H} {P : Program} {w : World} {spare : Nat → Bool} {held : Bool}

abbrev Old (w : World) : Nat → Prop := fun k => k < w.heap.size

/-- Whatever reads by the type 't' is told by an 'a'. -/
def Dec (P : Program) (t : TypeId) (α : Type) (en : α → List AV) (ok : α → Prop) : Prop :=
  ∀ {H : Type} (enc : TypeId × Value → H) (w : World) (spare : Nat → Bool) (held : Bool) (fuel : Nat) (cs : List Value) (x : DataW H × List MemPlace),
    DataW.trod enc P w 0 spare held fuel t cs = some x → ∃ a, ok a ∧ Rs (Old w) w none (en a) cs

theorem Dec.int {t : TypeId} (ht : P.underlying t = some (.int .i64)) : Dec P t Int (fun n => [.i fun _ => n]) fun n => -9223372036854775808 ≤ n ∧ n ≤ 9223372036854775807 := by
  intro H enc w spare held fuel cs x h
  obtain ⟨n, rfl, _, h2⟩ := DataW.trod_int ht h
  exact ⟨n, bounds_i64 h2, _, _, rfl, rfl, rfl⟩
theorem Dec.u64 {t : TypeId} (ht : P.underlying t = some (.int .u64)) : Dec P t (BitVec 64) (fun n => [.u fun _ => n]) fun _ => True := by
  intro H enc w spare held fuel cs x h
  obtain ⟨n, rfl, _, h2⟩ := DataW.trod_int ht h
  have := bounds_u64 h2
  refine ⟨BitVec.ofInt 64 n, trivial, _, _, rfl, ?_, rfl⟩
  simp only [R]
  congr 1
  simp only [BitVec.toNat_ofInt]
  omega
theorem Dec.bool {t : TypeId} (ht : P.underlying t = some .bool) : Dec P t Bool (fun b => [.b fun _ => b]) fun _ => True := by
  intro H enc w spare held fuel cs x h
  obtain ⟨b, rfl, _⟩ := DataW.trod_bool ht h
  exact ⟨b, trivial, _, _, rfl, rfl, rfl⟩

theorem cells?_get {w : World} {a : Addr} {n : Nat} {cs : List Value} (h : w.cells? 0 a n = some cs) : cs.length = n ∧ ∀ (i : Nat) (c : Value), cs[i]? = some c → w.cell? (a.add i) = some c := by
  simp only [World.cells?, Nat.zero_le, if_true] at h
  have hl : cs.length = n := by have := mapM_some_length h; simpa using this
  refine ⟨hl, fun i c hc => ?_⟩
  have hi : i < n := by have := (List.getElem?_eq_some_iff.1 hc).1; omega
  rw [mapM_some_get h i i (by simp [hi])]; exact hc

theorem list_of_all {α β : Type} {R' : α → β → Prop} : ∀ (l : List β), (∀ b ∈ l, ∃ a, R' a b) → ∃ r : List α, r.length = l.length ∧ ∀ (i : Nat) (a : α) (b : β), r[i]? = some a → l[i]? = some b → R' a b
  | [], _ => ⟨[], rfl, fun i a b h => by simp at h⟩
  | b :: l, h => by
    obtain ⟨a, ha⟩ := h b (by simp)
    obtain ⟨r, h1, h2⟩ := list_of_all l fun b hb => h b (by simp [hb])
    refine ⟨a :: r, by simp [h1], fun i a' b' ha' hb' => ?_⟩
    cases i with
    | zero => simp at ha' hb'; subst ha'; subst hb'; exact ha
    | succ i => exact h2 i a' b' (by simpa using ha') (by simpa using hb')

/-- the elements' values: 'mk' is '.agg' or the one cell -/
structure Elem (mk : List AV → AV) (k : Nat) : Prop where
  val : ∀ {S : Nat → Prop} {w : World} {l : List AV} {cs : List Value}, cs.length = k → l.all AV.one = true → Rs S w none l cs → ∃ v, v.cells.toList = cs ∧ R S w none (mk l) v
theorem Elem.agg (k : Nat) : Elem .agg k := ⟨fun {S w l cs} _ _ h => ⟨.agg cs.toArray, by simp [Value.cells], cs, rfl, h⟩⟩
theorem Elem.one : Elem (fun l => l.headD .any) 1 := ⟨fun {S w l cs} hl h1 h => by
  match cs, hl with
  | [c], _ =>
    match l, h with
    | x :: _, ⟨v, _, e, hx, hr⟩ =>
      cases e
      simp only [List.all_cons, Bool.and_eq_true] at h1
      exact ⟨c, by rw [cells_of_one (R_one hx h1.1)], hx⟩⟩

theorem Dec.slice {t e : TypeId} (ht : P.underlying t = some (.slice e)) {k : Nat} (hk : P.cellsOf e = k) (hk0 : 0 < k) {α : Type} {en : α → List AV} {ok : α → Prop} {mk : List AV → AV} (he : Dec P e α en ok) (hone : ∀ a, (en a).all AV.one = true) (hm : Elem mk k) :
    Dec P t (List α) (fun l => [.vs k fun _ => LV.of (l.map fun a => mk (en a))]) fun l => l.length ≤ maxLen ∧ ∀ a ∈ l, ok a := by
  subst hk
  intro H enc w spare held fuel cs x h
  rcases DataW.trod_slice ht h with ⟨rfl, _⟩ | ⟨a, len, cap, elems, rest, n, rfl, rfl, rfl, _, h2, h3, h4, h5, _⟩
  · exact ⟨[], ⟨by simp, by simp⟩, _, _, rfl, ⟨none, 0, [], rfl, Nat.le_refl _, rfl, .inl rfl⟩, rfl⟩
  · have key : ∀ i : Nat, i < len → ∃ (c : List Value) (a' : α), w.cells? 0 (a.add (i * P.cellsOf e)) (P.cellsOf e) = some c ∧ ok a' ∧ Rs (Old w) w none (en a') c := by
      intro i hi
      have := h5 i hi
      rw [List.getElem?_eq_getElem (by omega)] at this
      simp only [Option.bind_eq_some_iff] at this
      obtain ⟨c, hc, hd⟩ := this
      obtain ⟨a', ha, hr⟩ := he _ _ _ _ _ _ _ hd
      exact ⟨c, a', hc, ha, hr⟩
    have hlist := list_of_all (R' := fun (q : α × Value) (i : Nat) => ok q.1 ∧ q.2.cells.size = P.cellsOf e ∧ (∀ (j : Nat) (c : Value), q.2.cells[j]? = some c → w.cell? ((a.add (i * P.cellsOf e)).add j) = some c) ∧ R (Old w) w none (mk (en q.1)) q.2) (List.range len) fun i hi => by
      obtain ⟨c, a', hc, ha, hr⟩ := key i (by simpa using hi)
      obtain ⟨hl, hg⟩ := cells?_get hc
      obtain ⟨v, hv, hr'⟩ := hm.val hl (hone a') hr
      refine ⟨(a', v), ha, by rw [← Array.length_toList, hv]; exact hl, fun j c' hj => hg j c' ?_, hr'⟩
      rw [← hv]; simpa using hj
    obtain ⟨qs, hq1, hq2⟩ := hlist
    rw [List.length_range] at hq1
    have hq : ∀ (i : Nat) (q : α × Value), qs[i]? = some q → ok q.1 ∧ q.2.cells.size = P.cellsOf e ∧ (∀ (j : Nat) (c : Value), q.2.cells[j]? = some c → w.cell? ((a.add (i * P.cellsOf e)).add j) = some c) ∧ R (Old w) w none (mk (en q.1)) q.2 := fun i q hi =>
      hq2 i q i hi (by
        have := (List.getElem?_eq_some_iff.1 hi).1
        rw [List.getElem?_range (by omega)])
    refine ⟨qs.map (·.1), ⟨by simp; omega, fun a' ha' => ?_⟩, _, _, rfl, ⟨some a, cap, qs.map (·.2), by simp [hq1], by simp; omega, ?_, ?_⟩, rfl⟩
    · obtain ⟨q, hqm, rfl⟩ := List.mem_map.1 ha'
      obtain ⟨i, hi, rfl⟩ := List.mem_iff_getElem.1 hqm
      exact (hq i _ (List.getElem?_eq_getElem hi)).1
    · rw [RL_iff, LV.l_of, Rs_iff]
      refine ⟨by simp, fun i c v hc hv => ?_⟩
      simp only [List.map_map, List.getElem?_map, Option.map_eq_some_iff] at hc hv
      obtain ⟨q, hq', rfl⟩ := hc
      obtain ⟨q', hq'', rfl⟩ := hv
      rw [hq'] at hq''; cases hq''
      exact (hq i q hq').2.2.2
    · cases hqs : qs with
      | nil => exact .inl rfl
      | cons q0 qr =>
        right
        have hlen : 0 < len := by rw [← hq1, hqs]; simp
        obtain ⟨_, hsz, hcell, _⟩ := hq 0 q0 (by rw [hqs]; rfl)
        have hc0 : ∃ c, q0.2.cells[0]? = some c := ⟨_, Array.getElem?_eq_getElem (by omega)⟩
        obtain ⟨c, hc⟩ := hc0
        have hw := hcell 0 c hc
        have ha0 : a.spot = none ∧ a.block < w.heap.size := by
          simp only [Nat.zero_mul, Addr.add, if_true] at hw
          unfold World.cell? at hw
          split at hw
          · rename_i hb
            split at hw
            · cases hw
            · rename_i hs
              exact ⟨by simpa using hs, (Array.getElem?_eq_some_iff.1 hb).1⟩
          · cases hw
        refine ⟨a, rfl, ha0.1, ha0.2, fun i ev hi => ?_⟩
        rw [← hqs] at hi
        simp only [List.getElem?_map, Option.map_eq_some_iff] at hi
        obtain ⟨q, hq', rfl⟩ := hi
        obtain ⟨_, h1, h2, _⟩ := hq i q hq'
        refine ⟨h1, fun j c hj => ?_⟩
        have := h2 j c hj
        have ea : (a.add (i * P.cellsOf e)).add j = ⟨a.block, a.off + (i * P.cellsOf e + j), none⟩ := by
          obtain ⟨b, o, s⟩ := a
          simp only at ha0
          obtain ⟨rfl, _⟩ := ha0
          simp only [Addr.add]
          by_cases h0 : i * P.cellsOf e = 0 <;> by_cases h1 : j = 0 <;> simp [h0, h1] <;> omega
        rw [← ea]; exact this

/-- fields, one behind the other -/
theorem Dec.fields {t : TypeId} {fs : List Field} {a : Array Field} (ht : P.underlying t = some (.struct a)) (hfs : a.toList = fs) {α : Type} {en : α → List AV} {ok : α → Prop}
    (h : ∀ {H : Type} (enc : TypeId × Value → H) (w : World) (spare : Nat → Bool) (held : Bool) (n : Nat) (cs : List Value), cs.length = P.cellsOf t →
      (∀ f ∈ fs, ∃ x, DataW.trod enc P w 0 spare held n f.type ((cs.drop f.offset).take (P.cellsOf f.type)) = some x) → ∃ a, ok a ∧ Rs (Old w) w none (en a) cs) : Dec P t α en ok := by
  intro H enc w spare held fuel cs x hx
  obtain ⟨xs, n, rfl, rfl, h1, h2, h3⟩ := DataW.trod_struct ht hx
  refine h enc w spare held n cs h1 fun f hf => ?_
  rw [← hfs] at hf
  obtain ⟨i, hi, rfl⟩ := List.mem_iff_getElem.1 hf
  have hi' : i < a.size := by simpa using hi
  have := h3 i a[i] (Array.getElem?_eq_getElem hi')
  rw [List.getElem?_eq_getElem (by omega)] at this
  exact ⟨_, by simpa using this⟩
theorem cut3 (cs : List Value) (o s n : Nat) (h : cs.length = n) (ho : o + s = n) : cs = cs.take o ++ (cs.drop o).take s := by
  have : (cs.drop o).take s = cs.drop o := List.take_of_length_le (by simp; omega)
  rw [this, List.take_append_drop]

theorem Dec.struct2 {t : TypeId} {a : Array Field} (ht : P.underlying t = some (.struct a)) {t0 t1 : TypeId} {s0 s1 : Nat} (hfs : a.toList.map (fun f => (f.type, f.offset)) = [(t0, 0), (t1, s0)]) (h0 : P.cellsOf t0 = s0) (h1 : P.cellsOf t1 = s1) (hs : P.cellsOf t = s0 + s1)
    {α β : Type} {e0 : α → List AV} {e1 : β → List AV} {k0 : α → Prop} {k1 : β → Prop} (d0 : Dec P t0 α e0 k0) (d1 : Dec P t1 β e1 k1) : Dec P t (α × β) (fun p => e0 p.1 ++ e1 p.2) fun p => k0 p.1 ∧ k1 p.2 := by
  refine Dec.fields ht rfl fun {H} enc w spare held n cs hl hf => ?_
  have get : ∀ t o, (t, o) ∈ a.toList.map (fun f => (f.type, f.offset)) → ∃ x, DataW.trod enc P w 0 spare held n t ((cs.drop o).take (P.cellsOf t)) = some x := fun t o hm => by
    obtain ⟨f, hf1, hf2⟩ := List.mem_map.1 hm
    cases hf2
    exact hf f hf1
  rw [hfs] at get
  obtain ⟨x0, g0⟩ := get t0 0 (by simp)
  obtain ⟨x1, g1⟩ := get t1 s0 (by simp)
  obtain ⟨a0, o0, r0⟩ := d0 _ _ _ _ _ _ _ g0
  obtain ⟨a1, o1, r1⟩ := d1 _ _ _ _ _ _ _ g1
  refine ⟨(a0, a1), ⟨o0, o1⟩, ?_⟩
  rw [cut3 cs s0 s1 _ (hl.trans hs) rfl]
  rw [h0] at r0; rw [h1] at r1
  exact Rs_append (by simpa using r0) r1

theorem trodAll_len {W : World} {b : Nat} : ∀ {ts : List TypeId} {vs : List Value} {ds : List (DataW H)} {p : List MemPlace}, DataW.TrodAll enc P W b spare held ts vs ds p → ds.length = ts.length
  | [], [], [], _, _ => rfl
  | _ :: _, _ :: _, _ :: _, _, ⟨_, _, _, h, _⟩ => by simp [trodAll_len h]
  | [], [], _ :: _, _, h => h.elim
  | [], _ :: _, _, _, h => h.elim
  | _ :: _, [], _, _, h => h.elim
  | _ :: _, _ :: _, [], _, h => h.elim
theorem trodAll_carry {W W' : World} (hq : ∀ k, k < W.heap.size → W'.heap[k]? = W.heap[k]?) : ∀ {ts : List TypeId} {vs : List Value} {ds : List (DataW H)} {p : List MemPlace},
    DataW.TrodAll enc P W 0 spare held ts vs ds p → (∀ p' ∈ p, p'.block < W.heap.size) → DataW.TrodAll enc P W' 0 spare held ts vs ds p
  | [], [], [], _, h, _ => h
  | _ :: _, _ :: _, _ :: _, _, ⟨p0, q0, ⟨n, h1⟩, h2, e⟩, lt => by
    subst e
    refine ⟨p0, q0, ⟨n, DataW.trod_carry _ _ _ _ h1 fun pl hpl => ?_⟩, trodAll_carry hq h2 fun p' hp => lt p' (List.mem_append_right _ hp), rfl⟩
    have hlt := lt pl (List.mem_append_left _ hpl)
    cases pl with
    | cell b off => exact World.cell?_of_block (hq b hlt)
    | map b => exact hq b hlt
  | [], [], _ :: _, _, h, _ => h.elim
  | [], _ :: _, _, _, h, _ => h.elim
  | _ :: _, [], _, _, h, _ => h.elim
  | _ :: _, _ :: _, [], _, h, _ => h.elim
theorem post_true {H : Type} {enc : TypeId × Value → H} {f : Func} {s : ChangeSpec} {W W' : World} {args : Array Value} {ds gs : List (DataW H)} {before : List MemPlace} {tb : TypeId}
    (hW : DataW.Whole enc P f.params.toList s.vars false W args.toList ds gs before) (hv : s.vars = []) (hres : f.resultTypes = #[tb]) (htb : P.underlying tb = some .bool)
    (hs : ∀ ds' : List (DataW H), ds'.length = f.params.size → s.fn H ds' = { results := [.lit (.bool true)], args := ds' })
    (hl : laidOutB P = true) (hm : mapsRowed P = true) (hz : ((List.range P.types.size).all fun t => match P.underlying t with | some (.slice e) => decide (0 < P.cellsOf e) | _ => true) = true) (hT : ∀ t ∈ f.params.toList, t < P.types.size)
    (hq : ∀ k, k < W.heap.size → W'.heap[k]? = W.heap[k]?) (fr : Fr W W') : s.post enc P f false true false false W args (.bool true) W' := by
  have hW' := hW
  obtain ⟨p, q, hA, hV, rfl, hfz, hnd⟩ := hW
  rw [hv] at hV
  obtain ⟨rfl, rfl⟩ := trodVars_none hV
  have hlen : ds.length = f.params.size := by have := trodAll_len hA; simpa using this
  have hsd := hs (ds ++ []) (by simpa using hlen)
  have hall : ∀ (b : Nat) (sp : Nat → Bool) (hd : Bool), DataW.TrodAll enc P W' b sp hd [tb] [.bool true] [.lit (.bool true)] [] := fun b sp hd => ⟨[], [], ⟨1, by simp [DataW.trod, htb, Value.cells]⟩, rfl, rfl⟩
  refine post_of_same (pa := p) (pv := []) hW' (fun b sp hd => ?_) (fun sp hsp => ?_) (fun sp _ => ?_) (by simp) ?_ fr.frozen ?_
  · rw [hsd, hres]; exact hall b sp hd
  · rw [hsd]
    simp only [List.append_nil]
    have carry : DataW.TrodAll enc P W' 0 (fun _ => true) true f.params.toList args.toList ds p := trodAll_carry hq hA fun p' hp => hW'.lt p' (by simpa using hp)
    exact carry.respare (kids_rows hl hm) (fun t e ht hu => slices_full_of P hz t e ht hu) hT fun p' hp => hsp p' (by simpa using hp)
  · rw [hsd, hv]; rfl
  · refine ⟨fr.os, fr.output, fun i hi => ?_⟩
    rw [hq i hi]
    cases h : W.heap[i]? with
    | none => trivial
    | some o => cases o <;> simp
  · exact ok_one hres rfl (okWide_bool_mk htb _)

def Arg (P : Program) (t : TypeId) (α : Type) (en : α → AV) (ok : α → Prop) : Prop :=
  ∀ {H : Type} (enc : TypeId × Value → H) (W : World) (base : Nat) (v : Value) (d : DataW H) (p : List MemPlace), Value.okWide P W .any base t v → DataW.Trod enc P W 0 (fun _ => true) true t v d p → ∃ a, ok a ∧ R (Old W) W none (en a) v
theorem Arg.agg {t : TypeId} {a : Array Field} (ht : P.underlying t = some (.struct a)) {α : Type} {en : α → List AV} {ok : α → Prop} (h : Dec P t α en ok) : Arg P t α (fun a => .agg (en a)) ok := by
  intro H enc W base v d p hok ⟨n, hn⟩
  simp only [Value.okWide, ht] at hok
  obtain ⟨cs, rfl, _⟩ := hok
  obtain ⟨x, h1, h2⟩ := h _ _ _ _ _ _ _ hn
  exact ⟨x, h1, cs.toList, by simp, by simpa [Value.cells] using h2⟩
theorem Arg.one {t : TypeId} {k : TypeDesc} (ht : P.underlying t = some k) (hk : match k with | .int _ | .bool | .slice _ => True | _ => False) {α : Type} {en : α → AV} {ok : α → Prop} (h : Dec P t α (fun a => [en a]) ok) : Arg P t α en ok := by
  intro H enc W base v d p hok ⟨n, hn⟩
  obtain ⟨x, h1, y, ys, h2, h3, h4⟩ := h _ _ _ _ _ _ _ hn
  have h4 : ys = [] := h4
  subst h4
  have hv : v = y := by
    cases v
    case agg cs => cases k <;> first | exact hk.elim | simp [Value.okWide, ht, Cell.okWide, Cell.ok] at hok
    all_goals (simp [Value.cells] at h2; exact h2)
  subst hv
  exact ⟨x, h1, h3⟩

/-- A LAW, from its contract. -/
theorem law_true {γ : Nat → Option AV} {f : FuncId} {fn : Func} {s : ChangeSpec} {W : World} {args : Array Value} {ds gs : List (DataW H)} {before : List MemPlace} {tb : TypeId} {avs : List AV} (hp : Pure P γ false f avs (.b fun _ => true)) (hr : Rs (Old W) W none avs args.toList)
    (hγ : ∀ g x, γ g = some x → R (Old W) W none (.vp (fun _ => x) 0) (.pointer (some ⟨g, 0, none⟩)))
    (hW : DataW.Whole enc P fn.params.toList s.vars false W args.toList ds gs before) (hv : s.vars = []) (hres : fn.resultTypes = #[tb]) (htb : P.underlying tb = some .bool)
    (hs : ∀ ds' : List (DataW H), ds'.length = fn.params.size → s.fn H ds' = { results := [.lit (.bool true)], args := ds' })
    (hl : laidOutB P = true) (hm : mapsRowed P = true) (hz : ((List.range P.types.size).all fun t => match P.underlying t with | some (.slice e) => decide (0 < P.cellsOf e) | _ => true) = true) (hT : ∀ t ∈ fn.params.toList, t < P.types.size) :
    Calls P f args W fun e W' => ∃ v, e = .returned v ∧ s.post enc P fn false true false false W args v W' := by
  have := hp.2 (Old W) W args.toList (fun k hk => hk) hγ hr
  refine (this.mono fun e w' ⟨v', S', h1, h2, h3⟩ => ?_)
  have h2 : v' = .bool true := h2
  subst h2
  exact ⟨_, h1, post_true hW hv hres htb hs hl hm hz hT h3.same h3.fr⟩
end
end Go.AL

namespace Go.AL
open Go Go.RowKit Go.ChangeShapes Go.WideShapes
section
variable {P : Program}
theorem Dec.imap {t : TypeId} {α β : Type} {en : α → List AV} {ok : α → Prop} {en' : β → List AV} {ok' : β → Prop} (d : Dec P t α en ok) (f : α → β) (he : ∀ a, en a = en' (f a)) (hk : ∀ a, ok a → ok' (f a)) : Dec P t β en' ok' := by
  intro H enc w spare held fuel cs x h
  obtain ⟨a, h1, h2⟩ := d _ _ _ _ _ _ _ h
  exact ⟨f a, hk a h1, by rw [← he]; exact h2⟩
theorem Dec.struct4 {t : TypeId} {a : Array Field} (ht : P.underlying t = some (.struct a)) {t0 t1 t2 t3 : TypeId} (hfs : a.toList.map (fun f => (f.type, f.offset)) = [(t0, 0), (t1, 1), (t2, 2), (t3, 3)])
    (h0 : P.cellsOf t0 = 1) (h1 : P.cellsOf t1 = 1) (h2 : P.cellsOf t2 = 1) (h3 : P.cellsOf t3 = 1) (hs : P.cellsOf t = 4)
    {A0 A1 A2 A3 : Type} {e0 : A0 → List AV} {e1 : A1 → List AV} {e2 : A2 → List AV} {e3 : A3 → List AV} {k0 : A0 → Prop} {k1 : A1 → Prop} {k2 : A2 → Prop} {k3 : A3 → Prop}
    (d0 : Dec P t0 A0 e0 k0) (d1 : Dec P t1 A1 e1 k1) (d2 : Dec P t2 A2 e2 k2) (d3 : Dec P t3 A3 e3 k3) :
    Dec P t (A0 × A1 × A2 × A3) (fun p => e0 p.1 ++ (e1 p.2.1 ++ (e2 p.2.2.1 ++ e3 p.2.2.2))) fun p => k0 p.1 ∧ k1 p.2.1 ∧ k2 p.2.2.1 ∧ k3 p.2.2.2 := by
  refine Dec.fields ht rfl fun {H} enc w spare held n cs hl hf => ?_
  have get : ∀ t o, (t, o) ∈ a.toList.map (fun f => (f.type, f.offset)) → ∃ x, DataW.trod enc P w 0 spare held n t ((cs.drop o).take (P.cellsOf t)) = some x := fun t o hm => by
    obtain ⟨f, hf1, hf2⟩ := List.mem_map.1 hm
    cases hf2
    exact hf f hf1
  rw [hfs] at get
  rw [hs] at hl
  match cs, hl with
  | [c0, c1, c2, c3], _ =>
    obtain ⟨x0, g0⟩ := get t0 0 (by simp)
    obtain ⟨x1, g1⟩ := get t1 1 (by simp)
    obtain ⟨x2, g2⟩ := get t2 2 (by simp)
    obtain ⟨x3, g3⟩ := get t3 3 (by simp)
    obtain ⟨a0, o0, r0⟩ := d0 _ _ _ _ _ _ _ g0
    obtain ⟨a1, o1, r1⟩ := d1 _ _ _ _ _ _ _ g1
    obtain ⟨a2, o2, r2⟩ := d2 _ _ _ _ _ _ _ g2
    obtain ⟨a3, o3, r3⟩ := d3 _ _ _ _ _ _ _ g3
    rw [h0] at r0; rw [h1] at r1; rw [h2] at r2; rw [h3] at r3
    exact ⟨(a0, a1, a2, a3), ⟨o0, o1, o2, o3⟩, Rs_append (vals := [c0]) r0 (Rs_append (vals := [c1]) r1 (Rs_append (vals := [c2]) r2 r3))⟩
theorem Dec.struct5 {t : TypeId} {a : Array Field} (ht : P.underlying t = some (.struct a)) {e f : TypeId} (hfs : a.toList.map (fun f => (f.type, f.offset)) = [(e, 0), (e, 1), (e, 2), (f, 3), (f, 4)])
    (h0 : P.cellsOf e = 1) (h1 : P.cellsOf f = 1) (hs : P.cellsOf t = 5) {A0 : Type} {e0 : A0 → List AV} {k0 : A0 → Prop} (d0 : Dec P e A0 e0 k0) (d1 : Dec P f A0 e0 k0) :
    Dec P t (A0 × A0 × A0 × A0 × A0) (fun p => e0 p.1 ++ (e0 p.2.1 ++ (e0 p.2.2.1 ++ (e0 p.2.2.2.1 ++ e0 p.2.2.2.2)))) fun p => k0 p.1 ∧ k0 p.2.1 ∧ k0 p.2.2.1 ∧ k0 p.2.2.2.1 ∧ k0 p.2.2.2.2 := by
  refine Dec.fields ht rfl fun {H} enc w spare held n cs hl hf => ?_
  have get : ∀ t o, (t, o) ∈ a.toList.map (fun f => (f.type, f.offset)) → ∃ x, DataW.trod enc P w 0 spare held n t ((cs.drop o).take (P.cellsOf t)) = some x := fun t o hm => by
    obtain ⟨f, hf1, hf2⟩ := List.mem_map.1 hm
    cases hf2
    exact hf f hf1
  rw [hfs] at get
  rw [hs] at hl
  match cs, hl with
  | [c0, c1, c2, c3, c4], _ =>
    obtain ⟨x0, g0⟩ := get e 0 (by simp)
    obtain ⟨x1, g1⟩ := get e 1 (by simp)
    obtain ⟨x2, g2⟩ := get e 2 (by simp)
    obtain ⟨x3, g3⟩ := get f 3 (by simp)
    obtain ⟨x4, g4⟩ := get f 4 (by simp)
    obtain ⟨a0, o0, r0⟩ := d0 _ _ _ _ _ _ _ g0
    obtain ⟨a1, o1, r1⟩ := d0 _ _ _ _ _ _ _ g1
    obtain ⟨a2, o2, r2⟩ := d0 _ _ _ _ _ _ _ g2
    obtain ⟨a3, o3, r3⟩ := d1 _ _ _ _ _ _ _ g3
    obtain ⟨a4, o4, r4⟩ := d1 _ _ _ _ _ _ _ g4
    rw [h0] at r0 r1 r2; rw [h1] at r3 r4
    exact ⟨(a0, a1, a2, a3, a4), ⟨o0, o1, o2, o3, o4⟩, Rs_append (vals := [c0]) r0 (Rs_append (vals := [c1]) r1 (Rs_append (vals := [c2]) r2 (Rs_append (vals := [c3]) r3 r4)))⟩
end
end Go.AL

namespace Go.AL.Rl
open Go Go.AL Go.Proofs Go.RowKit Go.ChangeShapes Go.WideShapes Go.ChangeAt Go.Proofs.YtefobdmgflipjaaDoor
set_option maxRecDepth 100000

theorem laidOut : laidOutB Tryd.prog = true := by kernel_rfl
theorem mapsOk : mapsRowed Tryd.prog = true := by kernel_rfl
theorem slicesOk : ((List.range Tryd.prog.types.size).all fun t => match Tryd.prog.underlying t with | some (.slice e) => decide (0 < Tryd.prog.cellsOf e) | _ => true) = true := by kernel_rfl

theorem own : ownKnob Tryd.prog.godebug = none := by kernel_rfl
theorem gTab : Tryd.prog.globalNamed "math/bits.deBruijn64tab" = some 0 := by kernel_rfl
def γ0 : Nat → Option AV := fun g => if g = 0 then some tabAV else none
theorem table {W : World} {laid : List (String × DataW Unit)} (hl : laid = [("math/bits.deBruijn64tab", Rows.laid_math_bits_deBruijn64tab)]) (h : laidMet Tryd.prog laid W) : Lib.TabIs Tryd.prog W "math/bits.deBruijn64tab" .u8 (Lib.deBruijn64tab.map fun (n : Nat) => (n : Int)) := by
  subst hl
  exact Lib.tabIs_of_head (rest := []) gTab (t := 112) (by kernel_rfl) Tryd.underlying112 Tryd.underlying5 (by kernel_rfl) (by kernel_rfl) h
theorem gok0 {W : World} (h : Lib.TabIs Tryd.prog W "math/bits.deBruijn64tab" .u8 (Lib.deBruijn64tab.map fun (n : Nat) => (n : Int))) : ∀ g x, γ0 g = some x → R (Old W) W none (.vp (fun _ => x) 0) (.pointer (some ⟨g, 0, none⟩)) := by
  intro g x hg
  unfold γ0 at hg
  split at hg
  · rename_i h0
    subst h0
    cases hg
    have hc := fun i hi => h.cell gTab i hi
    have hlen : Lib.deBruijn64tab.length = 64 := by decide
    have hcell : ∀ i : Nat, i < 64 → W.cell? ⟨0, i, none⟩ = some (.int .u8 (Lib.deBruijn64tab.getD i 0 : Nat)) := fun i hi => by
      have := hc i (by rw [List.length_map]; omega)
      rw [this]; congr 2
      simp [hlen, hi]
    have hlt : 0 < W.heap.size := by
      have := hcell 0 (by omega)
      unfold World.cell? at this
      split at this
      · rename_i hb; exact (Array.getElem?_eq_some_iff.1 hb).1
      · cases this
    refine ⟨⟨0, 0, none⟩, .agg (Lib.deBruijn64tab.map fun (n : Nat) => Value.int .u8 n).toArray, rfl, ⟨_, rfl, ?_⟩, hlt, fun j c hj => ?_⟩
    · show Rs _ W none (Lib.deBruijn64tab.map fun (n : Nat) => .raw (.int .u8 n)) _
      generalize Lib.deBruijn64tab = l
      induction l with
      | nil => rfl
      | cons x l ih => exact ⟨_, _, rfl, rfl, ih⟩
    · have hj' : (Lib.deBruijn64tab.map fun (n : Nat) => Value.int .u8 n)[j]? = some c := by simpa [Value.cells] using hj
      have hj2 : j < 64 := by have := (List.getElem?_eq_some_iff.1 hj').1; rw [List.length_map] at this; omega
      rw [Nat.zero_add, hcell j hj2, ← hj']
      simp [hlen, hj2]
  · cases hg
theorem dInts : Dec Tryd.prog 22 (List Int) (fun l => [.vs 1 fun _ => is l]) fun l => l.length ≤ maxLen :=
  Dec.imap (Dec.slice Tryd.underlying22 (k := 1) (by kernel_rfl) (by omega) (Dec.int Tryd.underlying2) (fun _ => rfl) Elem.one) id (fun _ => rfl) fun _ h => h.1
theorem dEv : Dec Tryd.prog 49 Ev (fun e => [.i fun _ => e.kind, .i fun _ => e.loc, .i fun _ => e.order, .i fun _ => e.rd, .i fun _ => e.wr]) fun _ => True :=
  Dec.imap (Dec.struct5 Tryd.underlying49 (e := 3) (f := 2) (by kernel_rfl) (by kernel_rfl) (by kernel_rfl) (by kernel_rfl) (Dec.int Tryd.underlying3) (Dec.int Tryd.underlying2)) (fun p => ⟨p.1, p.2.1, p.2.2.1, p.2.2.2.1, p.2.2.2.2⟩) (fun _ => rfl) fun _ _ => trivial
theorem dId : Dec Tryd.prog 29 EId (fun e => [.i fun _ => e.t, .i fun _ => e.i]) fun _ => True :=
  Dec.imap (Dec.struct2 Tryd.underlying29 (t0 := 3) (t1 := 3) (s0 := 1) (s1 := 1) (by kernel_rfl) (by kernel_rfl) (by kernel_rfl) (by kernel_rfl) (Dec.int Tryd.underlying3) (Dec.int Tryd.underlying3)) (fun p => ⟨p.1, p.2⟩) (fun _ => rfl) fun _ _ => trivial
theorem dEvs : Dec Tryd.prog 50 (List Ev) (fun l => [.vs 5 fun _ => evs l]) fun l => l.length ≤ maxLen :=
  Dec.imap (Dec.slice Tryd.underlying50 (k := 5) (by kernel_rfl) (by omega) dEv (fun _ => rfl) (Elem.agg 5)) id (fun _ => rfl) fun _ h => h.1
theorem dIds : Dec Tryd.prog 38 (List EId) (fun l => [.vs 2 fun _ => ids l]) fun l => l.length ≤ maxLen :=
  Dec.imap (Dec.slice Tryd.underlying38 (k := 2) (by kernel_rfl) (by omega) dId (fun _ => rfl) (Elem.agg 2)) id (fun _ => rfl) fun _ h => h.1
theorem dEvss : Dec Tryd.prog 23 (List (List Ev)) (fun l => [.vs 1 fun _ => evss l]) fun l => l.length ≤ maxLen ∧ ∀ a ∈ l, a.length ≤ maxLen :=
  Dec.imap (Dec.slice Tryd.underlying23 (k := 1) (by kernel_rfl) (by omega) dEvs (fun _ => rfl) Elem.one) id (fun _ => rfl) fun _ h => h
theorem dIdss : Dec Tryd.prog 24 (List (List EId)) (fun l => [.vs 1 fun _ => idss l]) fun l => l.length ≤ maxLen ∧ ∀ a ∈ l, a.length ≤ maxLen :=
  Dec.imap (Dec.slice Tryd.underlying24 (k := 1) (by kernel_rfl) (by omega) dIds (fun _ => rfl) Elem.one) id (fun _ => rfl) fun _ h => h
theorem dGr : Dec Tryd.prog 26 Gr (fun g => [.vs 1 fun _ => is g.init, .vs 1 fun _ => evss g.th, .vs 1 fun _ => idss g.fr, .vs 1 fun _ => idss g.ord]) Rd :=
  Dec.imap (Dec.struct4 Tryd.underlying26 (t0 := 22) (t1 := 23) (t2 := 24) (t3 := 24) (by kernel_rfl) (by kernel_rfl) (by kernel_rfl) (by kernel_rfl) (by kernel_rfl) (by kernel_rfl) dInts dEvss dIdss dIdss)
    (fun p => ⟨p.1, p.2.1, p.2.2.1, p.2.2.2⟩) (fun _ => rfl) fun p h => by
      have e : maxLen = 9223372036854775807 := by decide +kernel
      obtain ⟨h0, ⟨h1, h1'⟩, ⟨h2, h2'⟩, h3, h3'⟩ := h
      rw [e] at *
      exact ⟨by dsimp only; omega, by dsimp only; omega, by dsimp only; omega, by dsimp only; omega, fun l hl => by have := h1' l hl; omega, fun l hl => by have := h2' l hl; omega, fun l hl => by have := h3' l hl; omega⟩
/-- A world for the witness: the settled one, the table holding what its initialiser lays. -/
noncomputable def laidWorld (os : Os) : World :=
  { World.holding Tryd.prog os ⟨#[], #[], []⟩ with heap := (World.holding Tryd.prog os ⟨#[], #[], []⟩).heap.modify 0 fun
      | .cells _ t frozen => .cells (Lib.deBruijn64tab.map fun (n : Nat) => Value.int .u8 n).toArray t frozen
      | o => o }

end Go.AL.Rl

namespace Go.AL
open Go Go.RowKit
section
variable {P : Program}
theorem Dec.struct3 {t : TypeId} {a : Array Field} (ht : P.underlying t = some (.struct a)) {t0 t1 t2 : TypeId} {s0 s1 s2 : Nat} (hfs : a.toList.map (fun f => (f.type, f.offset)) = [(t0, 0), (t1, s0), (t2, s0 + s1)])
    (h0 : P.cellsOf t0 = s0) (h1 : P.cellsOf t1 = s1) (h2 : P.cellsOf t2 = s2) (hs : P.cellsOf t = s0 + s1 + s2)
    {A0 A1 A2 : Type} {e0 : A0 → List AV} {e1 : A1 → List AV} {e2 : A2 → List AV} {k0 : A0 → Prop} {k1 : A1 → Prop} {k2 : A2 → Prop}
    (d0 : Dec P t0 A0 e0 k0) (d1 : Dec P t1 A1 e1 k1) (d2 : Dec P t2 A2 e2 k2) :
    Dec P t (A0 × A1 × A2) (fun p => e0 p.1 ++ (e1 p.2.1 ++ e2 p.2.2)) fun p => k0 p.1 ∧ k1 p.2.1 ∧ k2 p.2.2 := by
  refine Dec.fields ht rfl fun {H} enc w spare held n cs hl hf => ?_
  have get : ∀ t o, (t, o) ∈ a.toList.map (fun f => (f.type, f.offset)) → ∃ x, DataW.trod enc P w 0 spare held n t ((cs.drop o).take (P.cellsOf t)) = some x := fun t o hm => by
    obtain ⟨f, hf1, hf2⟩ := List.mem_map.1 hm
    cases hf2
    exact hf f hf1
  rw [hfs] at get
  obtain ⟨x0, g0⟩ := get t0 0 (by simp)
  obtain ⟨x1, g1⟩ := get t1 s0 (by simp)
  obtain ⟨x2, g2⟩ := get t2 (s0 + s1) (by simp)
  obtain ⟨a0, o0, r0⟩ := d0 _ _ _ _ _ _ _ g0
  obtain ⟨a1, o1, r1⟩ := d1 _ _ _ _ _ _ _ g1
  obtain ⟨a2, o2, r2⟩ := d2 _ _ _ _ _ _ _ g2
  refine ⟨(a0, a1, a2), ⟨o0, o1, o2⟩, ?_⟩
  rw [h0] at r0; rw [h1] at r1; rw [h2] at r2
  have hl := hl.trans hs
  have e : cs = cs.take s0 ++ ((cs.drop s0).take s1 ++ (cs.drop (s0 + s1)).take s2) := by
    have e1 : (cs.drop (s0 + s1)).take s2 = cs.drop (s0 + s1) := List.take_of_length_le (by simp; omega)
    rw [e1, ← List.drop_drop, List.take_append_drop, List.take_append_drop]
  rw [e]
  exact Rs_append (by simpa using r0) (Rs_append r1 r2)
end
end Go.AL
namespace Go.AL.Rl
open Go Go.AL Go.Proofs Go.RowKit Go.ChangeShapes Go.WideShapes Go.ChangeAt Go.Proofs.YtefobdmgflipjaaDoor
set_option maxRecDepth 100000

theorem dMk : Dec Tryd.prog 31 Mk (fun m => [.i fun _ => m.id.t, .i fun _ => m.id.i, .b fun _ => m.w]) fun _ => True :=
  Dec.imap (Dec.struct2 Tryd.underlying31 (t0 := 29) (t1 := 4) (s0 := 2) (s1 := 1) (by kernel_rfl) (by kernel_rfl) (by kernel_rfl) (by kernel_rfl) dId (Dec.bool Tryd.underlying4)) (fun p => ⟨p.1, p.2⟩) (fun _ => rfl) fun _ _ => trivial
theorem dMks : Dec Tryd.prog 32 (List Mk) (fun l => [.vs 3 fun _ => mks l]) fun l => l.length ≤ maxLen :=
  Dec.imap (Dec.slice Tryd.underlying32 (k := 3) (by kernel_rfl) (by omega) dMk (fun _ => rfl) (Elem.agg 3)) id (fun _ => rfl) fun _ h => h.1
theorem dSt : Dec Tryd.prog 34 Sta (fun s => [.vs 1 fun _ => is s.g.init, .vs 1 fun _ => evss s.g.th, .vs 1 fun _ => idss s.g.fr, .vs 1 fun _ => idss s.g.ord, .vs 3 fun _ => mks s.ms, .i fun _ => s.half]) (fun s => Rd s.g ∧ (s.ms.length : Int) ≤ 9223372036854775807) :=
  Dec.imap (Dec.struct3 Tryd.underlying34 (t0 := 26) (t1 := 32) (t2 := 3) (s0 := 4) (s1 := 1) (s2 := 1) (by kernel_rfl) (by kernel_rfl) (by kernel_rfl) (by kernel_rfl) (by kernel_rfl) dGr dMks (Dec.int Tryd.underlying3)) (fun p => ⟨p.1, p.2.1, p.2.2⟩) (fun _ => rfl) fun p h => by
    have e : maxLen = 9223372036854775807 := by decide +kernel
    obtain ⟨h0, h1, _⟩ := h
    rw [e] at h1
    exact ⟨h0, by dsimp only; omega⟩
theorem aState : Arg Tryd.prog 34 Sta aSt (fun s => Rd s.g ∧ (s.ms.length : Int) ≤ 9223372036854775807) := Arg.agg Tryd.underlying34 dSt
theorem aIds : Arg Tryd.prog 38 (List EId) (fun l => .vs 2 fun _ => ids l) (fun l => (l.length : Int) ≤ 9223372036854775807) := Arg.one Tryd.underlying38 trivial (Dec.imap dIds id (fun _ => rfl) fun l h => by
  have e : maxLen = 9223372036854775807 := by decide +kernel
  rw [e] at h
  show (l.length : Int) ≤ _
  omega)
end Go.AL.Rl

namespace Go.AL.Rl
open Go Go.AL Go.Proofs Go.RowKit Go.ChangeShapes Go.WideShapes Go.ChangeAt Go.Proofs.YtefobdmgflipjaaDoor
set_option maxRecDepth 100000
namespace PrefixTwice
theorem contract (H : Type) (enc : TypeId × Value → H) (W : World) (base : Nat) (args : Array Value) (ds gs : List (DataW H)) (before : List MemPlace)
    (hval : ∀ (j : Nat) t v, Tryd.f4.params[j]? = some t → args[j]? = some v → Value.okWide Tryd.prog W .any base t v)
    (hW : DataW.Whole enc Tryd.prog Tryd.f4.params.toList Rows.prefixTwiceSpec.vars false W args.toList ds gs before) (hL : laidMet Tryd.prog Rows.prefixTwiceRow.laid W) :
    Calls Tryd.prog 4 args W fun e W' => ∃ v, e = .returned v ∧ Rows.prefixTwiceSpec.post enc Tryd.prog Tryd.f4 false true false false W args v W' := by
  have hW' := hW
  obtain ⟨p, q, hA, hV, rfl, hfz, hnd⟩ := hW
  rw [Tryd.params4] at hA hval
  obtain ⟨v0, vs0, d0, ds0, p0, q0, hargs, rfl, rfl, h0, r0⟩ := trodAll_cons hA
  obtain ⟨v1, vs1, d1, ds1, p1, q1, rfl, rfl, rfl, h1, r1⟩ := trodAll_cons r0
  obtain ⟨v2, vs2, d2, ds2, p2, q2, rfl, rfl, rfl, h2, r2⟩ := trodAll_cons r1
  obtain ⟨rfl, rfl, rfl⟩ := trodAll_nil r2
  obtain rfl : args = #[v0, v1, v2] := by cases args; simp_all
  obtain ⟨x0, k0, a0⟩ := aState enc W base v0 d0 p0 (hval 0 _ v0 rfl rfl) h0
  obtain ⟨x1, k1, a1⟩ := aIds enc W base v1 d1 p1 (hval 1 _ v1 rfl rfl) h1
  obtain ⟨x2, k2, a2⟩ := aIds enc W base v2 d2 p2 (hval 2 _ v2 rfl rfl) h2
  exact law_true (prefixTwice_ok (γ := γ0) rfl x0 k0.1 k0.2 x1 x2) ⟨_, _, rfl, a0, _, _, rfl, a1, _, _, rfl, a2, rfl⟩ (gok0 (table rfl hL)) hW' rfl (tb := 4) (by kernel_rfl) Tryd.underlying4
    (fun ds' h => by match ds', h with | [a, b, c], _ => rfl) laidOut mapsOk slicesOk (by rw [Tryd.params4]; decide +kernel)
theorem laid_met (os : Os) : laidMet Tryd.prog Rows.prefixTwiceRow.laid ((laidWorld os).forCall (fun _ _ => 0) ⟨#[], #[.agg #[.slice none 0 0, .slice none 0 0, .slice none 0 0, .slice none 0 0, .slice none 0 0, .int .i64 0], .slice none 0 0, .slice none 0 0], []⟩).memory :=
  laidMet_of_run' 8 (by kernel_rfl) (by kernel_rfl)
theorem reads (os : Os) {H : Type} (enc : TypeId × Value → H) : ∃ places, DataW.whole enc Tryd.prog ((laidWorld os).forCall (fun _ _ => 0) ⟨#[], #[.agg #[.slice none 0 0, .slice none 0 0, .slice none 0 0, .slice none 0 0, .slice none 0 0, .int .i64 0], .slice none 0 0, .slice none 0 0], []⟩).memory Tryd.f4.params.toList Rows.prefixTwiceSpec.vars false (#[.agg #[.slice none 0 0, .slice none 0 0, .slice none 0 0, .slice none 0 0, .slice none 0 0, .int .i64 0], .slice none 0 0, .slice none 0 0] : Array Value).toList 8 = some ([.agg [.agg [.nil, .nil, .nil, .nil], .nil, .lit (.int .i64 0)], .nil, .nil], [], places) :=
  ⟨[], by kernel_rfl⟩
theorem lifted (os : Os) (started : os.Started) (H : Type) (enc : TypeId × Value → H) (F : Stop.Interp) :
    ReturnsInHanded {} Tryd.checked os 4 .any ((OpenSpec.ofChange Rows.prefixTwiceSpec).preRow enc Tryd.prog Tryd.f4 Rows.prefixTwiceRow.domain false Rows.prefixTwiceRow.laid) (((OpenSpec.ofChange Rows.prefixTwiceSpec).at F).post enc Tryd.prog Tryd.f4 false true false false) := by
  obtain ⟨places, hx⟩ := reads os enc
  refine returnsInHanded_of_row (C := Tryd.checked) (s := OpenSpec.ofChange Rows.prefixTwiceSpec) own started (by kernel_rfl) Tryd.func4
    (witness_row_at (enc := enc) (C := Tryd.checked) false (laidWorld os) #[.agg #[.slice none 0 0, .slice none 0 0, .slice none 0 0, .slice none 0 0, .slice none 0 0, .int .i64 0], .slice none 0 0, .slice none 0 0] rfl (by kernel_rfl) (by kernel_rfl) (by kernel_rfl)
      (OpenSpec.preRow_of_cond 8 hx (by kernel_rfl) (fun k hk => by cases hk) (by kernel_rfl) (laid_met os))) ?_
  intro W base args ds gs before hval hW _ _ _ hL _ _
  exact contract H enc W base args ds gs before hval hW hL
theorem said : Rows.PrefixTwiceSaid :=
  OpenClaim.holds_of_cond 4 Tryd.f4 rfl rfl rfl rfl rfl rfl rfl ⟨rfl, rfl, rfl, rfl, rfl⟩ rfl rfl rfl rfl rfl (by kernel_rfl) Tryd.func4 (by kernel_rfl)
    (of_decide_eq_true (by kernel_rfl)) (by unfold Func.isWrapper; first | (rw [if_pos (by decide +kernel)]; kernel_rfl) | (rw [if_neg (by decide +kernel)]; exact ⟨rfl, rfl⟩))
    (fun os started H enc _ F => by rw [OpenClaim.pre_eq_preRow]; exact lifted os started H enc F)
theorem plain (f : FuncId) (fn : Func) (hf : Tryd.pinned.checked.prog.funcNamed "cantilever/cantileverlaw18.PrefixTwice" = some f) (hfn : Tryd.pinned.checked.prog.funcs[f]? = some fn) :
    false = Tryd.pinned.checked.prog.looks [] ∧ ∀ (j : Nat) t, fn.params[j]? = some t → Tryd.pinned.checked.prog.wantsStandIn t = false := by
  obtain rfl : f = 4 := Option.some.inj ((show Tryd.prog.funcNamed "cantilever/cantileverlaw18.PrefixTwice" = some 4 by kernel_rfl).symm.trans hf) |>.symm
  obtain rfl : fn = Tryd.f4 := (Option.some.inj (Tryd.func4.symm.trans hfn)).symm
  refine ⟨by kernel_rfl, fun j t ht => ?_⟩
  have key : ∀ t ∈ (Tryd.f4.params).toList, Tryd.prog.wantsStandIn t = false := by
    rw [Tryd.params4]; decide +kernel
  exact key t (Array.mem_toList_iff.2 (Array.mem_of_getElem? ht))
theorem card : Rows.PrefixTwiceCardSaid :=
  Claim7.holds_tied_plain_at .later [] _ _ _ _ said (fun _ h => by cases h) (by kernel_rfl) (fun _ h => by cases h) prefixTwice_row_tie rfl ⟨rfl, rfl⟩ (by kernel_rfl) rfl plain (by kernel_rfl)
end PrefixTwice
end Go.AL.Rl
