import Derived.Test.YtjhpgccalopngaaGreatDoorMw6
set_option linter.unusedVariables false
set_option linter.unusedSimpArgs false
namespace Go.AL.Rl
open Go Go.AL Go.Proofs
set_option maxRecDepth 100000
set_option maxHeartbeats 1600000
variable {γ : Nat → Option AV}

theorem wplace_ok (g : Gr) (hg : Rd g) (h : GOk g) (a : Nat) (ha : a < nG g) (hw : writesM ((viewG g).ev.getD a ev0) = true) : Pure Tryz.prog γ false 79 [pW g, .i fun _ => (a : Int)] (.i fun _ => (viewG g).pl.getD a 0) := by
  rw [vpl h a ha]
  have hev : eventM g ((idsG g).getD a id0) = some ((evsG g).getD a ev0) := vev h a ha
  have hw : writesM ((evsG g).getD a ev0) = true := hw
  have hn : nG g ≤ 62 := (viewG_wf h).small
  have hEl := evsG_l g
  have hLn := idsG_l g
  unfold pW
  generalize idsG g = L at *
  generalize evsG g = Es at *
  generalize nG g = n at *
  have hpw := pl_write h hev hw
  have hl : (L.getD a id0).t ≠ 0 → 0 ≤ (Es.getD a ev0).loc ∧ (Es.getD a ev0).loc < g.ord.length := fun h0 => by
    have := fine_loc (event_fine h hev h0) (notFence_w hw)
    rw [h.lord]; exact this
  have hord := ordsAt hg (Es.getD a ev0).loc.toNat
  have hnd : (g.ord.getD (Es.getD a ev0).loc.toNat []).Nodup := by
    by_cases hx : (Es.getD a ev0).loc.toNat < g.init.length
    · exact ((ordered_iff g _).1 (h.orders _ hx)).1
    · rw [List.getD_eq_getElem?_getD, List.getElem?_eq_none (by rw [h.lord]; omega)]; simp
  obtain ⟨l, hll⟩ : ∃ l, l = g.ord.getD (Es.getD a ⟨0, 0, 0, 0, 0⟩).loc.toNat [] := ⟨_, rfl⟩
  obtain ⟨p, hp⟩ : ∃ p, p = plOf g (L.getD a id0) := ⟨_, rfl⟩
  rw [← hp] at hpw ⊢
  rw [← hll] at hpw hord hnd
  refine Pure.go (ty := ty) ty_eq mo Tryz.func79 rfl Tryz.ntmps79 Tryz.results79 Tryz.call79 (by simp) fun P C CQ D W F E hF => ?_
  cbv
  skip
  repeat' (first
    | (refine ⟨fun _ h_s => ?_, fun _ h_s => ?_⟩ <;> (cbv; (try simp only [nc] at *); try simp (disch := (first | omega | (simp only [lnS, zA, zM, zG, zP]; omega))) only [nc, nct, w64_of, zT, zZ, zM, rdS, at_agg, bofZ, bof1, bof0, zC, zS, ← hll, reduceCtorEq, Bool.not_true, Bool.not_false, zD, zE, zB, zF, zN, zO, ne_eq, zQ, zL, zR, beq_iff_eq] at h_s))
    | (refine hF ?_; intro _; clear hF)
    | (refine hF ?_; cbv; clear hF)
    | (refine ⟨fun _ => ?_, ?_⟩; (· ((try simp only [nc] at *); first | done | omega | exact ⟨by omega, rfl⟩ | (simp (disch := (first | omega | (simp only [lnS, zA, zM, zG, zP]; omega))) only [nc, nct, w64_of, zT, zZ, zM, rdS, at_agg, bofZ, bof1, bof0, zC, zS, ← hll]; first | done | omega | rfl | exact ⟨by omega, rfl⟩ | (simp; done) | (simp; omega)) | (intros; trivial))); (try (simp only [nc] at *)); (try simp (disch := (first | omega | (simp only [lnS, zA, zM, zG, zP]; omega))) only [nc, nct, w64_of, zT, zZ, zM, rdS, at_agg, bofZ, bof1, bof0, zC, zS, ← hll]); (try cbv))
    | (refine E.d 11 (by decide +kernel) ?_; cbv; (fail_if_success guard_target =~ False))
    | (refine E.d 13 (by decide +kernel) ?_; cbv; (fail_if_success guard_target =~ False))
    | fail
  )
  · rcases hpw with h1 | h1
    · exact h1.2.symm
    · exact absurd h_s h1.1
  · obtain ⟨h0, k0, hk1, hk2, hk3⟩ := hpw.resolve_left fun h1 => h_s h1.1
    have hl' := hl h0
    repeat' (first
      | (refine ⟨fun _ h_s => ?_, fun _ h_s => ?_⟩ <;> (cbv; (try simp only [nc] at *); try simp (disch := (first | omega | (simp only [lnS, zA, zM, zG, zP]; omega))) only [nc, nct, w64_of, zT, zZ, zM, rdS, at_agg, bofZ, bof1, bof0, zC, zS, ← hll, reduceCtorEq, Bool.not_true, Bool.not_false, zD, zE, zB, zF, zN, zO, ne_eq, zQ, zL, zR, beq_iff_eq] at h_s))
      | (refine hF ?_; intro _; clear hF)
      | (refine hF ?_; cbv; clear hF)
      | (refine ⟨fun _ => ?_, ?_⟩; (· ((try simp only [nc] at *); first | done | omega | exact ⟨by omega, rfl⟩ | (simp (disch := (first | omega | (simp only [lnS, zA, zM, zG, zP]; omega))) only [nc, nct, w64_of, zT, zZ, zM, rdS, at_agg, bofZ, bof1, bof0, zC, zS, ← hll]; first | done | omega | rfl | exact ⟨by omega, rfl⟩ | (simp; done) | (simp; omega)) | (intros; trivial))); (try (simp only [nc] at *)); (try simp (disch := (first | omega | (simp only [lnS, zA, zM, zG, zP]; omega))) only [nc, nct, w64_of, zT, zZ, zM, rdS, at_agg, bofZ, bof1, bof0, zC, zS, ← hll]); (try cbv))
      | (refine E.d 11 (by decide +kernel) ?_; cbv; (fail_if_success guard_target =~ False))
      | (refine E.d 13 (by decide +kernel) ?_; cbv; (fail_if_success guard_target =~ False))
      | fail
    )
    refine E.loopS (ι := Nat) (fun k => k ≤ l.length ∧ (k ≤ k0)) (fun k => l.length - k) (fun k => [(6, .i fun _ => ((k : Nat) : Int))]) (fun k h => h) 0 (fun _ => by first | rfl | simp) ⟨Nat.zero_le _, ?_⟩ ?_ fun k hk I hI => ?_
    · omega
    · cbv; simp
    cbv
    repeat' (first
      | (refine hI (k + 1) ?_ ?_ ?_; rotate_left 1; (· ((try simp only [nc] at *); omega)); (cbv; clear hI; (try clear hF); (try simp only [nc] at *); (try simp (disch := (first | omega | (simp only [lnS, zA, zM, zG, zP]; omega))) only [nc, nct, w64_of, zT, zZ, zM, rdS, at_agg, bofZ, bof1, bof0, zC, zS, ← hll, implies_true, and_true, true_and, forall_const])); rotate_left 1; (try ((try simp only [nc] at *); omega)))
      | (refine ⟨fun _ h_s => ?_, fun _ h_s => ?_⟩ <;> (cbv; (try simp only [nc] at *); try simp (disch := (first | omega | (simp only [lnS, zA, zM, zG, zP]; omega))) only [nc, nct, w64_of, zT, zZ, zM, rdS, at_agg, bofZ, bof1, bof0, zC, zS, ← hll, reduceCtorEq, Bool.not_true, Bool.not_false, zD, zE, zB, zF, zN, zO, ne_eq, zQ, zL, zR, beq_iff_eq] at h_s))
      | (refine hF ?_; intro _; clear hF)
      | (refine hF ?_; cbv; clear hF)
      | (refine ⟨fun _ => ?_, ?_⟩; (· ((try simp only [nc] at *); first | done | omega | exact ⟨by omega, rfl⟩ | (simp (disch := (first | omega | (simp only [lnS, zA, zM, zG, zP]; omega))) only [nc, nct, w64_of, zT, zZ, zM, rdS, at_agg, bofZ, bof1, bof0, zC, zS, ← hll]; first | done | omega | rfl | exact ⟨by omega, rfl⟩ | (simp; done) | (simp; omega)) | (intros; trivial))); (try (simp only [nc] at *)); (try simp (disch := (first | omega | (simp only [lnS, zA, zM, zG, zP]; omega))) only [nc, nct, w64_of, zT, zZ, zM, rdS, at_agg, bofZ, bof1, bof0, zC, zS, ← hll]); (try cbv))
      | (refine E.d 11 (by decide +kernel) ?_; cbv; (fail_if_success guard_target =~ False))
      | (refine E.d 13 (by decide +kernel) ?_; cbv; (fail_if_success guard_target =~ False))
      | fail
    )
    · simp only [Bool.and_true, Bool.and_eq_true, decide_eq_true_eq] at h_s
      have he : l.getD k id0 = l.getD k0 id0 := (EId.ext' h_s.1 h_s.2).trans hk3.symm
      have e : k = k0 := getD_inj hnd (by ((try simp only [nc] at *); omega)) hk2 he
      subst e
      show w64 ((k : Int) + 1) = p
      rw [hk1, w64_of (by ((try simp only [nc] at *); omega)) (by ((try simp only [nc] at *); omega))]
    · refine ⟨by ((try simp only [nc] at *); omega), ?_⟩
      rcases Nat.lt_or_ge k k0 with hlt | hge
      · omega
      · exfalso
        have : k = k0 := by omega
        subst this
        rw [hk3] at h_s
        simp at h_s
    · push_cast; rfl
    · exfalso; ((try simp only [nc] at *); omega)
theorem wrf_ok (g : Gr) (h : GOk g) (a b : Nat) (ha : a < nG g) (hb : b < nG g) : Pure Tryz.prog γ false 38 [pW g, .i fun _ => (a : Int), .i fun _ => (b : Int)] (.b fun _ => rfM (viewG g) a b) := by
  have k := wfrom_ok (γ := γ) g h b hb
  refine Pure.go (ty := ty) ty_eq mo Tryz.func38 rfl Tryz.ntmps38 Tryz.results38 Tryz.call38 (by simp) fun P C CQ D W F E hF => ?_
  cbv
  repeat' (first
    | (refine E.c (SCalls.of_le (k) ?_ ?_); (· (cbv; (try simp only [nc] at *); first | done | (simp; done) | (simp (disch := (first | omega | (simp only [lnS, zA, zM, zG, zP]; omega))) only [nc, nct, w64_of, zT, zZ, zM, rdS, at_agg, bofZ, bof1, bof0, zC, zS, ← hll, implies_true, and_true, true_and, forall_const]; first | done | omega | (refine ⟨?_, ?_⟩ <;> omega)) | (simp (disch := (first | omega | (simp only [lnS, zA, zM, zG, zP]; omega))) [nc, nct, w64_of, zT, zZ, zM, rdS, at_agg, bofZ, bof1, bof0, zC, zS, ← hll]; done))); cbv)
    | (refine E.q (QCalls.of_le (k) ?_ ?_); (· (cbv; (try simp only [nc] at *); first | done | (simp; done) | (simp (disch := (first | omega | (simp only [lnS, zA, zM, zG, zP]; omega))) only [nc, nct, w64_of, zT, zZ, zM, rdS, at_agg, bofZ, bof1, bof0, zC, zS, ← hll, implies_true, and_true, true_and, forall_const]; first | done | omega | (refine ⟨?_, ?_⟩ <;> omega)) | (simp (disch := (first | omega | (simp only [lnS, zA, zM, zG, zP]; omega))) [nc, nct, w64_of, zT, zZ, zM, rdS, at_agg, bofZ, bof1, bof0, zC, zS, ← hll]; done))); cbv)
    | (refine ⟨fun _ h_s => ?_, fun _ h_s => ?_⟩ <;> (cbv; (try simp only [nc] at *); try simp (disch := (first | omega | (simp only [lnS, zA, zM, zG, zP]; omega))) only [nc, nct, w64_of, zT, zZ, zM, rdS, at_agg, bofZ, bof1, bof0, zC, zS, ← hll, reduceCtorEq, Bool.not_true, Bool.not_false, zD, zE, zB, zF, zN, zO, ne_eq, zQ, zL, zR, beq_iff_eq] at h_s))
    | (refine hF ?_; intro _; clear hF)
    | (refine hF ?_; cbv; clear hF)
    | (refine ⟨fun _ => ?_, ?_⟩; (· ((try simp only [nc] at *); first | done | omega | exact ⟨by omega, rfl⟩ | (simp (disch := (first | omega | (simp only [lnS, zA, zM, zG, zP]; omega))) only [nc, nct, w64_of, zT, zZ, zM, rdS, at_agg, bofZ, bof1, bof0, zC, zS, ← hll]; first | done | omega | rfl | exact ⟨by omega, rfl⟩ | (simp; done) | (simp; omega)) | (intros; trivial))); (try (simp only [nc] at *)); (try simp (disch := (first | omega | (simp only [lnS, zA, zM, zG, zP]; omega))) only [nc, nct, w64_of, zT, zZ, zM, rdS, at_agg, bofZ, bof1, bof0, zC, zS, ← hll]); (try cbv))
    | fail
  )
  all_goals (try simp only [nc] at *)
  all_goals (try simp (disch := (first | omega | (simp only [lnS, zA, zM, zG, zP]; omega))) only [nc, nct, w64_of, zT, zZ, zM, rdS, at_agg, bofZ, bof1, bof0, zC, zS, ← hll])
  all_goals (try simp only [rfM])
end Go.AL.Rl

namespace Go.AL.Rl
open Go Go.AL Go.Proofs
set_option maxRecDepth 100000
set_option maxHeartbeats 1600000
variable {γ : Nat → Option AV}

theorem co_eq {g : Gr} (h : GOk g) (a b : Nat) (ha : a < nG g) (hb : b < nG g) : coM (viewG g) a b = (writesM ((viewG g).ev.getD a ev0) && writesM ((viewG g).ev.getD b ev0) && decide (((viewG g).ev.getD a ev0).loc = ((viewG g).ev.getD b ev0).loc) && decide ((viewG g).pl.getD a 0 < (viewG g).pl.getD b 0)) := by
  rw [Bool.eq_iff_iff]
  unfold coM
  simp only [Bool.and_eq_true, decide_eq_true_eq, pl_iff h a ha]
  constructor
  · rintro ⟨⟨h1, h2⟩, h3⟩
    have p1 := (pl_iff h a ha).2 h1
    refine ⟨⟨⟨h1, (pl_iff h b hb).1 (by omega)⟩, ?_⟩, h3⟩
    unfold nearM at h2
    simp only [Bool.and_eq_true, decide_eq_true_eq] at h2
    exact h2.2
  · rintro ⟨⟨⟨h1, h2⟩, h3⟩, h4⟩
    exact ⟨⟨h1, near_of (notFence_w h1) (notFence_w h2) h3⟩, h4⟩
theorem fr_eq {g : Gr} (h : GOk g) (a b : Nat) (ha : a < nG g) : frM (viewG g) a b = (decide (a ≠ b) && readsM ((viewG g).ev.getD a ev0) && coM (viewG g) ((viewG g).fr.getD a 0).toNat b) := by
  unfold frM
  congr 2
  rw [Bool.eq_iff_iff, decide_eq_true_eq, fr_iff h a ha]
theorem wco_ok (g : Gr) (hg : Rd g) (h : GOk g) (a b : Nat) (ha : a < nG g) (hb : b < nG g) : Pure Tryz.prog γ false 39 [pW g, .i fun _ => (a : Int), .i fun _ => (b : Int)] (.b fun _ => coM (viewG g) a b) := by
  have h1 := evsG_l g
  have q1 := wwrites_ok (γ := γ) g a ha
  have q2 := wwrites_ok (γ := γ) g b hb
  have q3 := wplace_ok (γ := γ) g hg h a ha
  have q4 := wplace_ok (γ := γ) g hg h b hb
  rw [co_eq h a b ha hb]
  obtain ⟨wa, hwa⟩ : ∃ w, w = writesM ((viewG g).ev.getD a ev0) := ⟨_, rfl⟩
  obtain ⟨wb, hwb⟩ : ∃ w, w = writesM ((viewG g).ev.getD b ev0) := ⟨_, rfl⟩
  rw [← hwa] at q1 q3 ⊢
  rw [← hwb] at q2 q4 ⊢
  show Pure _ _ _ _ _ (.b fun _ => wa && wb && decide (((evsG g).getD a ev0).loc = ((evsG g).getD b ev0).loc) && decide ((viewG g).pl.getD a 0 < (viewG g).pl.getD b 0))
  generalize (viewG g).pl.getD a 0 = pa at *
  generalize (viewG g).pl.getD b 0 = pb at *
  refine Pure.go (ty := ty) ty_eq mo Tryz.func39 rfl Tryz.ntmps39 Tryz.results39 Tryz.call39 (by simp) fun P C CQ D W F E hF => ?_
  cbv
  repeat' (first
    | (refine E.c (SCalls.of_le (q4 (by assumption)) ?_ ?_); (· (cbv; (try simp only [nc] at *); first | done | (simp; done) | (simp (disch := (first | omega | (simp only [lnS, zA, zM, zG, zP]; omega))) only [nc, nct, w64_of, zT, zZ, zM, rdS, at_agg, bofZ, bof1, bof0, zC, zS, implies_true, and_true, true_and, forall_const]; first | done | omega | (refine ⟨?_, ?_⟩ <;> omega)) | (simp (disch := (first | omega | (simp only [lnS, zA, zM, zG, zP]; omega))) [nc, nct, w64_of, zT, zZ, zM, rdS, at_agg, bofZ, bof1, bof0, zC, zS]; done))); cbv)
    | (refine E.q (QCalls.of_le (q4 (by assumption)) ?_ ?_); (· (cbv; (try simp only [nc] at *); first | done | (simp; done) | (simp (disch := (first | omega | (simp only [lnS, zA, zM, zG, zP]; omega))) only [nc, nct, w64_of, zT, zZ, zM, rdS, at_agg, bofZ, bof1, bof0, zC, zS, implies_true, and_true, true_and, forall_const]; first | done | omega | (refine ⟨?_, ?_⟩ <;> omega)) | (simp (disch := (first | omega | (simp only [lnS, zA, zM, zG, zP]; omega))) [nc, nct, w64_of, zT, zZ, zM, rdS, at_agg, bofZ, bof1, bof0, zC, zS]; done))); cbv)
    | (refine E.c (SCalls.of_le (q3 (by assumption)) ?_ ?_); (· (cbv; (try simp only [nc] at *); first | done | (simp; done) | (simp (disch := (first | omega | (simp only [lnS, zA, zM, zG, zP]; omega))) only [nc, nct, w64_of, zT, zZ, zM, rdS, at_agg, bofZ, bof1, bof0, zC, zS, implies_true, and_true, true_and, forall_const]; first | done | omega | (refine ⟨?_, ?_⟩ <;> omega)) | (simp (disch := (first | omega | (simp only [lnS, zA, zM, zG, zP]; omega))) [nc, nct, w64_of, zT, zZ, zM, rdS, at_agg, bofZ, bof1, bof0, zC, zS]; done))); cbv)
    | (refine E.q (QCalls.of_le (q3 (by assumption)) ?_ ?_); (· (cbv; (try simp only [nc] at *); first | done | (simp; done) | (simp (disch := (first | omega | (simp only [lnS, zA, zM, zG, zP]; omega))) only [nc, nct, w64_of, zT, zZ, zM, rdS, at_agg, bofZ, bof1, bof0, zC, zS, implies_true, and_true, true_and, forall_const]; first | done | omega | (refine ⟨?_, ?_⟩ <;> omega)) | (simp (disch := (first | omega | (simp only [lnS, zA, zM, zG, zP]; omega))) [nc, nct, w64_of, zT, zZ, zM, rdS, at_agg, bofZ, bof1, bof0, zC, zS]; done))); cbv)
    | (refine E.c (SCalls.of_le (q2) ?_ ?_); (· (cbv; (try simp only [nc] at *); first | done | (simp; done) | (simp (disch := (first | omega | (simp only [lnS, zA, zM, zG, zP]; omega))) only [nc, nct, w64_of, zT, zZ, zM, rdS, at_agg, bofZ, bof1, bof0, zC, zS, implies_true, and_true, true_and, forall_const]; first | done | omega | (refine ⟨?_, ?_⟩ <;> omega)) | (simp (disch := (first | omega | (simp only [lnS, zA, zM, zG, zP]; omega))) [nc, nct, w64_of, zT, zZ, zM, rdS, at_agg, bofZ, bof1, bof0, zC, zS]; done))); cbv)
    | (refine E.q (QCalls.of_le (q2) ?_ ?_); (· (cbv; (try simp only [nc] at *); first | done | (simp; done) | (simp (disch := (first | omega | (simp only [lnS, zA, zM, zG, zP]; omega))) only [nc, nct, w64_of, zT, zZ, zM, rdS, at_agg, bofZ, bof1, bof0, zC, zS, implies_true, and_true, true_and, forall_const]; first | done | omega | (refine ⟨?_, ?_⟩ <;> omega)) | (simp (disch := (first | omega | (simp only [lnS, zA, zM, zG, zP]; omega))) [nc, nct, w64_of, zT, zZ, zM, rdS, at_agg, bofZ, bof1, bof0, zC, zS]; done))); cbv)
    | (refine E.c (SCalls.of_le (q1) ?_ ?_); (· (cbv; (try simp only [nc] at *); first | done | (simp; done) | (simp (disch := (first | omega | (simp only [lnS, zA, zM, zG, zP]; omega))) only [nc, nct, w64_of, zT, zZ, zM, rdS, at_agg, bofZ, bof1, bof0, zC, zS, implies_true, and_true, true_and, forall_const]; first | done | omega | (refine ⟨?_, ?_⟩ <;> omega)) | (simp (disch := (first | omega | (simp only [lnS, zA, zM, zG, zP]; omega))) [nc, nct, w64_of, zT, zZ, zM, rdS, at_agg, bofZ, bof1, bof0, zC, zS]; done))); cbv)
    | (refine E.q (QCalls.of_le (q1) ?_ ?_); (· (cbv; (try simp only [nc] at *); first | done | (simp; done) | (simp (disch := (first | omega | (simp only [lnS, zA, zM, zG, zP]; omega))) only [nc, nct, w64_of, zT, zZ, zM, rdS, at_agg, bofZ, bof1, bof0, zC, zS, implies_true, and_true, true_and, forall_const]; first | done | omega | (refine ⟨?_, ?_⟩ <;> omega)) | (simp (disch := (first | omega | (simp only [lnS, zA, zM, zG, zP]; omega))) [nc, nct, w64_of, zT, zZ, zM, rdS, at_agg, bofZ, bof1, bof0, zC, zS]; done))); cbv)
    | (refine ⟨fun _ h_s => ?_, fun _ h_s => ?_⟩ <;> (cbv; (try simp only [nc] at *); try simp (disch := (first | omega | (simp only [lnS, zA, zM, zG, zP]; omega))) only [nc, nct, w64_of, zT, zZ, zM, rdS, at_agg, bofZ, bof1, bof0, zC, zS, reduceCtorEq, Bool.not_true, Bool.not_false, zD, zE, zB, zF, zN, zO, ne_eq, zQ, zL, zR, beq_iff_eq] at h_s))
    | (refine hF ?_; intro _; clear hF)
    | (refine hF ?_; cbv; clear hF)
    | (refine ⟨fun _ => ?_, ?_⟩; (· ((try simp only [nc] at *); first | done | omega | exact ⟨by omega, rfl⟩ | (simp (disch := (first | omega | (simp only [lnS, zA, zM, zG, zP]; omega))) only [nc, nct, w64_of, zT, zZ, zM, rdS, at_agg, bofZ, bof1, bof0, zC, zS]; first | done | omega | rfl | exact ⟨by omega, rfl⟩ | (simp; done) | (simp; omega)) | (intros; trivial))); (try (simp only [nc] at *)); (try simp (disch := (first | omega | (simp only [lnS, zA, zM, zG, zP]; omega))) only [nc, nct, w64_of, zT, zZ, zM, rdS, at_agg, bofZ, bof1, bof0, zC, zS]); (try cbv))
    | (refine E.d 33 (by decide +kernel) ?_; cbv; (fail_if_success guard_target =~ False))
    | fail
  )
  all_goals (try simp only [nc] at *)
  all_goals (try simp (disch := (first | omega | (simp only [lnS, zA, zM, zG, zP]; omega))) only [nc, nct, w64_of, zT, zZ, zM, rdS, at_agg, bofZ, bof1, bof0, zC, zS])
  all_goals clear q1 q2 q3 q4
  all_goals simp_all
theorem wfr_ok (g : Gr) (hg : Rd g) (h : GOk g) (a b : Nat) (ha : a < nG g) (hb : b < nG g) : Pure Tryz.prog γ false 40 [pW g, .i fun _ => (a : Int), .i fun _ => (b : Int)] (.b fun _ => frM (viewG g) a b) := by
  have q1 := wreads_ok (γ := γ) g a ha
  have q2 := wfrom_ok (γ := γ) g h a ha
  have hi := fr_iff h a ha
  have hl := (viewG_wf h).frl a ha
  have q3 := fun h0 : 0 ≤ (viewG g).fr.getD a 0 => wco_ok (γ := γ) g hg h ((viewG g).fr.getD a 0).toNat b (by omega) hb
  rw [fr_eq h a b ha]
  obtain ⟨c, hc⟩ : ∃ c, c = coM (viewG g) ((viewG g).fr.getD a 0).toNat b := ⟨_, rfl⟩
  rw [← hc] at q3 ⊢
  obtain ⟨r, hr⟩ : ∃ w, w = readsM ((viewG g).ev.getD a ev0) := ⟨_, rfl⟩
  rw [← hr] at q1 hi ⊢
  generalize (viewG g).fr.getD a 0 = f at *
  have q4 : r = true → Pure Tryz.prog γ false 39 [pW g, .i fun _ => f, .i fun _ => (b : Int)] (.b fun _ => c) := fun hr => by
    have := q3 (hi.2 hr)
    rwa [Int.toNat_of_nonneg (hi.2 hr)] at this
  refine Pure.go (ty := ty) ty_eq mo Tryz.func40 rfl Tryz.ntmps40 Tryz.results40 Tryz.call40 (by simp) fun P C CQ D W F E hF => ?_
  cbv
  repeat' (first
    | (refine E.c (SCalls.of_le (q4 (by assumption)) ?_ ?_); (· (cbv; (try simp only [nc] at *); first | done | (simp; done) | (simp (disch := (first | omega | (simp only [lnS, zA, zM, zG, zP]; omega))) only [nc, nct, w64_of, zT, zZ, zM, rdS, at_agg, bofZ, bof1, bof0, zC, zS, implies_true, and_true, true_and, forall_const]; first | done | omega | (refine ⟨?_, ?_⟩ <;> omega)) | (simp (disch := (first | omega | (simp only [lnS, zA, zM, zG, zP]; omega))) [nc, nct, w64_of, zT, zZ, zM, rdS, at_agg, bofZ, bof1, bof0, zC, zS]; done))); cbv)
    | (refine E.c (SCalls.of_le (q2) ?_ ?_); (· (cbv; (try simp only [nc] at *); first | done | (simp; done) | (simp (disch := (first | omega | (simp only [lnS, zA, zM, zG, zP]; omega))) only [nc, nct, w64_of, zT, zZ, zM, rdS, at_agg, bofZ, bof1, bof0, zC, zS, implies_true, and_true, true_and, forall_const]; first | done | omega | (refine ⟨?_, ?_⟩ <;> omega)) | (simp (disch := (first | omega | (simp only [lnS, zA, zM, zG, zP]; omega))) [nc, nct, w64_of, zT, zZ, zM, rdS, at_agg, bofZ, bof1, bof0, zC, zS]; done))); cbv)
    | (refine E.c (SCalls.of_le (q1) ?_ ?_); (· (cbv; (try simp only [nc] at *); first | done | (simp; done) | (simp (disch := (first | omega | (simp only [lnS, zA, zM, zG, zP]; omega))) only [nc, nct, w64_of, zT, zZ, zM, rdS, at_agg, bofZ, bof1, bof0, zC, zS, implies_true, and_true, true_and, forall_const]; first | done | omega | (refine ⟨?_, ?_⟩ <;> omega)) | (simp (disch := (first | omega | (simp only [lnS, zA, zM, zG, zP]; omega))) [nc, nct, w64_of, zT, zZ, zM, rdS, at_agg, bofZ, bof1, bof0, zC, zS]; done))); cbv)
    | (refine ⟨fun _ h_s => ?_, fun _ h_s => ?_⟩ <;> (cbv; (try simp only [nc] at *); try simp (disch := (first | omega | (simp only [lnS, zA, zM, zG, zP]; omega))) only [nc, nct, w64_of, zT, zZ, zM, rdS, at_agg, bofZ, bof1, bof0, zC, zS, reduceCtorEq, Bool.not_true, Bool.not_false, zD, zE, zB, zF, zN, zO, ne_eq, zQ, zL, zR, beq_iff_eq] at h_s))
    | (refine hF ?_; intro _; clear hF)
    | (refine hF ?_; cbv; clear hF)
    | (refine ⟨fun _ => ?_, ?_⟩; (· ((try simp only [nc] at *); first | done | omega | exact ⟨by omega, rfl⟩ | (simp (disch := (first | omega | (simp only [lnS, zA, zM, zG, zP]; omega))) only [nc, nct, w64_of, zT, zZ, zM, rdS, at_agg, bofZ, bof1, bof0, zC, zS]; first | done | omega | rfl | exact ⟨by omega, rfl⟩ | (simp; done) | (simp; omega)) | (intros; trivial))); (try (simp only [nc] at *)); (try simp (disch := (first | omega | (simp only [lnS, zA, zM, zG, zP]; omega))) only [nc, nct, w64_of, zT, zZ, zM, rdS, at_agg, bofZ, bof1, bof0, zC, zS]); (try cbv))
    | fail
  )
  all_goals (try simp only [nc] at *)
  all_goals (try simp (disch := (first | omega | (simp only [lnS, zA, zM, zG, zP]; omega))) only [nc, nct, w64_of, zT, zZ, zM, rdS, at_agg, bofZ, bof1, bof0, zC, zS])
  all_goals clear q1 q2 q3 q4
  all_goals (have e : ((a : Int) = b) ↔ a = b := Int.ofNat_inj; simp_all)
end Go.AL.Rl

namespace Go.AL.Rl
open Go Go.AL Go.Proofs
set_option maxRecDepth 100000
set_option maxHeartbeats 1600000
variable {γ : Nat → Option AV}

end Go.AL.Rl

namespace Go.AL.Rl
open Go Go.AL Go.Proofs
set_option maxRecDepth 100000
set_option maxHeartbeats 1600000
variable {γ : Nat → Option AV}

def closedTo (V : Vw) (s : BitVec 64) (i : Nat) : Prop := ∀ j < i, (V.ev.getD j ev0).kind = 3 → s.getLsbD (V.fr.getD j 0).toNat = true → s.getLsbD j = true
theorem mod2_bit0 (x : BitVec 64) (i : Nat) : (x >>> i) % BitVec.ofInt 64 2 = 0#64 ↔ x.getLsbD i = false := by
  rw [← BitVec.toNat_inj, BitVec.toNat_umod, BitVec.toNat_ushiftRight, BitVec.getLsbD, Nat.testBit_eq_decide_div_mod_eq, decide_eq_false_iff_not, Nat.shiftRight_eq_div_pow]
  show x.toNat / 2 ^ i % 2 = 0 ↔ ¬ x.toNat / 2 ^ i % 2 = 1
  omega
theorem wsequence_ok (g : Gr) (h : GOk g) (w : Nat) (hw : w < nG g) : Pure Tryz.prog γ false 46 [pW g, .i fun _ => (w : Int)] (.u fun _ => seqM (viewG g) (nG g) w) := by
  have hn := (viewG_wf h).small
  have h64 : nG g ≤ 64 := by omega
  have hbw := bofInt (k := w) (by omega)
  have ew : w % 18446744073709551616 = w := Nat.mod_eq_of_lt (by omega)
  have hEl := evsG_l g
  have hVl : (viewG g).ev = evsG g := rfl
  have hfrom := fun i hi => wfrom_ok (γ := γ) g h i hi
  have hfr0 := fun i hi => fr_iff h i hi
  have hfrl := (viewG_wf h).frl
  refine Pure.go (ty := ty) ty_eq mo Tryz.func46 rfl Tryz.ntmps46 Tryz.results46 Tryz.call46 (by simp) fun P C CQ D W F E hF => ?_
  cbv
  repeat' (first
    | (refine ⟨fun _ h_s => ?_, fun _ h_s => ?_⟩ <;> (cbv; (try simp only [nc] at *); try simp (disch := (first | omega | (simp only [lnS, zA, zM, zG, zP]; omega))) only [nc, nct, w64_of, zT, zZ, zM, rdS, at_agg, bofZ, bof1, bof0, zC, zS, reduceCtorEq, Bool.not_true, Bool.not_false, zD, zE, zB, zF, zN, zO, ne_eq, zQ, zL, zR, beq_iff_eq] at h_s))
    | (refine hF ?_; intro _; clear hF)
    | (refine hF ?_; cbv; clear hF)
    | (refine ⟨fun _ => ?_, ?_⟩; (· ((try simp only [nc] at *); first | done | omega | exact ⟨by omega, rfl⟩ | (simp (disch := (first | omega | (simp only [lnS, zA, zM, zG, zP]; omega))) only [nc, nct, w64_of, zT, zZ, zM, rdS, at_agg, bofZ, bof1, bof0, zC, zS]; first | done | omega | rfl | exact ⟨by omega, rfl⟩ | (simp; done) | (simp; omega)) | (intros; trivial))); (try (simp only [nc] at *)); (try simp (disch := (first | omega | (simp only [lnS, zA, zM, zG, zP]; omega))) only [nc, nct, w64_of, zT, zZ, zM, rdS, at_agg, bofZ, bof1, bof0, zC, zS]); (try cbv))
    | fail
  )
  refine E.loopS (ι := BitVec 64 × Bool) (fun q => q.1.getLsbD w = true ∧ (∀ j, q.1.getLsbD j = true → InSeq (viewG g) (nG g) w j) ∧ (q.2 = false → closedTo (viewG g) q.1 (nG g))) (fun q => 2 * (64 - cntB 64 q.1) + if q.2 = true then 1 else 0) (fun q => [(5, .u fun _ => q.1), (6, .b fun _ => q.2)]) (fun q h => h) (1#64 <<< w, true) (fun _ => rfl) ?_ ?_ fun q hq I hI => ?_
  · refine ⟨?_, fun j hj => ?_, fun hf => by cases hf⟩
    · simp only; rw [BitVec.getLsbD_shiftLeft, BitVec.getLsbD_one]; simp; omega
    · simp only at hj
      rw [BitVec.getLsbD_shiftLeft, BitVec.getLsbD_one] at hj
      simp at hj
      obtain rfl : j = w := by omega
      exact .base
  · cbv
    simp only [hbw, bof0, bof1]
    simp
  obtain ⟨s, ag⟩ := q
  obtain ⟨hq1, hq2, hq3⟩ := hq
  simp only at hq1 hq2 hq3
  cbv
  repeat' (first
    | (refine ⟨fun _ h_s => ?_, fun _ h_s => ?_⟩ <;> (cbv; (try simp only [nc] at *); try simp (disch := (first | omega | (simp only [lnS, zA, zM, zG, zP]; omega))) only [nc, nct, w64_of, zT, zZ, zM, rdS, at_agg, bofZ, bof1, bof0, zC, zS, reduceCtorEq, Bool.not_true, Bool.not_false, zD, zE, zB, zF, zN, zO, ne_eq, zQ, zL, zR, beq_iff_eq] at h_s))
    | (refine hF ?_; intro _; clear hF)
    | (refine hF ?_; cbv; clear hF)
    | (refine ⟨fun _ => ?_, ?_⟩; (· ((try simp only [nc] at *); first | done | omega | exact ⟨by omega, rfl⟩ | (simp (disch := (first | omega | (simp only [lnS, zA, zM, zG, zP]; omega))) only [nc, nct, w64_of, zT, zZ, zM, rdS, at_agg, bofZ, bof1, bof0, zC, zS]; first | done | omega | rfl | exact ⟨by omega, rfl⟩ | (simp; done) | (simp; omega)) | (intros; trivial))); (try (simp only [nc] at *)); (try simp (disch := (first | omega | (simp only [lnS, zA, zM, zG, zP]; omega))) only [nc, nct, w64_of, zT, zZ, zM, rdS, at_agg, bofZ, bof1, bof0, zC, zS]); (try cbv))
    | fail
  )
  · have hag : ag = true := by simpa using h_s
    subst hag
    refine E.loopS (ι := Nat × BitVec 64 × Bool) (fun p => p.1 ≤ nG g ∧ p.2.1.getLsbD w = true ∧ (∀ j, s.getLsbD j = true → p.2.1.getLsbD j = true) ∧ (∀ j, p.2.1.getLsbD j = true → InSeq (viewG g) (nG g) w j) ∧ (p.2.2 = false → p.2.1 = s ∧ closedTo (viewG g) s p.1) ∧ (p.2.2 = true → p.2.1 ≠ s)) (fun p => nG g - p.1) (fun p => [(5, .u fun _ => p.2.1), (6, .b fun _ => p.2.2), (7, .i fun _ => ((p.1 : Nat) : Int))]) (fun p h => h) (0, s, false) (fun _ => rfl) ?_ ?_ fun p hp I2 hI2 => ?_
    · exact ⟨Nat.zero_le _, hq1, fun _ h => h, hq2, fun _ => ⟨rfl, fun j hj => absurd hj (Nat.not_lt_zero j)⟩, fun hf => by cases hf⟩
    · cbv; simp
    obtain ⟨i, t, b⟩ := p
    obtain ⟨hp0, hp1, hp2, hp3, hp4, hp5⟩ := hp
    simp only at hp0 hp1 hp2 hp3 hp4 hp5
    cbv
    have kf := hfrom i
    have hbi := bofInt (k := i) (by omega)
    have eim : i % 18446744073709551616 = i := Nat.mod_eq_of_lt (by omega)
    have hstep : i < nG g → ((viewG g).ev.getD i ev0).kind = 3 → t.getLsbD ((viewG g).fr.getD i 0).toNat = true → InSeq (viewG g) (nG g) w i := fun h1 h2 h3 => .step h1 h2 (hp3 _ h3)
    have hnext : i < nG g → (((viewG g).ev.getD i ev0).kind = 3 → t.getLsbD i = false → t.getLsbD ((viewG g).fr.getD i 0).toNat = false) → (i + 1 ≤ nG g ∧ t.getLsbD w = true ∧ (∀ j, s.getLsbD j = true → t.getLsbD j = true) ∧ (∀ j, t.getLsbD j = true → InSeq (viewG g) (nG g) w j) ∧ (b = false → t = s ∧ closedTo (viewG g) s (i + 1)) ∧ (b = true → t ≠ s)) := fun h1 h2 => by
      refine ⟨h1, hp1, hp2, hp3, fun hb => ⟨(hp4 hb).1, fun j hj hk hs => ?_⟩, hp5⟩
      rcases Nat.lt_or_ge j i with hji | hji
      · exact (hp4 hb).2 j hji hk hs
      · have : j = i := by omega
        subst this
        cases hc : s.getLsbD j with
        | true => rfl
        | false =>
          have e := (hp4 hb).1
          have := h2 hk (by rw [e]; exact hc)
          rw [e, hs] at this; cases this
    repeat' (first
      | (refine E.c (SCalls.of_le (kf (by ((try simp only [nc] at *); omega))) ?_ ?_); (· (cbv; (try simp only [nc] at *); first | done | (simp; done) | (simp (disch := (first | omega | (simp only [lnS, zA, zM, zG, zP]; omega))) only [nc, nct, w64_of, zT, zZ, zM, rdS, at_agg, bofZ, bof1, bof0, zC, zS, implies_true, and_true, true_and, forall_const]; first | done | omega | (refine ⟨?_, ?_⟩ <;> omega)) | (simp (disch := (first | omega | (simp only [lnS, zA, zM, zG, zP]; omega))) [nc, nct, w64_of, zT, zZ, zM, rdS, at_agg, bofZ, bof1, bof0, zC, zS]; done))); cbv)
      | (refine ⟨fun _ h_s => ?_, fun _ h_s => ?_⟩ <;> (cbv; (try simp only [nc] at *); try simp (disch := (first | omega | (simp only [lnS, zA, zM, zG, zP]; omega))) only [nc, nct, w64_of, zT, zZ, zM, rdS, at_agg, bofZ, bof1, bof0, zC, zS, reduceCtorEq, Bool.not_true, Bool.not_false, zD, zE, zB, zF, zN, zO, ne_eq, zQ, zL, zR, beq_iff_eq] at h_s))
      | (refine hF ?_; intro _; clear hF)
      | (refine hF ?_; cbv; clear hF)
      | (refine ⟨fun _ => ?_, ?_⟩; (· ((try simp only [nc] at *); first | done | omega | exact ⟨by omega, rfl⟩ | (simp (disch := (first | omega | (simp only [lnS, zA, zM, zG, zP]; omega))) only [nc, nct, w64_of, zT, zZ, zM, rdS, at_agg, bofZ, bof1, bof0, zC, zS]; first | done | omega | rfl | exact ⟨by omega, rfl⟩ | (simp; done) | (simp; omega)) | (intros; trivial))); (try (simp only [nc] at *)); (try simp (disch := (first | omega | (simp only [lnS, zA, zM, zG, zP]; omega))) only [nc, nct, w64_of, zT, zZ, zM, rdS, at_agg, bofZ, bof1, bof0, zC, zS]); (try cbv))
      | fail
    )
    · have hk3 : ((viewG g).ev.getD i ev0).kind = 3 := by assumption
      have hin : i < nG g := by ((try simp only [nc] at *); omega)
      have hf0 : 0 ≤ (viewG g).fr.getD i 0 := (hfr0 i hin).2 (by unfold readsM; rw [hk3]; rfl)
      have hb0 : t.getLsbD i = false := (mod2_bit0 t i).1 (by assumption)
      rw [bofZ hf0 (by have := hfrl i hin; omega), mod2_bit] at h_s
      have hbit : ∀ j, (t ||| 1#64 <<< i).getLsbD j = (t.getLsbD j || (1#64 <<< i).getLsbD j) := fun j => BitVec.getLsbD_or
      have hii : (1#64 <<< i).getLsbD i = true := by rw [one_shl_bit i i (by omega)]; simp
      refine hI2 (i + 1, t ||| 1#64 <<< i, true) ⟨hin, ?_, fun j hj => ?_, fun j hj => ?_, fun hf => (by cases hf), fun _ he => ?_⟩ (by simp only; omega) ?_
      · simp only; rw [hbit, hp1]; rfl
      · simp only; rw [hbit, hp2 j hj]; rfl
      · simp only at hj
        rw [hbit, Bool.or_eq_true] at hj
        rcases hj with hj | hj
        · exact hp3 j hj
        · have hj64 : j < 64 := by
            rcases Nat.lt_or_ge j 64 with h' | h'
            · exact h'
            · rw [BitVec.getLsbD_of_ge _ _ h'] at hj; cases hj
          rw [one_shl_bit i j hj64] at hj
          have : i = j := by simpa using hj
          subst this
          exact hstep hin hk3 h_s
      · simp only at he
        have h1 : s.getLsbD i = true := by rw [← he, hbit, hii]; simp
        rw [hp2 i h1] at hb0; cases hb0
      · cbv
        clear hI hI2 kf hfrom
        have e := w64_of (n := (i : Int) + 1) (by omega) (by omega)
        (try simp only [nc] at *)
        simp [e, ew, eim]
    · have hin : i < nG g := by ((try simp only [nc] at *); omega)
      refine hI2 (i + 1, t, b) (hnext hin fun hk3 hb0 => ?_) (by simp only; omega) ?_
      · have hf0 : 0 ≤ (viewG g).fr.getD i 0 := (hfr0 i hin).2 (by unfold readsM; rw [hk3]; rfl)
        rw [bofZ hf0 (by have := hfrl i hin; omega), mod2_bit] at h_s
        simpa using h_s
      · cbv
        clear hI hI2 kf hfrom
        have e := w64_of (n := (i : Int) + 1) (by omega) (by omega)
        (try simp only [nc] at *)
        simp [e, ew, eim]
    · have hin : i < nG g := by ((try simp only [nc] at *); omega)
      refine hI2 (i + 1, t, b) (hnext hin fun hk3 hb0 => ?_) (by simp only; omega) ?_
      · exfalso
        exact h_s ((mod2_bit0 t i).2 hb0)
      · cbv
        clear hI hI2 kf hfrom
        have e := w64_of (n := (i : Int) + 1) (by omega) (by omega)
        (try simp only [nc] at *)
        simp [e, ew, eim]
    · have hin : i < nG g := by ((try simp only [nc] at *); omega)
      refine hI2 (i + 1, t, b) (hnext hin fun hk3 hb0 => absurd hk3 h_s) (by simp only; omega) ?_
      cbv
      clear hI hI2 kf hfrom
      have e := w64_of (n := (i : Int) + 1) (by omega) (by omega)
      (try simp only [nc] at *)
      simp [e, ew, eim]
    · have ei : i = nG g := by ((try simp only [nc] at *); omega)
      refine hI (t, b) ⟨hp1, hp3, fun hb => ?_⟩ ?_ ?_
      · rw [(hp4 hb).1, ← ei]; exact (hp4 hb).2
      · simp only
        have c1 := cntB_le s 64
        have c2 := cntB_le t 64
        cases b with
        | false => rw [(hp4 rfl).1]; simp
        | true => have := cntB_ne hp2 (Ne.symm (hp5 rfl)); simp; omega
      · cbv
        clear hI hI2 kf hfrom
        simp [ew]
  · have hag : ag = false := by simpa using h_s
    exact seq_unique h64 hw hq1 hq2 (hq3 hag)
end Go.AL.Rl

namespace Go.AL.Rl
open Go Go.AL Go.Proofs
set_option maxRecDepth 100000
set_option maxHeartbeats 1600000
variable {γ : Nat → Option AV}

end Go.AL.Rl

namespace Go.AL.Rl
open Go Go.AL Go.Proofs
set_option maxRecDepth 100000
set_option maxHeartbeats 1600000

def flC (c : Nat → Bool) (f : Nat → List (Int × Int)) (k : Nat) : List (Int × Int) := (List.range k).flatMap fun i => if c i = true then f i else []
theorem flC_zero (c : Nat → Bool) (f : Nat → List (Int × Int)) : flC c f 0 = [] := rfl
theorem flC_yes {c : Nat → Bool} (f : Nat → List (Int × Int)) {k : Nat} (h : c k = true) : flC c f (k + 1) = flC c f k ++ f k := by
  unfold flC; rw [List.range_succ, List.flatMap_append]; simp [h]
theorem flC_no {c : Nat → Bool} (f : Nat → List (Int × Int)) {k : Nat} (h : ¬ c k = true) : flC c f (k + 1) = flC c f k := by
  unfold flC; rw [List.range_succ, List.flatMap_append]; simp [h]
theorem flC_len (c : Nat → Bool) (f : Nat → List (Int × Int)) (m : Nat) (hf : ∀ i, (f i).length ≤ m) : ∀ k, (flC c f k).length ≤ k * m
  | 0 => by simp [flC]
  | k + 1 => by
    have ih := flC_len c f m hf k
    have := hf k
    rw [Nat.add_mul, Nat.one_mul]
    by_cases h : c k = true
    · rw [flC_yes f h, List.length_append]; omega
    · rw [flC_no f h]; omega
theorem flC_mem {c : Nat → Bool} {f : Nat → List (Int × Int)} {k : Nat} {q : Int × Int} : q ∈ flC c f k ↔ ∃ i < k, c i = true ∧ q ∈ f i := by
  unfold flC
  simp only [List.mem_flatMap, List.mem_range]
  constructor
  · rintro ⟨i, hi, h⟩
    split at h
    · exact ⟨i, hi, by assumption, h⟩
    · cases h
  · rintro ⟨i, hi, h1, h2⟩
    exact ⟨i, hi, by rw [if_pos h1]; exact h2⟩
def cwM (V : Vw) (w : Nat) : Bool := writesM (V.ev.getD w ev0) && decide ((V.ev.getD w ev0).order ≠ 1)
def crM (V : Vw) (w r : Nat) : Bool := relM (V.ev.getD r ev0) && (decide (r = w) || fenceM (V.ev.getD r ev0) && poM V r w)
def caM (V : Vw) (b a : Nat) : Bool := acqM (V.ev.getD a ev0) && (decide (a = b) || fenceM (V.ev.getD a ev0) && poM V b a)
theorem swR_cr (V : Vw) (w r : Nat) : swR V w r = (cwM V w && crM V w r) := by unfold swR cwM crM; simp only [Bool.and_assoc]
def lA (V : Vw) (b r a : Nat) : List (Int × Int) := flC (caM V b) (fun a => [((r : Int), (a : Int))]) a
def lR (V : Vw) (n w b r : Nat) : List (Int × Int) := flC (crM V w) (fun r => lA V b r n) r
noncomputable def lB (V : Vw) (n w b : Nat) : List (Int × Int) := flC (rdrM V (seqM V n w)) (fun b => lR V n w b n) b
noncomputable def lW (V : Vw) (n w : Nat) : List (Int × Int) := flC (cwM V) (fun w => lB V n w n) w
noncomputable def lAll (V : Vw) (n w b r a : Nat) : List (Int × Int) := lW V n w ++ lB V n w b ++ lR V n w b r ++ lA V b r a
theorem lA_len (V : Vw) (b r a : Nat) : (lA V b r a).length ≤ a := by have := flC_len (caM V b) (fun a => [((r : Int), (a : Int))]) 1 (fun _ => by simp) a; unfold lA; omega
theorem lR_len (V : Vw) (n w b r : Nat) : (lR V n w b r).length ≤ r * n := flC_len _ _ _ (fun _ => lA_len _ _ _ _) _
theorem lB_len (V : Vw) (n w b : Nat) : (lB V n w b).length ≤ b * (n * n) := flC_len _ _ _ (fun _ => lR_len _ _ _ _ _) _
theorem lW_len (V : Vw) (n w : Nat) : (lW V n w).length ≤ w * (n * (n * n)) := flC_len _ _ _ (fun _ => lB_len _ _ _ _) _
theorem lAll_len (V : Vw) (n w b r a : Nat) (hn : n ≤ 62) (hw : w ≤ n) (hb : b ≤ n) (hr : r ≤ n) (ha : a ≤ n) : (lAll V n w b r a).length ≤ 100000000 := by
  have h1 := lW_len V n w
  have h2 := lB_len V n w b
  have h3 := lR_len V n w b r
  have h4 := lA_len V b r a
  have e2 : n * n ≤ 62 * 62 := Nat.mul_le_mul hn hn
  have e3 : n * (n * n) ≤ 62 * (62 * 62) := Nat.mul_le_mul hn e2
  have f1 : w * (n * (n * n)) ≤ 62 * (62 * (62 * 62)) := Nat.mul_le_mul (by omega) e3
  have f2 : b * (n * n) ≤ 62 * (62 * 62) := Nat.mul_le_mul (by omega) e2
  have f3 : r * n ≤ 62 * 62 := Nat.mul_le_mul (by omega) hn
  unfold lAll
  simp only [List.length_append]
  omega
theorem lAll_a1 (V : Vw) (n w b r a : Nat) (h : caM V b a = true) : lAll V n w b r (a + 1) = lAll V n w b r a ++ [((r : Int), (a : Int))] := by
  unfold lAll lA; rw [flC_yes _ h]; simp only [List.append_assoc]
theorem lAll_a0 (V : Vw) (n w b r a : Nat) (h : ¬ caM V b a = true) : lAll V n w b r (a + 1) = lAll V n w b r a := by
  unfold lAll lA; rw [flC_no _ h]
theorem lAll_r1 (V : Vw) (n w b r : Nat) (h : crM V w r = true) : lAll V n w b (r + 1) 0 = lAll V n w b r n := by
  unfold lAll lR; rw [flC_yes _ h]; simp only [List.append_assoc]; simp [lA, flC_zero]
theorem lAll_r0 (V : Vw) (n w b r : Nat) (h : ¬ crM V w r = true) : lAll V n w b (r + 1) 0 = lAll V n w b r 0 := by
  unfold lAll lR; rw [flC_no _ h]; simp [lA, flC_zero]
theorem lAll_b1 (V : Vw) (n w b : Nat) (h : rdrM V (seqM V n w) b = true) : lAll V n w (b + 1) 0 0 = lAll V n w b n 0 := by
  unfold lAll lB; rw [flC_yes _ h]; simp [lA, lR, flC_zero]
theorem lAll_b0 (V : Vw) (n w b : Nat) (h : ¬ rdrM V (seqM V n w) b = true) : lAll V n w (b + 1) 0 0 = lAll V n w b 0 0 := by
  unfold lAll lB; rw [flC_no _ h]; simp [lA, lR, flC_zero]
theorem lAll_w1 (V : Vw) (n w : Nat) (h : cwM V w = true) : lAll V n (w + 1) 0 0 0 = lAll V n w n 0 0 := by
  unfold lAll lW; rw [flC_yes _ h]; simp [lA, lR, lB, flC_zero]
theorem lAll_w0 (V : Vw) (n w : Nat) (h : ¬ cwM V w = true) : lAll V n (w + 1) 0 0 0 = lAll V n w 0 0 0 := by
  unfold lAll lW; rw [flC_no _ h]; simp [lA, lR, lB, flC_zero]
theorem lAll_mem (V : Vw) (n : Nat) (q : Int × Int) : q ∈ lAll V n n 0 0 0 ↔ ∃ w < n, cwM V w = true ∧ ∃ b < n, rdrM V (seqM V n w) b = true ∧ ∃ r < n, crM V w r = true ∧ ∃ a < n, caM V b a = true ∧ q = ((r : Int), (a : Int)) := by
  have e : lAll V n n 0 0 0 = lW V n n := by unfold lAll; simp [lA, lR, lB, flC_zero]
  rw [e]
  unfold lW; rw [flC_mem]
  refine exists_congr fun w => and_congr_right fun _ => and_congr_right fun _ => ?_
  unfold lB; rw [flC_mem]
  refine exists_congr fun b => and_congr_right fun _ => and_congr_right fun _ => ?_
  unfold lR; rw [flC_mem]
  refine exists_congr fun r => and_congr_right fun _ => and_congr_right fun _ => ?_
  unfold lA; rw [flC_mem]
  refine exists_congr fun a => and_congr_right fun _ => and_congr_right fun _ => ?_
  simp
theorem rowT_bit (V : Vw) (n r a : Nat) : ∀ w, (rowT V n w r).getLsbD a = true ↔ ∃ v < w, swR V v r = true ∧ (tgtM V n v).getLsbD a = true
  | 0 => by simp [rowT]
  | w + 1 => by
    have ih := rowT_bit V n r a w
    unfold rowT
    constructor
    · intro h
      split at h
      · rw [BitVec.getLsbD_or, Bool.or_eq_true] at h
        rcases h with h | h
        · obtain ⟨v, hv, h1, h2⟩ := ih.1 h; exact ⟨v, by omega, h1, h2⟩
        · exact ⟨w, by omega, by assumption, h⟩
      · obtain ⟨v, hv, h1, h2⟩ := ih.1 h; exact ⟨v, by omega, h1, h2⟩
    · rintro ⟨v, hv, h1, h2⟩
      by_cases hvw : v = w
      · subst hvw
        rw [if_pos h1, BitVec.getLsbD_or, h2, Bool.or_true]
      · have h3 := ih.2 ⟨v, by omega, h1, h2⟩
        split
        · rw [BitVec.getLsbD_or, h3]; rfl
        · exact h3
theorem ne0_bit (x : BitVec 64) : x ≠ 0#64 ↔ ∃ j, x.getLsbD j = true := by
  constructor
  · intro h
    refine Classical.byContradiction fun hc => h (BitVec.eq_of_getLsbD_eq fun i hi => ?_)
    cases hx : x.getLsbD i with
    | true => exact absurd ⟨i, hx⟩ hc
    | false => simp
  · rintro ⟨j, hj⟩ h
    subst h; simp at hj
theorem tgt_bit (V : Vw) (n w a : Nat) (hn : n ≤ 62) : (tgtM V n w).getLsbD a = true ↔ a < n ∧ ∃ b < n, rdrM V (seqM V n w) b = true ∧ caM V b a = true := by
  unfold tgtM
  rw [mask_bit _ _ (by omega)]
  simp only [Bool.and_eq_true, decide_eq_true_eq, behM, Bool.or_eq_true, ne0_bit, BitVec.getLsbD_and, mask_bit _ _ (show n ≤ 64 by omega), caM]
  constructor
  · rintro ⟨h1, h2, ⟨h3, h4⟩ | ⟨h3, j, ⟨h4, h5⟩, h6, h7⟩⟩
    · exact ⟨h1, a, h3, h4, h2, .inl rfl⟩
    · exact ⟨h1, j, h4, h5, h2, .inr ⟨h3, h7⟩⟩
  · rintro ⟨h1, b, h2, h3, h4, h5 | ⟨h5, h6⟩⟩
    · subst h5; exact ⟨h1, h4, .inl ⟨h2, h3⟩⟩
    · exact ⟨h1, h4, .inr ⟨h5, b, ⟨h2, h3⟩, h2, h6⟩⟩
theorem ofTo_sw (V : Vw) (n : Nat) (hn : n ≤ 62) : ofTo n (lAll V n n 0 0 0) (lAll V n n 0 0 0).length = swF V n := by
  unfold swF
  refine rowsEq (n := n) (by rw [ofTo_len]; simp) (relRows_len n _) fun i j => ?_
  rw [bit_ofTo n (by omega) _ (fun q hq => by
    obtain ⟨_, _, _, _, _, _, r, hr, _, a, ha, _, he⟩ := (lAll_mem V n q).1 hq
    exact ⟨r, hr, a, ha, he⟩) i j _ (Nat.le_refl _), List.take_length, bit_rel (by omega), Bool.eq_iff_iff, decide_eq_true_iff, lAll_mem]
  by_cases hi : i < n
  · have e : bit (swRows V n) i j = (rowT V n n i).getLsbD j := by unfold bit swRows; rw [tab_get n _ i hi]
    simp only [Bool.and_eq_true, decide_eq_true_eq, Prod.mk.injEq, Int.ofNat_inj, hi, true_and, e, rowT_bit, tgt_bit V n _ _ hn, swR_cr]
    constructor
    · rintro ⟨w, hw, h1, b, hb, h2, r, hr, h3, a, ha, h4, h5, h6⟩
      subst h5; subst h6
      exact ⟨ha, w, hw, ⟨h1, h3⟩, ha, b, hb, h2, h4⟩
    · rintro ⟨_, w, hw, ⟨h1, h3⟩, ha, b, hb, h2, h4⟩
      exact ⟨w, hw, h1, b, hb, h2, i, hi, h3, j, ha, h4, rfl, rfl⟩
  · simp only [hi, decide_false, Bool.false_and, Bool.false_eq_true, iff_false]
    rintro ⟨w, hw, h1, b, hb, h2, r, hr, h3, a, ha, h4, h5⟩
    simp only [Prod.mk.injEq, Int.ofNat_inj] at h5
    omega
end Go.AL.Rl

namespace Go.AL.Rl
open Go Go.AL Go.Proofs
set_option maxRecDepth 100000
set_option maxHeartbeats 1600000

theorem sw_bit {V : Vw} {n : Nat} (hn : n ≤ 62) {r a : Nat} (h : bit (swF V n) r a = true) : r < n ∧ a < n ∧ ∃ w < n, swR V w r = true ∧ ∃ b < n, rdrM V (seqM V n w) b = true ∧ caM V b a = true := by
  unfold swF at h
  rw [bit_rel (by omega)] at h
  simp only [Bool.and_eq_true, decide_eq_true_eq] at h
  obtain ⟨hr, ha, hb⟩ := h
  have e : bit (swRows V n) r a = (rowT V n n r).getLsbD a := by unfold bit swRows; rw [tab_get n _ r hr]
  rw [e, rowT_bit] at hb
  obtain ⟨w, hw, h1, h2⟩ := hb
  rw [tgt_bit V n w a hn] at h2
  exact ⟨hr, ha, w, hw, h1, h2.2⟩
section
variable {g : Gr} (h : GOk g)
include h
theorem tog_iff (a b : Nat) : bit (togF (viewG g) (nG g)) a b = true ↔ a < nG g ∧ b < nG g ∧ (poM (viewG g) a b = true ∨ rfM (viewG g) a b = true ∨ coM (viewG g) a b = true ∨ frM (viewG g) a b = true) := by
  have hn := (viewG_wf h).small
  unfold togF
  rw [bit_orM]
  simp only [List.mem_cons, List.not_mem_nil, or_false, exists_eq_or_imp, exists_eq_left, poF, rfF, coF, frF, bit_relI hn]
  constructor
  · rintro ⟨h1, h2 | h2 | h2 | h2⟩
    · exact ⟨h1, h2.2.1, .inl h2.2.2⟩
    · exact ⟨h1, h2.2.1, .inr (.inl h2.2.2)⟩
    · exact ⟨h1, h2.2.1, .inr (.inr (.inl h2.2.2))⟩
    · exact ⟨h1, h2.2.1, .inr (.inr (.inr h2.2.2))⟩
  · rintro ⟨h1, h2, h3 | h3 | h3 | h3⟩
    · exact ⟨h1, .inl ⟨h1, h2, h3⟩⟩
    · exact ⟨h1, .inr (.inl ⟨h1, h2, h3⟩)⟩
    · exact ⟨h1, .inr (.inr (.inl ⟨h1, h2, h3⟩))⟩
    · exact ⟨h1, .inr (.inr (.inr ⟨h1, h2, h3⟩))⟩
theorem tg_edge {a b : Nat} (ha : a < nG g) (hb : b < nG g) (hp : poM (viewG g) a b = true ∨ rfM (viewG g) a b = true ∨ coM (viewG g) a b = true ∨ frM (viewG g) a b = true) : bit (plusM (nG g) (togF (viewG g) (nG g))) a b = true :=
  plus_edge ((tog_iff h a b).2 ⟨ha, hb, hp⟩)
theorem tg_trans {a b c : Nat} (h1 : bit (plusM (nG g) (togF (viewG g) (nG g))) a b = true) (h2 : bit (plusM (nG g) (togF (viewG g) (nG g))) b c = true) : bit (plusM (nG g) (togF (viewG g) (nG g))) a c = true :=
  plus_trans (togF_fits (viewG g) (viewG_wf h).small) h1 h2
theorem rf_edge {b : Nat} (hb : b < nG g) (hr : readsM ((viewG g).ev.getD b ev0) = true) : ((viewG g).fr.getD b 0).toNat < nG g ∧ rfM (viewG g) ((viewG g).fr.getD b 0).toNat b = true := by
  have h1 := (fr_iff h b hb).2 hr
  have h2 := (viewG_wf h).frl b hb
  refine ⟨by omega, ?_⟩
  unfold rfM
  rw [decide_eq_true_eq]; omega
theorem seq_tg {w : Nat} (hw : w < nG g) {j : Nat} (hj : InSeq (viewG g) (nG g) w j) : j = w ∨ bit (plusM (nG g) (togF (viewG g) (nG g))) w j = true := by
  induction hj with
  | base => exact .inl rfl
  | @step i hi hk _ ih =>
    obtain ⟨h1, h2⟩ := rf_edge h hi (by unfold readsM; rw [hk]; rfl)
    have e := tg_edge h h1 hi (.inr (.inl h2))
    rcases ih with ih | ih
    · rw [ih] at e; exact .inr e
    · exact .inr (tg_trans h ih e)
theorem sw_tg {r a : Nat} (hs : bit (swF (viewG g) (nG g)) r a = true) : bit (plusM (nG g) (togF (viewG g) (nG g))) r a = true := by
  have hn := (viewG_wf h).small
  obtain ⟨hr, ha, w, hw, h1, b, hb, h2, h3⟩ := sw_bit hn hs
  unfold rdrM at h2
  simp only [Bool.and_eq_true, decide_eq_true_eq] at h2
  obtain ⟨⟨h4, _⟩, h5⟩ := h2
  rw [seq_bit (by omega) hw] at h5
  obtain ⟨h6, h7⟩ := rf_edge h hb h4
  have e1 := tg_edge h h6 hb (.inr (.inl h7))
  have e2 : bit (plusM (nG g) (togF (viewG g) (nG g))) w b = true := by
    rcases seq_tg h hw h5 with h8 | h8
    · rw [h8] at e1; exact e1
    · exact tg_trans h h8 e1
  have e3 : bit (plusM (nG g) (togF (viewG g) (nG g))) r b = true := by
    unfold swR at h1
    simp only [Bool.and_eq_true, Bool.or_eq_true, decide_eq_true_eq] at h1
    rcases h1.2 with h8 | h8
    · rw [h8]; exact e2
    · exact tg_trans h (tg_edge h hr hw (.inl h8.2)) e2
  unfold caM at h3
  simp only [Bool.and_eq_true, Bool.or_eq_true, decide_eq_true_eq] at h3
  rcases h3.2 with h8 | h8
  · rw [h8]; exact e3
  · exact tg_trans h e3 (tg_edge h hb ha (.inl h8.2))
theorem porf_tg {a b : Nat} (hs : bit (porfF (viewG g) (nG g)) a b = true) : bit (plusM (nG g) (togF (viewG g) (nG g))) a b = true := by
  have hn := (viewG_wf h).small
  refine plus_least (fun a b => bit (plusM (nG g) (togF (viewG g) (nG g))) a b = true) (fun i j hij => ?_) (fun i k j => tg_trans h) hs
  rw [bit_or2 (fits_poF _ hn) (fits_rfF _ hn)] at hij
  rcases hij with hij | hij
  · rw [poF, bit_relI hn] at hij; exact tg_edge h hij.1 hij.2.1 (.inl hij.2.2)
  · rw [rfF, bit_relI hn] at hij; exact tg_edge h hij.1 hij.2.1 (.inr (.inl hij.2.2))
theorem hb_tg {a b : Nat} (hs : bit (hbF (viewG g) (nG g)) a b = true) : bit (plusM (nG g) (togF (viewG g) (nG g))) a b = true := by
  have hn := (viewG_wf h).small
  refine plus_least (fun a b => bit (plusM (nG g) (togF (viewG g) (nG g))) a b = true) (fun i j hij => ?_) (fun i k j => tg_trans h) hs
  rw [bit_or2 (fits_poF _ hn) (fits_swF _ hn)] at hij
  rcases hij with hij | hij
  · rw [poF, bit_relI hn] at hij; exact tg_edge h hij.1 hij.2.1 (.inl hij.2.2)
  · exact sw_tg h hij
theorem eco_tg {a b : Nat} (hs : bit (ecoF (viewG g) (nG g)) a b = true) : bit (plusM (nG g) (togF (viewG g) (nG g))) a b = true := by
  have hn := (viewG_wf h).small
  refine plus_least (fun a b => bit (plusM (nG g) (togF (viewG g) (nG g))) a b = true) (fun i j hij => ?_) (fun i k j => tg_trans h) hs
  rw [bit_orM] at hij
  simp only [List.mem_cons, List.not_mem_nil, or_false, exists_eq_or_imp, exists_eq_left, rfF, coF, frF, bit_relI hn] at hij
  rcases hij with ⟨h1, h2 | h2 | h2⟩
  · exact tg_edge h h1 h2.2.1 (.inr (.inl h2.2.2))
  · exact tg_edge h h1 h2.2.1 (.inr (.inr (.inl h2.2.2)))
  · exact tg_edge h h1 h2.2.1 (.inr (.inr (.inr h2.2.2)))
omit h in
theorem tg_irr (hsc : (fltM (viewG g) (nG g) 6).br = false) (i : Nat) : bit (plusM (nG g) (togF (viewG g) (nG g))) i i = false := by
  have hc : (circF (plusM (nG g) (togF (viewG g) (nG g)))).br = false := hsc
  unfold circF at hc
  cases hf : leadM (fun i => bit (plusM (nG g) (togF (viewG g) (nG g))) i i) (plusM (nG g) (togF (viewG g) (nG g))).length with
  | some k => rw [hf] at hc; cases hc
  | none =>
    by_cases hi : i < (plusM (nG g) (togF (viewG g) (nG g))).length
    · exact leadM_nothing hf i hi
    · exact bit_out (by omega) i
theorem flt_ra (h2 : (fltM (viewG g) (nG g) 2).br = false) (h6 : (fltM (viewG g) (nG g) 6).br = false) : ∀ k ∈ [1, 2, 3, 4, 5], (fltM (viewG g) (nG g) k).br = false := by
  have irr := tg_irr h6
  intro k hk
  simp only [List.mem_cons, List.not_mem_nil, or_false] at hk
  rcases hk with rfl | rfl | rfl | rfl | rfl
  · rfl
  · exact h2
  · show (circF (porfF (viewG g) (nG g))).br = false
    rw [circF_no fun k _ => ?_]
    cases e : bit (porfF (viewG g) (nG g)) k k with
    | false => rfl
    | true => have := porf_tg h e; rw [irr] at this; cases this
  · show (circF (hbF (viewG g) (nG g))).br = false
    rw [circF_no fun k _ => ?_]
    cases e : bit (hbF (viewG g) (nG g)) k k with
    | false => rfl
    | true => have := hb_tg h e; rw [irr] at this; cases this
  · show (cohF (hbF (viewG g) (nG g)) (ecoF (viewG g) (nG g))).br = false
    rw [cohF_no fun k _ j _ => ?_]
    cases e : cohB (hbF (viewG g) (nG g)) (ecoF (viewG g) (nG g)) k j with
    | false => rfl
    | true =>
      unfold cohB at e
      simp only [Bool.and_eq_true, decide_eq_true_eq] at e
      have := tg_trans h (hb_tg h e.1.2) (eco_tg h e.2)
      rw [irr] at this; cases this
end
end Go.AL.Rl

namespace Go.AL.Rl
open Go Go.AL Go.Proofs
set_option maxRecDepth 100000
set_option maxHeartbeats 3200000
variable {γ : Nat → Option AV}

theorem kN_of {g : Gr} (h : GOk g) {k : Nat} (hk : k < nG g) (h0 : g.init.length ≤ k) : ∃ t i, t < g.th.length ∧ i < (g.th.getD t []).length ∧ k = kN g t i := by
  have key : ∀ T, T ≤ g.th.length → g.init.length + (evsT g T).length ≤ k ∨ ∃ t i, t < T ∧ i < (g.th.getD t []).length ∧ k = kN g t i := by
    intro T
    induction T with
    | zero => intro _; left; simpa [evsT] using h0
    | succ T ih =>
      intro hT
      rcases ih (by omega) with h1 | ⟨t, i, h1, h2, h3⟩
      · rcases Nat.lt_or_ge k (g.init.length + (evsT g T).length + (g.th.getD T []).length) with h2 | h2
        · exact .inr ⟨T, k - (g.init.length + (evsT g T).length), by omega, by omega, by unfold kN; omega⟩
        · left; rw [evsT_succ, List.length_append]; omega
      · exact .inr ⟨t, i, by omega, h2, h3⟩
  rcases key g.th.length (Nat.le_refl _) with h1 | ⟨t, i, h1, h2, h3⟩
  · have := kN_end g
    unfold kN at this
    omega
  · exact ⟨t, i, h1, h2, h3⟩
theorem ids_init {g : Gr} {k : Nat} (hk : k < g.init.length) : (idsG g).getD k id0 = ⟨0, (k : Int)⟩ := by
  unfold idsG
  rw [List.getD_eq_getElem?_getD, List.getElem?_append_left (by rw [idsI_len]; exact hk)]
  simp [idsI, hk]
theorem kN_mono {g : Gr} {t t' i : Nat} (h : t < t') : g.init.length + (evsT g t).length + (g.th.getD t []).length ≤ kN g t' i := by
  have : ∀ d, (evsT g t).length + (g.th.getD t []).length ≤ (evsT g (t + 1 + d)).length := by
    intro d
    induction d with
    | zero => rw [Nat.add_zero, evsT_succ, List.length_append]; exact Nat.le_refl _
    | succ d ih => rw [← Nat.add_assoc, evsT_succ, List.length_append]; omega
  have := this (t' - (t + 1))
  rw [show t + 1 + (t' - (t + 1)) = t' by omega] at this
  unfold kN; omega
theorem at_ok (g : Gr) (hg : Rd g) (h : GOk g) (k : Nat) (hk : k < nG g) : Pure Tryz.prog γ false 17 [aGr g, .i fun _ => (k : Int)] (.tup [aId ((idsG g).getD k id0), .b fun _ => true]) := by
  have kc := gcheck_ok (γ := γ) g hg
  rw [gcheck0 h] at kc
  have hn := (viewG_wf h).small
  have hth := h.short.th
  have hin := h.short.init
  have hle : ∀ t, (g.th.getD t []).length ≤ 14 := h.short.at
  rcases Nat.lt_or_ge k g.init.length with h0 | h0
  · rw [ids_init h0]
    refine Pure.go (ty := ty) ty_eq mo Tryz.func17 rfl Tryz.ntmps17 Tryz.results17 Tryz.call17 (by simp) fun P C CQ D W F E hF => ?_
    cbv
    repeat' (first
      | (refine E.c (SCalls.of_le (kc) ?_ ?_); (· (cbv; (try simp only [nc] at *); first | done | (simp; done) | (simp (disch := (first | omega | (simp only [lnS, zA, zM, zG, zP]; omega))) only [nc, nct, w64_of, zT, zZ, zM, rdS, at_agg, bofZ, bof1, bof0, zC, zS, implies_true, and_true, true_and, forall_const]; first | done | omega | (refine ⟨?_, ?_⟩ <;> omega)) | (simp (disch := (first | omega | (simp only [lnS, zA, zM, zG, zP]; omega))) [nc, nct, w64_of, zT, zZ, zM, rdS, at_agg, bofZ, bof1, bof0, zC, zS]; done))); cbv)
      | (refine ⟨fun _ h_s => ?_, fun _ h_s => ?_⟩ <;> (cbv; (try simp only [nc] at *); try simp (disch := (first | omega | (simp only [lnS, zA, zM, zG, zP]; omega))) only [nc, nct, w64_of, zT, zZ, zM, rdS, at_agg, bofZ, bof1, bof0, zC, zS, reduceCtorEq, Bool.not_true, Bool.not_false, zD, zE, zB, zF, zN, zO, ne_eq, zQ, zL, zR, beq_iff_eq] at h_s))
      | (refine hF ?_; intro _; clear hF)
      | (refine hF ?_; cbv; clear hF)
      | (refine ⟨fun _ => ?_, ?_⟩; (· ((try simp only [nc] at *); first | done | omega | exact ⟨by omega, rfl⟩ | (simp (disch := (first | omega | (simp only [lnS, zA, zM, zG, zP]; omega))) only [nc, nct, w64_of, zT, zZ, zM, rdS, at_agg, bofZ, bof1, bof0, zC, zS]; first | done | omega | rfl | exact ⟨by omega, rfl⟩ | (simp; done) | (simp; omega)) | (intros; trivial))); (try (simp only [nc] at *)); (try simp (disch := (first | omega | (simp only [lnS, zA, zM, zG, zP]; omega))) only [nc, nct, w64_of, zT, zZ, zM, rdS, at_agg, bofZ, bof1, bof0, zC, zS]); (try cbv))
      | fail
    )
    · exfalso; revert h_s; simp
    · exfalso; ((try simp only [nc] at *); omega)
    · simp
    · exfalso; ((try simp only [nc] at *); omega)
  · obtain ⟨t0, i0, h1, h2, h3⟩ := kN_of h hk h0
    have hd := (kN_ids h1 h2).2
    rw [← h3] at hd
    rw [hd]
    have hm : ∀ t, t < t0 → g.init.length + (evsT g t).length + (g.th.getD t []).length ≤ k := fun t ht => by rw [h3]; exact kN_mono ht
    have hs : ∀ t, g.init.length + (evsT g (t + 1)).length = g.init.length + (evsT g t).length + (g.th.getD t []).length := fun t => by rw [evsT_succ, List.length_append]; omega
    have h4 : k = g.init.length + (evsT g t0).length + i0 := h3
    have hz : (evsT g 0).length = 0 := rfl
    obtain ⟨E', hE'⟩ : ∃ E' : Nat → Nat, ∀ t, E' t = g.init.length + (evsT g t).length := ⟨_, fun _ => rfl⟩
    simp only [← hE'] at hm hs h4
    have hE0 : E' 0 = g.init.length := by rw [hE', hz]; rfl
    clear hE' hd hz h3
    refine Pure.go (ty := ty) ty_eq mo Tryz.func17 rfl Tryz.ntmps17 Tryz.results17 Tryz.call17 (by simp) fun P C CQ D W F E hF => ?_
    cbv
    repeat' (first
      | (refine E.c (SCalls.of_le (kc) ?_ ?_); (· (cbv; (try simp only [nc] at *); first | done | (simp; done) | (simp (disch := (first | omega | (simp only [lnS, zA, zM, zG, zP]; omega))) only [nc, nct, w64_of, zT, zZ, zM, rdS, at_agg, bofZ, bof1, bof0, zC, zS, implies_true, and_true, true_and, forall_const]; first | done | omega | (refine ⟨?_, ?_⟩ <;> omega)) | (simp (disch := (first | omega | (simp only [lnS, zA, zM, zG, zP]; omega))) [nc, nct, w64_of, zT, zZ, zM, rdS, at_agg, bofZ, bof1, bof0, zC, zS]; done))); cbv)
      | (refine ⟨fun _ h_s => ?_, fun _ h_s => ?_⟩ <;> (cbv; (try simp only [nc] at *); try simp (disch := (first | omega | (simp only [lnS, zA, zM, zG, zP]; omega))) only [nc, nct, w64_of, zT, zZ, zM, rdS, at_agg, bofZ, bof1, bof0, zC, zS, reduceCtorEq, Bool.not_true, Bool.not_false, zD, zE, zB, zF, zN, zO, ne_eq, zQ, zL, zR, beq_iff_eq] at h_s))
      | (refine hF ?_; intro _; clear hF)
      | (refine hF ?_; cbv; clear hF)
      | (refine ⟨fun _ => ?_, ?_⟩; (· ((try simp only [nc] at *); first | done | omega | exact ⟨by omega, rfl⟩ | (simp (disch := (first | omega | (simp only [lnS, zA, zM, zG, zP]; omega))) only [nc, nct, w64_of, zT, zZ, zM, rdS, at_agg, bofZ, bof1, bof0, zC, zS]; first | done | omega | rfl | exact ⟨by omega, rfl⟩ | (simp; done) | (simp; omega)) | (intros; trivial))); (try (simp only [nc] at *)); (try simp (disch := (first | omega | (simp only [lnS, zA, zM, zG, zP]; omega))) only [nc, nct, w64_of, zT, zZ, zM, rdS, at_agg, bofZ, bof1, bof0, zC, zS]); (try cbv))
      | fail
    )
    · exfalso; revert h_s; simp
    · exfalso; ((try simp only [nc] at *); omega)
    · exfalso; ((try simp only [nc] at *); omega)
    refine E.loopS (ι := Nat) (fun t => t ≤ g.th.length ∧ (t ≤ t0)) (fun t => g.th.length - t) (fun t => [(31, .i fun _ => ((t : Nat) : Int)), (1, .i fun _ => ((k - E' t : Nat) : Int))]) (fun t h => h) 0 (fun _ => by first | rfl | simp) ⟨Nat.zero_le _, ?_⟩ ?_ fun t ht I hI => ?_
    · omega
    · cbv
      simp only [hE0]
      (try simp only [nc] at *)
      have e : w64 ((k : Int) - g.init.length) = ((k - g.init.length : Nat) : Int) := by rw [w64_of (by omega) (by omega)]; omega
      simp [e]
    cbv
    obtain ⟨ht, hp⟩ := ht
    have hmt := hm t
    have hst := hs t
    have hlt := hle t
    repeat' (first
      | (refine hI (t + 1) ?_ ?_ ?_; rotate_left 1; (· ((try simp only [nc] at *); omega)); (cbv; clear hI; (try clear hF); (try simp only [nc] at *); (try simp (disch := (first | omega | (simp only [lnS, zA, zM, zG, zP]; omega))) only [nc, nct, w64_of, zT, zZ, zM, rdS, at_agg, bofZ, bof1, bof0, zC, zS, implies_true, and_true, true_and, forall_const])); rotate_left 1; (try ((try simp only [nc] at *); omega)))
      | (refine ⟨fun _ h_s => ?_, fun _ h_s => ?_⟩ <;> (cbv; (try simp only [nc] at *); try simp (disch := (first | omega | (simp only [lnS, zA, zM, zG, zP]; omega))) only [nc, nct, w64_of, zT, zZ, zM, rdS, at_agg, bofZ, bof1, bof0, zC, zS, reduceCtorEq, Bool.not_true, Bool.not_false, zD, zE, zB, zF, zN, zO, ne_eq, zQ, zL, zR, beq_iff_eq] at h_s))
      | (refine hF ?_; intro _; clear hF)
      | (refine hF ?_; cbv; clear hF)
      | (refine ⟨fun _ => ?_, ?_⟩; (· ((try simp only [nc] at *); first | done | omega | exact ⟨by omega, rfl⟩ | (simp (disch := (first | omega | (simp only [lnS, zA, zM, zG, zP]; omega))) only [nc, nct, w64_of, zT, zZ, zM, rdS, at_agg, bofZ, bof1, bof0, zC, zS]; first | done | omega | rfl | exact ⟨by omega, rfl⟩ | (simp; done) | (simp; omega)) | (intros; trivial))); (try (simp only [nc] at *)); (try simp (disch := (first | omega | (simp only [lnS, zA, zM, zG, zP]; omega))) only [nc, nct, w64_of, zT, zZ, zM, rdS, at_agg, bofZ, bof1, bof0, zC, zS]); (try cbv))
      | fail
    )
    · have e : t = t0 := by
        rcases Nat.lt_or_ge t t0 with h5 | h5
        · have := hmt h5; exfalso; ((try simp only [nc] at *); omega)
        · omega
      subst e
      have e2 : w64 ((t : Int) + 1) = (t : Int) + 1 := w64_of (by omega) (by omega)
      have e3 : ((k - E' t : Nat) : Int) = i0 := by omega
      simp [e2, e3]
    · refine ⟨by ((try simp only [nc] at *); omega), ?_⟩
      rcases Nat.lt_or_ge t t0 with h5 | h5
      · omega
      · exfalso
        obtain rfl : t = t0 := by omega
        ((try simp only [nc] at *); omega)
    · have h5 : t < t0 := by
        rcases Nat.lt_or_ge t t0 with h5 | h5
        · exact h5
        · exfalso
          obtain rfl : t = t0 := by omega
          ((try simp only [nc] at *); omega)
      have := hmt h5
      exact ⟨by omega, by push_cast; rfl⟩
    · exfalso; ((try simp only [nc] at *); omega)
def linL (g : Gr) (tl : List Nat) : List EId := (tl.map fun k => (idsG g).getD k id0).filter fun d => decide (0 < d.t)
theorem linL_take (g : Gr) (tl : List Nat) (k : Nat) (hk : k < tl.length) : linL g (tl.take (k + 1)) = linL g (tl.take k) ++ if 0 < ((idsG g).getD (tl.getD k 0) id0).t then [(idsG g).getD (tl.getD k 0) id0] else [] := by
  unfold linL
  rw [take_succ' tl k 0 hk, List.map_append, List.filter_append]
  congr 1
  simp only [List.map_cons, List.map_nil, List.filter_cons, List.filter_nil, decide_eq_true_eq]
theorem linear_no (g : Gr) (kw : Pure Tryz.prog γ false 6 [.i fun _ => 1, aGr g] (.tup [.b fun _ => false, .i fun _ => 0])) : Pure Tryz.prog γ false 7 [aGr g] (.tup [.vs 2 fun _ => ids [], .b fun _ => false]) := by
  refine Pure.go (ty := ty) ty_eq mo Tryz.func7 rfl Tryz.ntmps7 Tryz.results7 Tryz.call7 (by simp) fun P C CQ D W F E hF => ?_
  cbv
  repeat' (first
    | (refine E.c (SCalls.of_le (kw) ?_ ?_); (· (cbv; (try simp only [nc] at *); first | done | (simp; done) | (simp (disch := (first | omega | (simp only [lnS, zA, zM, zG, zP]; omega))) only [nc, nct, w64_of, zT, zZ, zM, rdS, at_agg, bofZ, bof1, bof0, zC, zS, implies_true, and_true, true_and, forall_const]; first | done | omega | (refine ⟨?_, ?_⟩ <;> omega)) | (simp (disch := (first | omega | (simp only [lnS, zA, zM, zG, zP]; omega))) [nc, nct, w64_of, zT, zZ, zM, rdS, at_agg, bofZ, bof1, bof0, zC, zS]; done))); cbv)
    | (refine ⟨fun _ h_s => ?_, fun _ h_s => ?_⟩ <;> (cbv; (try simp only [nc] at *); try simp (disch := (first | omega | (simp only [lnS, zA, zM, zG, zP]; omega))) only [nc, nct, w64_of, zT, zZ, zM, rdS, at_agg, bofZ, bof1, bof0, zC, zS, reduceCtorEq, Bool.not_true, Bool.not_false, zD, zE, zB, zF, zN, zO, ne_eq, zQ, zL, zR, beq_iff_eq] at h_s))
    | (refine hF ?_; intro _; clear hF)
    | (refine hF ?_; cbv; clear hF)
    | (refine ⟨fun _ => ?_, ?_⟩; (· ((try simp only [nc] at *); first | done | omega | exact ⟨by omega, rfl⟩ | (simp (disch := (first | omega | (simp only [lnS, zA, zM, zG, zP]; omega))) only [nc, nct, w64_of, zT, zZ, zM, rdS, at_agg, bofZ, bof1, bof0, zC, zS]; first | done | omega | rfl | exact ⟨by omega, rfl⟩ | (simp; done) | (simp; omega)) | (intros; trivial))); (try (simp only [nc] at *)); (try simp (disch := (first | omega | (simp only [lnS, zA, zM, zG, zP]; omega))) only [nc, nct, w64_of, zT, zZ, zM, rdS, at_agg, bofZ, bof1, bof0, zC, zS]); (try cbv))
    | fail
  )
  all_goals simp
theorem linear_yes (hγ : γ 0 = some tabAV) (g : Gr) (hg : Rd g) (h : GOk g) (kw : Pure Tryz.prog γ false 6 [.i fun _ => 1, aGr g] (.tup [.b fun _ => true, .i fun _ => 0])) (ha : acyM (nG g) (togF (viewG g) (nG g)) = true)
    (tl : List Nat) (hs : Sorts (turnM (togF (viewG g) (nG g))) (togF (viewG g) (nG g)).length (fullM (nG g)) [] (tl.map fun (k : Nat) => (k : Int))) (htl : ∀ p ∈ tl, p < nG g) (hlen : tl.length ≤ 64) :
    Pure Tryz.prog γ false 7 [aGr g] (.tup [.vs 2 fun _ => ids (linL g tl), .b fun _ => true]) := by
  have ks := sort_yes (γ := γ) hγ (nG g) (togF (viewG g) (nG g)) ha _ hs
  have kl := learn_yes (γ := γ) g hg h
  have kt := together_ok (γ := γ) g h
  have ka := at_ok (γ := γ) g hg h
  unfold aFg at *
  generalize poF (viewG g) (nG g) = q1 at *
  generalize rfF (viewG g) (nG g) = q2 at *
  generalize coF (viewG g) (nG g) = q3 at *
  generalize frF (viewG g) (nG g) = q4 at *
  generalize swF (viewG g) (nG g) = q5 at *
  generalize ecoF (viewG g) (nG g) = q6 at *
  generalize porfF (viewG g) (nG g) = q7 at *
  generalize hbF (viewG g) (nG g) = q8 at *
  generalize locF (viewG g) (nG g) = q9 at *
  generalize togF (viewG g) (nG g) = q0 at *
  obtain ⟨L, hL⟩ : ∃ L : Nat → List EId, ∀ k, L k = linL g (tl.take k) := ⟨_, fun _ => rfl⟩
  have l0 : L 0 = [] := by rw [hL]; rfl
  have lS : ∀ k, k < tl.length → L (k + 1) = L k ++ if 0 < ((idsG g).getD (tl.getD k 0) id0).t then [(idsG g).getD (tl.getD k 0) id0] else [] := fun k hk => by rw [hL, hL]; exact linL_take g tl k hk
  have lL : ∀ k, (L k).length ≤ k := fun k => by
    rw [hL]; unfold linL
    refine Nat.le_trans (List.length_filter_le _ _) ?_
    simp; omega
  have lE : L tl.length = linL g tl := by rw [hL, List.take_length]
  rw [← lE]
  obtain ⟨G, hG⟩ : ∃ G : List EId → Nat, ∀ l, G l = l.length := ⟨_, fun _ => rfl⟩
  have hG0 : G [] = 0 := by rw [hG]; rfl
  have hTl : ∀ k, k < tl.length → (tl.map fun (k : Nat) => (k : Int)).getD k 0 = (tl.getD k 0 : Nat) := fun k hk => by simp [hk]
  have hTm : ∀ k, k < tl.length → tl.getD k 0 < nG g := fun k hk => htl _ (by simp [hk])
  clear hL lE hs
  generalize hT : (tl.map fun (k : Nat) => (k : Int)) = T at *
  have hTlen : T.length = tl.length := by rw [← hT]; simp
  clear hT
  refine Pure.go (ty := ty) ty_eq mo Tryz.func7 rfl Tryz.ntmps7 Tryz.results7 Tryz.call7 (by simp) fun P C CQ D W F E hF => ?_
  cbv
  repeat' (first
    | (refine E.c (SCalls.of_le (ks) ?_ ?_); (· (cbv; (try simp only [nc] at *); first | done | (simp; done) | (simp (disch := (first | omega | (simp only [lnS, zA, zM, zG, zP]; omega))) only [nc, nct, w64_of, zT, zZ, zM, rdS, at_agg, bofZ, bof1, bof0, zC, zS, implies_true, and_true, true_and, forall_const]; first | done | omega | (refine ⟨?_, ?_⟩ <;> omega)) | (simp (disch := (first | omega | (simp only [lnS, zA, zM, zG, zP]; omega))) [nc, nct, w64_of, zT, zZ, zM, rdS, at_agg, bofZ, bof1, bof0, zC, zS]; done))); cbv)
    | (refine E.c (SCalls.of_le (kt) ?_ ?_); (· (cbv; (try simp only [nc] at *); first | done | (simp; done) | (simp (disch := (first | omega | (simp only [lnS, zA, zM, zG, zP]; omega))) only [nc, nct, w64_of, zT, zZ, zM, rdS, at_agg, bofZ, bof1, bof0, zC, zS, implies_true, and_true, true_and, forall_const]; first | done | omega | (refine ⟨?_, ?_⟩ <;> omega)) | (simp (disch := (first | omega | (simp only [lnS, zA, zM, zG, zP]; omega))) [nc, nct, w64_of, zT, zZ, zM, rdS, at_agg, bofZ, bof1, bof0, zC, zS]; done))); cbv)
    | (refine E.c (SCalls.of_le (kl) ?_ ?_); (· (cbv; (try simp only [nc] at *); first | done | (simp; done) | (simp (disch := (first | omega | (simp only [lnS, zA, zM, zG, zP]; omega))) only [nc, nct, w64_of, zT, zZ, zM, rdS, at_agg, bofZ, bof1, bof0, zC, zS, implies_true, and_true, true_and, forall_const]; first | done | omega | (refine ⟨?_, ?_⟩ <;> omega)) | (simp (disch := (first | omega | (simp only [lnS, zA, zM, zG, zP]; omega))) [nc, nct, w64_of, zT, zZ, zM, rdS, at_agg, bofZ, bof1, bof0, zC, zS]; done))); cbv)
    | (refine E.c (SCalls.of_le (kw) ?_ ?_); (· (cbv; (try simp only [nc] at *); first | done | (simp; done) | (simp (disch := (first | omega | (simp only [lnS, zA, zM, zG, zP]; omega))) only [nc, nct, w64_of, zT, zZ, zM, rdS, at_agg, bofZ, bof1, bof0, zC, zS, implies_true, and_true, true_and, forall_const]; first | done | omega | (refine ⟨?_, ?_⟩ <;> omega)) | (simp (disch := (first | omega | (simp only [lnS, zA, zM, zG, zP]; omega))) [nc, nct, w64_of, zT, zZ, zM, rdS, at_agg, bofZ, bof1, bof0, zC, zS]; done))); cbv)
    | (refine ⟨fun _ h_s => ?_, fun _ h_s => ?_⟩ <;> (cbv; (try simp only [nc] at *); try simp (disch := (first | omega | (simp only [lnS, zA, zM, zG, zP]; omega))) only [nc, nct, w64_of, zT, zZ, zM, rdS, at_agg, bofZ, bof1, bof0, zC, zS, reduceCtorEq, Bool.not_true, Bool.not_false, zD, zE, zB, zF, zN, zO, ne_eq, zQ, zL, zR, beq_iff_eq] at h_s))
    | (refine hF ?_; intro _; clear hF)
    | (refine hF ?_; cbv; clear hF)
    | (refine ⟨fun _ => ?_, ?_⟩; (· ((try simp only [nc] at *); first | done | omega | exact ⟨by omega, rfl⟩ | (simp (disch := (first | omega | (simp only [lnS, zA, zM, zG, zP]; omega))) only [nc, nct, w64_of, zT, zZ, zM, rdS, at_agg, bofZ, bof1, bof0, zC, zS]; first | done | omega | rfl | exact ⟨by omega, rfl⟩ | (simp; done) | (simp; omega)) | (intros; trivial))); (try (simp only [nc] at *)); (try simp (disch := (first | omega | (simp only [lnS, zA, zM, zG, zP]; omega))) only [nc, nct, w64_of, zT, zZ, zM, rdS, at_agg, bofZ, bof1, bof0, zC, zS]); (try cbv))
    | fail
  )
  refine E.w (AWP.ghostSlot 10 2 rfl (by omega) (E.loopSA (ι := Nat) (fun k => k ≤ T.length) (fun k => T.length - k) (fun k => [(37, .i fun _ => ((k : Nat) : Int)), (10, .sl 2 (G (L k)) 2 (fun _ => 0) fun _ => (L k).length)]) (fun k h => h.set 2 (.run (G (L k)) 2 fun _ => ids (L k))) 0 (fun _ => by first | rfl | simp) (Nat.zero_le _) ?_ fun k hk I hI => ?_))
  · cbv; simp [l0, hG0, ids, LV.of]
  cbv
  have hSk := lS k
  have hLk := lL k
  have hTk := hTl k
  have hMk := hTm k
  have hak := fun hk : k < tl.length => ka (tl.getD k 0) (hTm k hk)
  skip
  repeat' (first
    | (refine ⟨fun _ h_s => ?_, fun _ h_s => ?_⟩ <;> (cbv; (try simp only [nc] at *); try simp (disch := (first | omega | (simp only [lnS, zA, zM, zG, zP]; omega))) only [nc, nct, w64_of, zT, zZ, zM, rdS, at_agg, bofZ, bof1, bof0, zC, zS, reduceCtorEq, Bool.not_true, Bool.not_false, zD, zE, zB, zF, zN, zO, ne_eq, zQ, zL, zR, beq_iff_eq] at h_s))
    | (refine hF ?_; intro _; clear hF)
    | (refine hF ?_; cbv; clear hF)
    | (refine ⟨fun _ => ?_, ?_⟩; (· ((try simp only [nc] at *); first | done | omega | exact ⟨by omega, rfl⟩ | (simp (disch := (first | omega | (simp only [lnS, zA, zM, zG, zP]; omega))) only [nc, nct, w64_of, zT, zZ, zM, rdS, at_agg, bofZ, bof1, bof0, zC, zS]; first | done | omega | rfl | exact ⟨by omega, rfl⟩ | (simp; done) | (simp; omega)) | (intros; trivial) | exact ⟨by first | trivial | rfl, by first | trivial | rfl | simp, by first | trivial | simp, by simp; omega, by simp; omega, by simp [AV.flat, AV.cells, AV.one]⟩)); (try (simp only [nc] at *)); (try simp (disch := (first | omega | (simp only [lnS, zA, zM, zG, zP]; omega))) only [nc, nct, w64_of, zT, zZ, zM, rdS, at_agg, bofZ, bof1, bof0, zC, zS]); (try cbv))
    | fail
  )
  · have hk' : k < tl.length := by ((try simp only [nc] at *); omega)
    have kx := hak hk'
    rw [← hTk hk'] at kx
    have hS1 := hSk hk'
    clear hSk hTk hMk hak ka
    generalize (idsG g).getD (tl.getD k 0) id0 = d at *
    repeat' (first
      | (refine hI (k + 1) ?_ ?_ ?_; rotate_left 1; (· ((try simp only [nc] at *); omega)); (cbv; clear hI; (try clear hF); (try simp only [nc] at *); (try simp (disch := (first | omega | (simp only [lnS, zA, zM, zG, zP]; omega))) only [nc, nct, w64_of, zT, zZ, zM, rdS, at_agg, bofZ, bof1, bof0, zC, zS, implies_true, and_true, true_and, forall_const])); rotate_left 1; (try ((try simp only [nc] at *); omega)))
      | (refine E.c (SCalls.of_le (kx) ?_ ?_); (· (cbv; (try simp only [nc] at *); first | done | (simp; done) | (simp (disch := (first | omega | (simp only [lnS, zA, zM, zG, zP]; omega))) only [nc, nct, w64_of, zT, zZ, zM, rdS, at_agg, bofZ, bof1, bof0, zC, zS, implies_true, and_true, true_and, forall_const]; first | done | omega | (refine ⟨?_, ?_⟩ <;> omega)) | (simp (disch := (first | omega | (simp only [lnS, zA, zM, zG, zP]; omega))) [nc, nct, w64_of, zT, zZ, zM, rdS, at_agg, bofZ, bof1, bof0, zC, zS]; done))); cbv)
      | (refine ⟨fun _ h_s => ?_, fun _ h_s => ?_⟩ <;> (cbv; (try simp only [nc] at *); try simp (disch := (first | omega | (simp only [lnS, zA, zM, zG, zP]; omega))) only [nc, nct, w64_of, zT, zZ, zM, rdS, at_agg, bofZ, bof1, bof0, zC, zS, reduceCtorEq, Bool.not_true, Bool.not_false, zD, zE, zB, zF, zN, zO, ne_eq, zQ, zL, zR, beq_iff_eq] at h_s))
      | (refine hF ?_; intro _; clear hF)
      | (refine hF ?_; cbv; clear hF)
      | (refine ⟨fun _ => ?_, ?_⟩; (· ((try simp only [nc] at *); first | done | omega | exact ⟨by omega, rfl⟩ | (simp (disch := (first | omega | (simp only [lnS, zA, zM, zG, zP]; omega))) only [nc, nct, w64_of, zT, zZ, zM, rdS, at_agg, bofZ, bof1, bof0, zC, zS]; first | done | omega | rfl | exact ⟨by omega, rfl⟩ | (simp; done) | (simp; omega)) | (intros; trivial) | exact ⟨by first | trivial | rfl, by first | trivial | rfl | simp, by first | trivial | simp, by simp; omega, by simp; omega, by simp [AV.flat, AV.cells, AV.one]⟩)); (try (simp only [nc] at *)); (try simp (disch := (first | omega | (simp only [lnS, zA, zM, zG, zP]; omega))) only [nc, nct, w64_of, zT, zZ, zM, rdS, at_agg, bofZ, bof1, bof0, zC, zS]); (try cbv))
      | fail
    )
    · have hpos : 0 < d.t := by assumption
      rw [if_pos hpos] at hS1
      simp [hG, hS1, ids, setAll, AV.nrm]
    · have hneg : ¬ 0 < d.t := by ((try simp only [nc] at *); omega)
      rw [if_neg hneg, List.append_nil] at hS1
      rw [hS1]
      exact ⟨⟨by push_cast; rfl, rfl, rfl⟩, rfl, rfl⟩
  · have e : k = tl.length := by ((try simp only [nc] at *); omega)
    subst e
    rw [List.drop_zero, List.take_of_length_le (by simp)]
    simp
end Go.AL.Rl

namespace Go.AL.Rl
open Go Go.AL Go.Proofs
set_option maxRecDepth 100000
set_option maxHeartbeats 1600000

structure Lin (g : Gr) (lk : List Nat) : Prop where
  nd : lk.Nodup
  mem : ∀ k, k ∈ lk ↔ g.init.length ≤ k ∧ k < nG g
  pw : lk.Pairwise fun a b => bit (togF (viewG g) (nG g)) b a = false
  irr : ∀ k, bit (plusM (nG g) (togF (viewG g) (nG g))) k k = false
structure LSt (g : Gr) (lk : List Nat) (i : Nat) (a : List Int) (b : List EId) : Prop where
  la : a.length = g.th.length
  lb : b.length = g.init.length
  ha : ∀ t < g.th.length, ∃ c : Nat, a.getD t 0 = c ∧ c ≤ (g.th.getD t []).length ∧ ∀ j < (g.th.getD t []).length, (kN g t j ∈ lk.take i ↔ j < c)
  hb : ∀ x < g.init.length, ∃ k < nG g, b.getD x id0 = (idsG g).getD k id0 ∧ writesM ((viewG g).ev.getD k ev0) = true ∧ ((viewG g).ev.getD k ev0).loc = x ∧ (k < g.init.length ∨ k ∈ lk.take i) ∧
    ∀ m < nG g, (m < g.init.length ∨ m ∈ lk.take i) → writesM ((viewG g).ev.getD m ev0) = true → ((viewG g).ev.getD m ev0).loc = x → m = k ∨ coM (viewG g) m k = true
theorem init_ev {g : Gr} (h : GOk g) {x : Nat} (hx : x < g.init.length) : x < nG g ∧ writesM ((viewG g).ev.getD x ev0) = true ∧ ((viewG g).ev.getD x ev0).loc = x ∧ ((idsG g).getD x id0).t = 0 := by
  have hn : x < nG g := by unfold nG idsG; rw [List.length_append, idsI_len]; omega
  have he := vev h x hn
  have hd := ids_init hx
  rw [hd] at he
  obtain ⟨h1, h2, _⟩ := event_init he rfl
  exact ⟨hn, by unfold writesM; rw [h1]; rfl, h2, by rw [hd]⟩
section
variable {g : Gr} {lk : List Nat} (h : GOk g) (L : Lin g lk)
include L
theorem lin_no {i m : Nat} (hi : i < lk.length) (hm : m ∈ lk.take i) : bit (togF (viewG g) (nG g)) (lk.getD i 0) m = false := by
  obtain ⟨j, hj, rfl⟩ := List.getElem_of_mem hm
  rw [List.length_take] at hj
  have := List.pairwise_iff_getElem.1 L.pw j i (by omega) hi (by omega)
  simpa [hi] using this
theorem lin_in {i m : Nat} (hi : i < lk.length) (hm : m ∈ lk) (ht : bit (togF (viewG g) (nG g)) m (lk.getD i 0) = true) : m ∈ lk.take i := by
  obtain ⟨j, hj, rfl⟩ := List.getElem_of_mem hm
  rcases Nat.lt_or_ge j i with h1 | h1
  · exact List.mem_take_iff_getElem.2 ⟨j, by omega, rfl⟩
  · exfalso
    have e : lk.getD i 0 = lk[i] := by simp [hi]
    rw [e] at ht
    rcases Nat.lt_or_ge i j with h2 | h2
    · have := List.pairwise_iff_getElem.1 L.pw i j hi hj h2
      rw [this] at ht; cases ht
    · obtain rfl : i = j := by omega
      have := plus_edge (n := nG g) ht
      rw [L.irr] at this; cases this
omit h in
theorem lin_new {i : Nat} (hi : i < lk.length) : lk.getD i 0 ∉ lk.take i := fun hm => by
  obtain ⟨j, hj, he⟩ := List.getElem_of_mem hm
  rw [List.length_take] at hj
  have e : lk.getD i 0 = lk[i] := by simp [hi]
  rw [e] at he
  have he' : lk[j] = lk[i] := by simpa using he
  have := (List.getElem_inj L.nd).1 he'
  omega
omit L in
theorem lin_take {i m : Nat} (hi : i < lk.length) : m ∈ lk.take (i + 1) ↔ m ∈ lk.take i ∨ m = lk.getD i 0 := by
  rw [take_succ' lk i 0 hi]; simp
include h
theorem lin_at {i : Nat} {a : List Int} {b : List EId} (S : LSt g lk i a b) (hi : i < lk.length) {t j : Nat} (ht : t < g.th.length) (hj : j < (g.th.getD t []).length) (he : lk.getD i 0 = kN g t j) : a.getD t 0 = j := by
  obtain ⟨c, hc, hcl, hcm⟩ := S.ha t ht
  have h1 : ¬ j < c := fun hlt => by
    have := (hcm j hj).2 hlt
    rw [← he] at this
    exact lin_new L hi this
  have h2 : j ≤ c := by
    rcases Nat.lt_or_ge c j with h2 | h2
    · exfalso
      have hcl' : c < (g.th.getD t []).length := by omega
      have hpo : poM (viewG g) (kN g t c) (kN g t j) = true := by
        unfold poM
        rw [show (viewG g).ids = idsG g from rfl, (kN_ids ht hj).2, (kN_ids ht hcl').2]
        simp; omega
      have hin : kN g t c ∈ lk.take i := lin_in L hi ((L.mem _).2 ⟨by unfold kN; omega, (kN_ids ht hcl').1⟩) (by rw [he]; exact (tog_iff h _ _).2 ⟨(kN_ids ht hcl').1, (kN_ids ht hj).1, .inl hpo⟩)
      have := (hcm c hcl').1 hin
      omega
    · exact h2
  rw [hc]; omega
omit L in
theorem lin_po {k t j : Nat} (hk : k < g.init.length) (ht : t < g.th.length) (hj : j < (g.th.getD t []).length) : bit (togF (viewG g) (nG g)) k (kN g t j) = true := by
  obtain ⟨h1, _, _, h4⟩ := init_ev h hk
  refine (tog_iff h _ _).2 ⟨h1, (kN_ids ht hj).1, .inl ?_⟩
  unfold poM
  rw [show (viewG g).ids = idsG g from rfl, (kN_ids ht hj).2, h4]
  simp; omega
/-- what was gone through is not behind what comes -/
theorem lin_back {i m t j : Nat} (hi : i < lk.length) (ht : t < g.th.length) (hj : j < (g.th.getD t []).length) (he : lk.getD i 0 = kN g t j) (hm : m < g.init.length ∨ m ∈ lk.take i) : bit (togF (viewG g) (nG g)) (kN g t j) m = false := by
  rcases hm with hm | hm
  · cases hb : bit (togF (viewG g) (nG g)) (kN g t j) m with
    | false => rfl
    | true =>
      have := tg_trans h (plus_edge hb) (plus_edge (lin_po h hm ht hj))
      rw [L.irr] at this; cases this
  · rw [← he]; exact lin_no L hi hm
omit h in
theorem lin_ne {i m t j : Nat} (hi : i < lk.length) (he : lk.getD i 0 = kN g t j) (hm : m < g.init.length ∨ m ∈ lk.take i) : kN g t j ≠ m := fun e => by
  rcases hm with hm | hm
  · unfold kN at e; omega
  · rw [← e, ← he] at hm; exact lin_new L hi hm
theorem lin_rd {i : Nat} {a : List Int} {b : List EId} (S : LSt g lk i a b) (hi : i < lk.length) {t j : Nat} (ht : t < g.th.length) (hj : j < (g.th.getD t []).length) (he : lk.getD i 0 = kN g t j)
    (hr : readsM ((g.th.getD t []).getD j ev0) = true) : 0 ≤ ((g.th.getD t []).getD j ev0).loc ∧ ((g.th.getD t []).getD j ev0).loc < g.init.length ∧ b.getD ((g.th.getD t []).getD j ev0).loc.toNat id0 = (g.fr.getD t []).getD j id0 := by
  have hev := kN_ev ht hj h.short.th
  rw [← hev] at hr
  obtain ⟨hk, hd⟩ := kN_ids ht hj
  obtain ⟨w, s1, s2, s3, s4, s5⟩ := upd_src h ht hj hr
  have hl := fine_loc (event_fine h (vev h _ hk) (by rw [hd]; simp; omega)) (notFence_r hr)
  rw [← hev]
  refine ⟨hl.1, hl.2, ?_⟩
  obtain ⟨kb, b1, b2, b3, b4, b5, b6⟩ := S.hb ((viewG g).ev.getD (kN g t j) ev0).loc.toNat (by omega)
  have hrf : bit (togF (viewG g) (nG g)) w (kN g t j) = true := (tog_iff h _ _).2 ⟨s2, hk, .inr (.inl (by unfold rfM; rw [s1]; simp))⟩
  have hwp : w < g.init.length ∨ w ∈ lk.take i := by
    rcases Nat.lt_or_ge w g.init.length with h1 | h1
    · exact .inl h1
    · exact .inr (lin_in L hi ((L.mem w).2 ⟨h1, s2⟩) (by rw [he]; exact hrf))
  rcases b6 w s2 hwp s3 (by rw [s4]; omega) with h1 | h1
  · rw [b2, ← h1, s5]
  · exfalso
    have hfr : frM (viewG g) (kN g t j) kb = true := by
      unfold frM
      rw [s1]
      simp only [Int.toNat_natCast, h1, Bool.and_true, Bool.and_eq_true, decide_eq_true_eq]
      exact ⟨lin_ne L hi he b5, by omega⟩
    have h3 := (tog_iff h (kN g t j) kb).2 ⟨hk, b1, .inr (.inr (.inr hfr))⟩
    rw [lin_back h L hi ht hj he b5] at h3; cases h3
omit L in
theorem lin_co {a b : Nat} (ha : a < nG g) (hb : b < nG g) (hne : a ≠ b) (wa : writesM ((viewG g).ev.getD a ev0) = true) (wb : writesM ((viewG g).ev.getD b ev0) = true) (hl : ((viewG g).ev.getD a ev0).loc = ((viewG g).ev.getD b ev0).loc) : coM (viewG g) a b = true ∨ coM (viewG g) b a = true := by
  have n1 := near_of (V := viewG g) (a := a) (b := b) (notFence_w wa) (notFence_w wb) hl
  have n2 := near_symm _ n1
  have p1 := (pl_iff h a ha).2 wa
  have p2 := (pl_iff h b hb).2 wb
  unfold coM
  rw [n1, n2]
  simp only [Bool.and_true, Bool.and_eq_true, decide_eq_true_eq]
  rcases Int.lt_trichotomy ((viewG g).pl.getD a 0) ((viewG g).pl.getD b 0) with h1 | h1 | h1
  · exact .inl ⟨p1, h1⟩
  · exact absurd (pl_inj h a b ha hb wa wb hl h1) hne
  · exact .inr ⟨p2, h1⟩
theorem lin_at_next {i : Nat} {a : List Int} {b : List EId} (S : LSt g lk i a b) (hi : i < lk.length) {t j : Nat} (ht : t < g.th.length) (hj : j < (g.th.getD t []).length) (he : lk.getD i 0 = kN g t j) :
    ∀ s < g.th.length, ∃ c : Nat, (a.set t ((j : Int) + 1)).getD s 0 = c ∧ c ≤ (g.th.getD s []).length ∧ ∀ q < (g.th.getD s []).length, (kN g s q ∈ lk.take (i + 1) ↔ q < c) := by
  intro s hs
  obtain ⟨c, hc, hcl, hcm⟩ := S.ha s hs
  have hat := lin_at h L S hi ht hj he
  by_cases e : s = t
  · subst e
    have : c = j := by omega
    subst this
    refine ⟨c + 1, by rw [List.getD_eq_getElem?_getD, List.getElem?_set_self (by rw [S.la]; exact ht)]; simp, by omega, fun q hq => ?_⟩
    rw [lin_take hi, hcm q hq, he]
    constructor
    · rintro (h1 | h1)
      · omega
      · unfold kN at h1; omega
    · intro h1
      rcases Nat.lt_or_ge q c with h2 | h2
      · exact .inl h2
      · exact .inr (by rw [show q = c by omega])
  · refine ⟨c, by rw [List.getD_eq_getElem?_getD, List.getElem?_set_ne (by omega), ← List.getD_eq_getElem?_getD, hc], hcl, fun q hq => ?_⟩
    rw [lin_take hi, hcm q hq, he]
    constructor
    · rintro (h1 | h1)
      · exact h1
      · exfalso
        have e1 := (kN_ids hs hq).2
        have e2 := (kN_ids ht hj).2
        rw [h1, e2] at e1
        have := congrArg EId.t e1
        simp at this
        omega
    · exact .inl
theorem lin_next0 {i : Nat} {a : List Int} {b : List EId} (S : LSt g lk i a b) (hi : i < lk.length) {t j : Nat} (ht : t < g.th.length) (hj : j < (g.th.getD t []).length) (he : lk.getD i 0 = kN g t j)
    (hw : writesM ((g.th.getD t []).getD j ev0) = false) : LSt g lk (i + 1) (a.set t ((j : Int) + 1)) b := by
  refine ⟨by rw [List.length_set]; exact S.la, S.lb, lin_at_next h L S hi ht hj he, fun x hx => ?_⟩
  obtain ⟨kb, b1, b2, b3, b4, b5, b6⟩ := S.hb x hx
  refine ⟨kb, b1, b2, b3, b4, b5.imp id fun hm => (lin_take hi).2 (.inl hm), fun m hm hp hwm hlm => ?_⟩
  rcases hp with hp | hp
  · exact b6 m hm (.inl hp) hwm hlm
  · rcases (lin_take hi).1 hp with hp | hp
    · exact b6 m hm (.inr hp) hwm hlm
    · exfalso
      rw [hp, he, kN_ev ht hj h.short.th, hw] at hwm; cases hwm
theorem lin_next1 {i : Nat} {a : List Int} {b : List EId} (S : LSt g lk i a b) (hi : i < lk.length) {t j : Nat} (ht : t < g.th.length) (hj : j < (g.th.getD t []).length) (he : lk.getD i 0 = kN g t j)
    (hw : writesM ((g.th.getD t []).getD j ev0) = true) : 0 ≤ ((g.th.getD t []).getD j ev0).loc ∧ ((g.th.getD t []).getD j ev0).loc < g.init.length ∧ LSt g lk (i + 1) (a.set t ((j : Int) + 1)) (b.set ((g.th.getD t []).getD j ev0).loc.toNat ((idsG g).getD (kN g t j) id0)) := by
  have hev := kN_ev ht hj h.short.th
  rw [← hev] at hw ⊢
  obtain ⟨hk, hd⟩ := kN_ids ht hj
  have hl := fine_loc (event_fine h (vev h _ hk) (by rw [hd]; simp; omega)) (notFence_w hw)
  refine ⟨hl.1, hl.2, by rw [List.length_set]; exact S.la, by rw [List.length_set]; exact S.lb, lin_at_next h L S hi ht hj he, fun x hx => ?_⟩
  obtain ⟨kb, b1, b2, b3, b4, b5, b6⟩ := S.hb x hx
  by_cases e : x = ((viewG g).ev.getD (kN g t j) ev0).loc.toNat
  · subst e
    refine ⟨kN g t j, hk, by rw [List.getD_eq_getElem?_getD, List.getElem?_set_self (by rw [S.lb]; exact hx)]; rfl, hw, by omega, .inr ((lin_take hi).2 (.inr he.symm)), fun m hm hp hwm hlm => ?_⟩
    by_cases em : m = kN g t j
    · exact .inl em
    · right
      have hp' : m < g.init.length ∨ m ∈ lk.take i := hp.imp id fun hx => ((lin_take hi).1 hx).resolve_right (by rw [he]; exact em)
      rcases lin_co h hm hk em hwm hw (by omega) with h1 | h1
      · exact h1
      · exfalso
        have h3 := (tog_iff h (kN g t j) m).2 ⟨hk, hm, .inr (.inr (.inl h1))⟩
        rw [lin_back h L hi ht hj he hp'] at h3; cases h3
  · refine ⟨kb, b1, by rw [List.getD_eq_getElem?_getD, List.getElem?_set_ne (by omega), ← List.getD_eq_getElem?_getD, b2], b3, b4, b5.imp id fun hm => (lin_take hi).2 (.inl hm), fun m hm hp hwm hlm => ?_⟩
    rcases hp with hp | hp
    · exact b6 m hm (.inl hp) hwm hlm
    · rcases (lin_take hi).1 hp with hp | hp
      · exact b6 m hm (.inr hp) hwm hlm
      · exfalso
        rw [hp, he] at hlm
        omega
end
theorem lin_init {g : Gr} (h : GOk g) (lk : List Nat) (b : List EId) (hb : b.length = g.init.length) (hbx : ∀ x < g.init.length, b.getD x id0 = ⟨0, x⟩) : LSt g lk 0 (List.replicate g.th.length 0) b := by
  refine ⟨by simp, hb, fun t ht => ⟨0, by simp [ht], by omega, fun j _ => by simp⟩, fun x hx => ?_⟩
  obtain ⟨h1, h2, h3, h4⟩ := init_ev h hx
  refine ⟨x, h1, by rw [hbx x hx, ids_init hx], h2, h3, .inl hx, fun m _ hp _ hlm => .inl ?_⟩
  have hm : m < g.init.length := by simpa using hp
  have := (init_ev h hm).2.2.1
  omega
end Go.AL.Rl

namespace Go.AL.Rl
open Go Go.AL Go.Proofs
set_option maxRecDepth 100000
set_option maxHeartbeats 3200000
variable {γ : Nat → Option AV}

def vB : Vw := ⟨[⟨0, 0⟩, ⟨0, 1⟩, ⟨1, 0⟩, ⟨1, 1⟩, ⟨2, 0⟩, ⟨2, 1⟩], [⟨2, 0, 1, 0, 0⟩, ⟨2, 1, 1, 0, 0⟩, ⟨2, 0, 5, 0, 1⟩, ⟨1, 1, 5, 0, 0⟩, ⟨2, 1, 5, 0, 1⟩, ⟨1, 0, 5, 0, 0⟩], [-1, -1, -1, 1, -1, 0], [0, 0, 1, -1, 1, -1]⟩
theorem gBok : GOk gB := by decide +kernel
theorem gBv : viewG gB = vB := by
  unfold viewG vB
  simp only [Vw.mk.injEq]
  decide +kernel
theorem gBn : nG gB = 6 := rfl
theorem rdB : Rd gB := by
  refine ⟨by simp [gB], by simp [gB], by simp [gB], by simp [gB], ?_, ?_, ?_⟩ <;> simp [gB]
theorem swB : swF vB 6 = [0, 0, 0, 0, 0, 0] := by rw [swC_eq (by omega) (by decide +kernel)]; decide +kernel
theorem hbB : hbF vB 6 = [60, 60, 8, 0, 32, 0] := by unfold hbF; rw [swB]; decide +kernel
theorem fB1 : (fltM vB 6 1).br = false := rfl
theorem fB2 : (fltM vB 6 2).br = false := by show (updF vB 6).br = false; decide +kernel
theorem fB3 : (fltM vB 6 3).br = false := by show (circF (porfF vB 6)).br = false; decide +kernel
theorem fB4 : (fltM vB 6 4).br = false := by show (circF (hbF vB 6)).br = false; rw [hbB]; decide +kernel
theorem fB5 : (fltM vB 6 5).br = false := by show (cohF (hbF vB 6) (ecoF vB 6)).br = false; rw [hbB]; decide +kernel
theorem fB6 : (fltM vB 6 6).br = true ∧ (fltM vB 6 6).a = 2 ∧ (fltM vB 6 6).b = -1 := by
  show (circF (plusM 6 (togF vB 6))).br = true ∧ (circF (plusM 6 (togF vB 6))).a = 2 ∧ (circF (plusM 6 (togF vB 6))).b = -1
  decide +kernel
theorem wB2 : Pure Tryz.prog γ false 12 [.i fun _ => 2, aGr gB] (aBk ⟨0, 0, 0, false⟩) := by
  have k := why_yes (γ := γ) 2 [1, 2, 3, 4, 5] gB (.inr rfl) (by simp) (by decide) rules_yes2 rdB gBok
  rw [gBv, gBn] at k
  have e : [1, 2, 3, 4, 5].find? (fun k => (fltM vB 6 k).br) = none := by simp [List.find?, fB1, fB2, fB3, fB4, fB5]
  rw [e] at k
  exact k
theorem wB1 : Pure Tryz.prog γ false 12 [.i fun _ => 1, aGr gB] (aBk ⟨6, 2, -1, true⟩) := by
  have k := why_yes (γ := γ) 1 [1, 2, 6] gB (.inl rfl) (by simp) (by decide) rules_yes1 rdB gBok
  rw [gBv, gBn] at k
  have e : [1, 2, 6].find? (fun k => (fltM vB 6 k).br) = some 6 := by simp [List.find?, fB1, fB2, fB6]
  rw [e] at k
  simp only [fB6.2.1, fB6.2.2] at k
  exact k
theorem cB2 : Pure Tryz.prog γ false 6 [.i fun _ => 2, aGr gB] (.tup [.b fun _ => true, .i fun _ => 0]) := by
  have k := mcheck_ok (γ := γ) 2 gB _ wB2
  simpa using k
theorem cB1 : Pure Tryz.prog γ false 6 [.i fun _ => 1, aGr gB] (.tup [.b fun _ => false, .i fun _ => 0]) := by
  have k := mcheck_ok (γ := γ) 1 gB _ wB1
  simpa using k
theorem lives16_ok : Pure Tryz.prog γ false 4 [] (.b fun _ => true) := by
  have kb := buffers_ok (γ := γ)
  have k1 := cB1 (γ := γ)
  have k2 := cB2 (γ := γ)
  have k3 := wB1 (γ := γ)
  generalize gB = g at *
  refine Pure.go (ty := ty) ty_eq mo Tryz.func4 rfl Tryz.ntmps4 Tryz.results4 Tryz.call4 (by simp) fun P C CQ D W F E hF => ?_
  cbv
  repeat' (first
    | (refine E.c (SCalls.of_le (k3) ?_ ?_); (· (cbv; (try simp only [nc] at *); first | done | (simp; done) | (simp (disch := (first | omega | (simp only [lnS, zA, zM, zG, zP]; omega))) only [nc, nct, w64_of, zT, zZ, zM, rdS, at_agg, bofZ, bof1, bof0, zC, zS, implies_true, and_true, true_and, forall_const]; first | done | omega | (refine ⟨?_, ?_⟩ <;> omega)) | (simp (disch := (first | omega | (simp only [lnS, zA, zM, zG, zP]; omega))) [nc, nct, w64_of, zT, zZ, zM, rdS, at_agg, bofZ, bof1, bof0, zC, zS]; done))); cbv)
    | (refine E.c (SCalls.of_le (k2) ?_ ?_); (· (cbv; (try simp only [nc] at *); first | done | (simp; done) | (simp (disch := (first | omega | (simp only [lnS, zA, zM, zG, zP]; omega))) only [nc, nct, w64_of, zT, zZ, zM, rdS, at_agg, bofZ, bof1, bof0, zC, zS, implies_true, and_true, true_and, forall_const]; first | done | omega | (refine ⟨?_, ?_⟩ <;> omega)) | (simp (disch := (first | omega | (simp only [lnS, zA, zM, zG, zP]; omega))) [nc, nct, w64_of, zT, zZ, zM, rdS, at_agg, bofZ, bof1, bof0, zC, zS]; done))); cbv)
    | (refine E.c (SCalls.of_le (k1) ?_ ?_); (· (cbv; (try simp only [nc] at *); first | done | (simp; done) | (simp (disch := (first | omega | (simp only [lnS, zA, zM, zG, zP]; omega))) only [nc, nct, w64_of, zT, zZ, zM, rdS, at_agg, bofZ, bof1, bof0, zC, zS, implies_true, and_true, true_and, forall_const]; first | done | omega | (refine ⟨?_, ?_⟩ <;> omega)) | (simp (disch := (first | omega | (simp only [lnS, zA, zM, zG, zP]; omega))) [nc, nct, w64_of, zT, zZ, zM, rdS, at_agg, bofZ, bof1, bof0, zC, zS]; done))); cbv)
    | (refine E.c (SCalls.of_le (kb) ?_ ?_); (· (cbv; (try simp only [nc] at *); first | done | (simp; done) | (simp (disch := (first | omega | (simp only [lnS, zA, zM, zG, zP]; omega))) only [nc, nct, w64_of, zT, zZ, zM, rdS, at_agg, bofZ, bof1, bof0, zC, zS, implies_true, and_true, true_and, forall_const]; first | done | omega | (refine ⟨?_, ?_⟩ <;> omega)) | (simp (disch := (first | omega | (simp only [lnS, zA, zM, zG, zP]; omega))) [nc, nct, w64_of, zT, zZ, zM, rdS, at_agg, bofZ, bof1, bof0, zC, zS]; done))); cbv)
    | (refine ⟨fun _ h_s => ?_, fun _ h_s => ?_⟩ <;> (cbv; (try simp only [nc] at *); try simp (disch := (first | omega | (simp only [lnS, zA, zM, zG, zP]; omega))) only [nc, nct, w64_of, zT, zZ, zM, rdS, at_agg, bofZ, bof1, bof0, zC, zS, reduceCtorEq, Bool.not_true, Bool.not_false, zD, zE, zB, zF, zN, zO, ne_eq, zQ, zL, zR, beq_iff_eq] at h_s))
    | (refine hF ?_; intro _; clear hF)
    | (refine hF ?_; cbv; clear hF)
    | (refine ⟨fun _ => ?_, ?_⟩; (· ((try simp only [nc] at *); first | done | omega | exact ⟨by omega, rfl⟩ | (simp (disch := (first | omega | (simp only [lnS, zA, zM, zG, zP]; omega))) only [nc, nct, w64_of, zT, zZ, zM, rdS, at_agg, bofZ, bof1, bof0, zC, zS]; first | done | omega | rfl | exact ⟨by omega, rfl⟩ | (simp; done) | (simp; omega)) | (intros; trivial))); (try (simp only [nc] at *)); (try simp (disch := (first | omega | (simp only [lnS, zA, zM, zG, zP]; omega))) only [nc, nct, w64_of, zT, zZ, zM, rdS, at_agg, bofZ, bof1, bof0, zC, zS]); (try cbv))
    | fail
  )
  all_goals first
    | (simp; done)
    | (exfalso; revert h_s; simp; done)
end Go.AL.Rl

namespace Go.AL.Rl
open Go Go.AL Go.Proofs
set_option maxRecDepth 100000
set_option maxHeartbeats 3200000
variable {γ : Nat → Option AV}

abbrev aGiven (n : Int) (po rf co fr : List (BitVec 64)) : AV := .agg [.i fun _ => n, .vs 1 fun _ => us po, .i fun _ => n, .vs 1 fun _ => us rf, .i fun _ => n, .vs 1 fun _ => us co, .i fun _ => n, .vs 1 fun _ => us fr]
theorem wgiven_ok (g : Gr) (hg : Rd g) (h : GOk g) : Pure Tryz.prog γ false 20 [pW g] (aGiven (nG g : Nat) (poF (viewG g) (nG g)) (rfF (viewG g) (nG g)) (coF (viewG g) (nG g)) (frF (viewG g) (nG g))) := by
  have hn := (viewG_wf h).small
  have c1 := fun a b => wpo_ok (γ := γ) g a b
  have c2 := fun a b => wrf_ok (γ := γ) g h a b
  have c3 := fun a b => wco_ok (γ := γ) g hg h a b
  have c4 := fun a b => wfr_ok (γ := γ) g hg h a b
  unfold poF rfF coF frF
  generalize poM (viewG g) = p1 at *
  generalize rfM (viewG g) = p2 at *
  generalize coM (viewG g) = p3 at *
  generalize frM (viewG g) = p4 at *
  obtain ⟨L, hL⟩ : ∃ L : (Nat → Nat → Bool) → Nat → Nat → List (Int × Int), ∀ p a b, L p a b = prA p (nG g) a ++ prE p a b := ⟨_, fun _ _ _ => rfl⟩
  obtain ⟨G, hG⟩ : ∃ G : List (Int × Int) → Nat, ∀ l, G l = l.length := ⟨_, fun _ => rfl⟩
  have hG0 : G [] = 0 := by rw [hG]; rfl
  have l0 : ∀ p, L p 0 0 = [] := fun p => by rw [hL]; rfl
  have lS : ∀ p a b, L p a (b + 1) = L p a b ++ if p a b = true then [((a : Int), (b : Int))] else [] := fun p a b => by rw [hL, hL, prE_succ]; simp only [List.append_assoc]
  have lE : ∀ p a, L p a (nG g) = L p (a + 1) 0 := fun p a => by rw [hL, hL, prA_succ]; simp [prE]
  have lL : ∀ p a b, a ≤ nG g → b ≤ nG g → (L p a b).length ≤ 4000 := fun p a b ha hb => by
    have q1 := prA_len p (nG g) a
    have q2 := prE_len p a b
    have q3 : a * nG g ≤ 62 * 62 := Nat.mul_le_mul (by omega) hn
    rw [hL, List.length_append]; omega
  have lF : ∀ p, L p (nG g) 0 = prA p (nG g) (nG g) := fun p => by rw [hL]; simp [prE]
  have hlen : ∀ p, (prA p (nG g) (nG g)).length ≤ 4000 := fun p => by rw [← lF]; exact lL p _ _ (Nat.le_refl _) (Nat.zero_le _)
  have o2 : ∀ p, Pure Tryz.prog γ false 23 [.i fun _ => (nG g : Int), .vs 2 fun _ => ps (prA p (nG g) (nG g))] (encRel (nG g) (relRows (nG g) p)) := fun p => by
    have := rof_in (γ := γ) (nG g : Int) (prA p (nG g) (nG g)) (by omega) (by omega) (by have := hlen p; omega)
    rwa [ofTo_rel (nG g) (by omega) p] at this
  have k1 := o2 p1
  have k2 := o2 p2
  have k3 := o2 p3
  have k4 := o2 p4
  clear o2
  refine Pure.goL (ty := ty) ty_eq mo Tryz.func20 rfl Tryz.ntmps20 Tryz.results20 Tryz.call20 (by simp) fun P C CQ D W F E hF => ?_
  refine E.cut 4 (told 95 [(0, pW g), (2, .ptr 0 0), (3, .ptr 1 0)] [.box (.agg [.lit 0, .nils, .lit 0, .nils, .lit 0, .nils, .lit 0, .nils]), .box (.agg [.vs 2 fun _ => ps (prA p1 (nG g) (nG g)), .vs 2 fun _ => ps (prA p2 (nG g) (nG g)), .vs 2 fun _ => ps (prA p3 (nG g) (nG g)), .vs 2 fun _ => ps (prA p4 (nG g) (nG g))])]) (by kernel_rfl) (Nat.zero_le _) (fun I hI => ?_) (E.bl ?_)
  · cbv
    repeat' (first
      | (refine ⟨fun _ h_s => ?_, fun _ h_s => ?_⟩ <;> (cbv; (try simp only [nc] at *); try simp (disch := (first | omega | (simp only [lnS, zA, zM, zG, zP]; omega))) only [nc, nct, w64_of, zT, zZ, zM, rdS, at_agg, bofZ, bof1, bof0, zC, zS, reduceCtorEq, Bool.not_true, Bool.not_false, zD, zE, zB, zF, zN, zO, ne_eq, zQ, zL, zR, beq_iff_eq] at h_s))
      | (refine hF ?_; intro _; clear hF)
      | (refine hF ?_; cbv; clear hF)
      | (refine ⟨fun _ => ?_, ?_⟩; (· ((try simp only [nc] at *); first | done | omega | exact ⟨by omega, rfl⟩ | (simp (disch := (first | omega | (simp only [lnS, zA, zM, zG, zP]; omega))) only [nc, nct, w64_of, zT, zZ, zM, rdS, at_agg, bofZ, bof1, bof0, zC, zS]; first | done | omega | rfl | exact ⟨by omega, rfl⟩ | (simp; done) | (simp; omega)) | (intros; trivial))); (try (simp only [nc] at *)); (try simp (disch := (first | omega | (simp only [lnS, zA, zM, zG, zP]; omega))) only [nc, nct, w64_of, zT, zZ, zM, rdS, at_agg, bofZ, bof1, bof0, zC, zS]); (try cbv))
      | (refine E.d 27 (by decide +kernel) ?_; cbv; (fail_if_success guard_target =~ False))
      | fail
    )
    refine E.w (AWP.ghostField 1 0 2 rfl rfl ?_)
    refine AWP.ghostField 1 1 2 rfl rfl ?_
    refine AWP.ghostField 1 2 2 rfl rfl ?_
    refine AWP.ghostField 1 3 2 rfl rfl ?_
    refine E.loopSA (ι := Nat) (fun a => a ≤ nG g) (fun a => nG g - a) (fun a => [(4, .i fun _ => ((a : Nat) : Int))]) (fun a h => (((((h.set 1 (.box (.agg [.sl 2 (G (L p1 a 0)) 2 (fun _ => 0) fun _ => (L p1 a 0).length, .sl 3 (G (L p2 a 0)) 2 (fun _ => 0) fun _ => (L p2 a 0).length, .sl 4 (G (L p3 a 0)) 2 (fun _ => 0) fun _ => (L p3 a 0).length, .sl 5 (G (L p4 a 0)) 2 (fun _ => 0) fun _ => (L p4 a 0).length]))).set 2 (.run (G (L p1 a 0)) 2 fun _ => ps (L p1 a 0))).set 3 (.run (G (L p2 a 0)) 2 fun _ => ps (L p2 a 0))).set 4 (.run (G (L p3 a 0)) 2 fun _ => ps (L p3 a 0))).set 5 (.run (G (L p4 a 0)) 2 fun _ => ps (L p4 a 0)))) 0 (fun _ => by first | rfl | simp) (Nat.zero_le _) ?_ fun a ha I1 hJ => ?_
    · cbv
      simp [l0, hG0, ps, LV.of]
    cbv
    repeat' (first
      | (refine ⟨fun _ h_s => ?_, fun _ h_s => ?_⟩ <;> (cbv; (try simp only [nc] at *); try simp (disch := (first | omega | (simp only [lnS, zA, zM, zG, zP]; omega))) only [nc, nct, w64_of, zT, zZ, zM, rdS, at_agg, bofZ, bof1, bof0, zC, zS, reduceCtorEq, Bool.not_true, Bool.not_false, zD, zE, zB, zF, zN, zO, ne_eq, zQ, zL, zR, beq_iff_eq] at h_s))
      | (refine hF ?_; intro _; clear hF)
      | (refine hF ?_; cbv; clear hF)
      | (refine ⟨fun _ => ?_, ?_⟩; (· ((try simp only [nc] at *); first | done | omega | exact ⟨by omega, rfl⟩ | (simp (disch := (first | omega | (simp only [lnS, zA, zM, zG, zP]; omega))) only [nc, nct, w64_of, zT, zZ, zM, rdS, at_agg, bofZ, bof1, bof0, zC, zS]; first | done | omega | rfl | exact ⟨by omega, rfl⟩ | (simp; done) | (simp; omega)) | (intros; trivial))); (try (simp only [nc] at *)); (try simp (disch := (first | omega | (simp only [lnS, zA, zM, zG, zP]; omega))) only [nc, nct, w64_of, zT, zZ, zM, rdS, at_agg, bofZ, bof1, bof0, zC, zS]); (try cbv))
      | (refine E.d 27 (by decide +kernel) ?_; cbv; (fail_if_success guard_target =~ False))
      | fail
    )
    · refine E.loopS (ι := Nat) (fun b => b ≤ (nG g)) (fun b => (nG g) - b) (fun b => [(5, .i fun _ => ((b : Nat) : Int))]) (fun b h => (((((h.set 1 (.box (.agg [.sl 2 (G (L p1 a b)) 2 (fun _ => 0) fun _ => (L p1 a b).length, .sl 3 (G (L p2 a b)) 2 (fun _ => 0) fun _ => (L p2 a b).length, .sl 4 (G (L p3 a b)) 2 (fun _ => 0) fun _ => (L p3 a b).length, .sl 5 (G (L p4 a b)) 2 (fun _ => 0) fun _ => (L p4 a b).length]))).set 2 (.run (G (L p1 a b)) 2 fun _ => ps (L p1 a b))).set 3 (.run (G (L p2 a b)) 2 fun _ => ps (L p2 a b))).set 4 (.run (G (L p3 a b)) 2 fun _ => ps (L p3 a b))).set 5 (.run (G (L p4 a b)) 2 fun _ => ps (L p4 a b)))) 0 (fun _ => by first | rfl | simp) (Nat.zero_le _) ?_ fun b hb I2 hI2 => ?_
      · cbv; simp
      cbv
      have d1 := lL p1 a b ha hb
      have d2 := lL p2 a b ha hb
      have d3 := lL p3 a b ha hb
      have d4 := lL p4 a b ha hb
      skip
      repeat' (first
        | (refine hI2 (b + 1) ?_ ?_ ?_; rotate_left 1; (· ((try simp only [nc] at *); omega)); (cbv; clear hI2; (try clear hF); (try simp only [nc] at *); (try simp (disch := (first | omega | (simp only [lnS, zA, zM, zG, zP]; omega))) only [nc, nct, w64_of, zT, zZ, zM, rdS, at_agg, bofZ, bof1, bof0, zC, zS, implies_true, and_true, true_and, forall_const])); rotate_left 1; (try ((try simp only [nc] at *); omega)))
        | (refine E.c (SCalls.of_le (c4 a b (by ((try simp only [nc] at *); omega)) (by ((try simp only [nc] at *); omega))) ?_ ?_); (· (cbv; (try simp only [nc] at *); first | done | (simp; done) | (simp (disch := (first | omega | (simp only [lnS, zA, zM, zG, zP]; omega))) only [nc, nct, w64_of, zT, zZ, zM, rdS, at_agg, bofZ, bof1, bof0, zC, zS, implies_true, and_true, true_and, forall_const]; first | done | omega | (refine ⟨?_, ?_⟩ <;> omega)) | (simp (disch := (first | omega | (simp only [lnS, zA, zM, zG, zP]; omega))) [nc, nct, w64_of, zT, zZ, zM, rdS, at_agg, bofZ, bof1, bof0, zC, zS]; done))); cbv)
        | (refine E.c (SCalls.of_le (c3 a b (by ((try simp only [nc] at *); omega)) (by ((try simp only [nc] at *); omega))) ?_ ?_); (· (cbv; (try simp only [nc] at *); first | done | (simp; done) | (simp (disch := (first | omega | (simp only [lnS, zA, zM, zG, zP]; omega))) only [nc, nct, w64_of, zT, zZ, zM, rdS, at_agg, bofZ, bof1, bof0, zC, zS, implies_true, and_true, true_and, forall_const]; first | done | omega | (refine ⟨?_, ?_⟩ <;> omega)) | (simp (disch := (first | omega | (simp only [lnS, zA, zM, zG, zP]; omega))) [nc, nct, w64_of, zT, zZ, zM, rdS, at_agg, bofZ, bof1, bof0, zC, zS]; done))); cbv)
        | (refine E.c (SCalls.of_le (c2 a b (by ((try simp only [nc] at *); omega)) (by ((try simp only [nc] at *); omega))) ?_ ?_); (· (cbv; (try simp only [nc] at *); first | done | (simp; done) | (simp (disch := (first | omega | (simp only [lnS, zA, zM, zG, zP]; omega))) only [nc, nct, w64_of, zT, zZ, zM, rdS, at_agg, bofZ, bof1, bof0, zC, zS, implies_true, and_true, true_and, forall_const]; first | done | omega | (refine ⟨?_, ?_⟩ <;> omega)) | (simp (disch := (first | omega | (simp only [lnS, zA, zM, zG, zP]; omega))) [nc, nct, w64_of, zT, zZ, zM, rdS, at_agg, bofZ, bof1, bof0, zC, zS]; done))); cbv)
        | (refine E.c (SCalls.of_le (c1 a b (by ((try simp only [nc] at *); omega)) (by ((try simp only [nc] at *); omega))) ?_ ?_); (· (cbv; (try simp only [nc] at *); first | done | (simp; done) | (simp (disch := (first | omega | (simp only [lnS, zA, zM, zG, zP]; omega))) only [nc, nct, w64_of, zT, zZ, zM, rdS, at_agg, bofZ, bof1, bof0, zC, zS, implies_true, and_true, true_and, forall_const]; first | done | omega | (refine ⟨?_, ?_⟩ <;> omega)) | (simp (disch := (first | omega | (simp only [lnS, zA, zM, zG, zP]; omega))) [nc, nct, w64_of, zT, zZ, zM, rdS, at_agg, bofZ, bof1, bof0, zC, zS]; done))); cbv)
        | (refine ⟨fun _ h_s => ?_, fun _ h_s => ?_⟩ <;> (cbv; (try simp only [nc] at *); try simp (disch := (first | omega | (simp only [lnS, zA, zM, zG, zP]; omega))) only [nc, nct, w64_of, zT, zZ, zM, rdS, at_agg, bofZ, bof1, bof0, zC, zS, reduceCtorEq, Bool.not_true, Bool.not_false, zD, zE, zB, zF, zN, zO, ne_eq, zQ, zL, zR, beq_iff_eq] at h_s))
        | (refine hF ?_; intro _; clear hF)
        | (refine hF ?_; cbv; clear hF)
        | (refine ⟨fun _ => ?_, ?_⟩; (· ((try simp only [nc] at *); first | done | omega | exact ⟨by omega, rfl⟩ | (simp (disch := (first | omega | (simp only [lnS, zA, zM, zG, zP]; omega))) only [nc, nct, w64_of, zT, zZ, zM, rdS, at_agg, bofZ, bof1, bof0, zC, zS]; first | done | omega | rfl | exact ⟨by omega, rfl⟩ | (simp; done) | (simp; omega)) | (intros; trivial) | exact ⟨by first | trivial | rfl, by first | trivial | rfl | simp, by first | trivial | simp, by simp; omega, by simp; omega, by simp [AV.flat, AV.cells, AV.one]⟩)); (try (simp only [nc] at *)); (try simp (disch := (first | omega | (simp only [lnS, zA, zM, zG, zP]; omega))) only [nc, nct, w64_of, zT, zZ, zM, rdS, at_agg, bofZ, bof1, bof0, zC, zS]); (try cbv))
        | (refine E.d 27 (by decide +kernel) ?_; cbv; (fail_if_success guard_target =~ False))
        | fail
      )
      all_goals clear c1 c2 c3 c4 E lL lF l0 hG0 d1 d2 d3 d4
      rotate_right 1
      · have eb : b = nG g := by ((try simp only [nc] at *); omega)
        subst eb
        simp only [lE]
        refine hJ (a + 1) (by ((try simp only [nc] at *); omega)) (by ((try simp only [nc] at *); omega)) ?_
        cbv
        clear hJ hI hI2
        have e := w64_of (n := (a : Int) + 1) (by omega) (by omega)
        simp [e]
      all_goals clear lE
      all_goals simp_all [hG, setAll, ps, AV.nrm]
      all_goals omega
    · have ea : a = nG g := by ((try simp only [nc] at *); omega)
      subst ea
      simp only [lF]
      refine hI ?_
      cbv
      clear hI hJ
      simp only [List.drop_zero, nc]
      simp
      refine ⟨?_, ?_, ?_, ?_⟩ <;> exact List.take_of_length_le (by simp)
  · cbv
    repeat' (first
      | (refine E.c (SCalls.of_le (k4) ?_ ?_); (· (cbv; (try simp only [nc] at *); first | done | (simp; done) | (simp (disch := (first | omega | (simp only [lnS, zA, zM, zG, zP]; omega))) only [nc, nct, w64_of, zT, zZ, zM, rdS, at_agg, bofZ, bof1, bof0, zC, zS, implies_true, and_true, true_and, forall_const]; first | done | omega | (refine ⟨?_, ?_⟩ <;> omega)) | (simp (disch := (first | omega | (simp only [lnS, zA, zM, zG, zP]; omega))) [nc, nct, w64_of, zT, zZ, zM, rdS, at_agg, bofZ, bof1, bof0, zC, zS]; done))); cbv)
      | (refine E.q (QCalls.of_le (k4) ?_ ?_); (· (cbv; (try simp only [nc] at *); first | done | (simp; done) | (simp (disch := (first | omega | (simp only [lnS, zA, zM, zG, zP]; omega))) only [nc, nct, w64_of, zT, zZ, zM, rdS, at_agg, bofZ, bof1, bof0, zC, zS, implies_true, and_true, true_and, forall_const]; first | done | omega | (refine ⟨?_, ?_⟩ <;> omega)) | (simp (disch := (first | omega | (simp only [lnS, zA, zM, zG, zP]; omega))) [nc, nct, w64_of, zT, zZ, zM, rdS, at_agg, bofZ, bof1, bof0, zC, zS]; done))); cbv)
      | (refine E.c (SCalls.of_le (k3) ?_ ?_); (· (cbv; (try simp only [nc] at *); first | done | (simp; done) | (simp (disch := (first | omega | (simp only [lnS, zA, zM, zG, zP]; omega))) only [nc, nct, w64_of, zT, zZ, zM, rdS, at_agg, bofZ, bof1, bof0, zC, zS, implies_true, and_true, true_and, forall_const]; first | done | omega | (refine ⟨?_, ?_⟩ <;> omega)) | (simp (disch := (first | omega | (simp only [lnS, zA, zM, zG, zP]; omega))) [nc, nct, w64_of, zT, zZ, zM, rdS, at_agg, bofZ, bof1, bof0, zC, zS]; done))); cbv)
      | (refine E.q (QCalls.of_le (k3) ?_ ?_); (· (cbv; (try simp only [nc] at *); first | done | (simp; done) | (simp (disch := (first | omega | (simp only [lnS, zA, zM, zG, zP]; omega))) only [nc, nct, w64_of, zT, zZ, zM, rdS, at_agg, bofZ, bof1, bof0, zC, zS, implies_true, and_true, true_and, forall_const]; first | done | omega | (refine ⟨?_, ?_⟩ <;> omega)) | (simp (disch := (first | omega | (simp only [lnS, zA, zM, zG, zP]; omega))) [nc, nct, w64_of, zT, zZ, zM, rdS, at_agg, bofZ, bof1, bof0, zC, zS]; done))); cbv)
      | (refine E.c (SCalls.of_le (k2) ?_ ?_); (· (cbv; (try simp only [nc] at *); first | done | (simp; done) | (simp (disch := (first | omega | (simp only [lnS, zA, zM, zG, zP]; omega))) only [nc, nct, w64_of, zT, zZ, zM, rdS, at_agg, bofZ, bof1, bof0, zC, zS, implies_true, and_true, true_and, forall_const]; first | done | omega | (refine ⟨?_, ?_⟩ <;> omega)) | (simp (disch := (first | omega | (simp only [lnS, zA, zM, zG, zP]; omega))) [nc, nct, w64_of, zT, zZ, zM, rdS, at_agg, bofZ, bof1, bof0, zC, zS]; done))); cbv)
      | (refine E.q (QCalls.of_le (k2) ?_ ?_); (· (cbv; (try simp only [nc] at *); first | done | (simp; done) | (simp (disch := (first | omega | (simp only [lnS, zA, zM, zG, zP]; omega))) only [nc, nct, w64_of, zT, zZ, zM, rdS, at_agg, bofZ, bof1, bof0, zC, zS, implies_true, and_true, true_and, forall_const]; first | done | omega | (refine ⟨?_, ?_⟩ <;> omega)) | (simp (disch := (first | omega | (simp only [lnS, zA, zM, zG, zP]; omega))) [nc, nct, w64_of, zT, zZ, zM, rdS, at_agg, bofZ, bof1, bof0, zC, zS]; done))); cbv)
      | (refine E.c (SCalls.of_le (k1) ?_ ?_); (· (cbv; (try simp only [nc] at *); first | done | (simp; done) | (simp (disch := (first | omega | (simp only [lnS, zA, zM, zG, zP]; omega))) only [nc, nct, w64_of, zT, zZ, zM, rdS, at_agg, bofZ, bof1, bof0, zC, zS, implies_true, and_true, true_and, forall_const]; first | done | omega | (refine ⟨?_, ?_⟩ <;> omega)) | (simp (disch := (first | omega | (simp only [lnS, zA, zM, zG, zP]; omega))) [nc, nct, w64_of, zT, zZ, zM, rdS, at_agg, bofZ, bof1, bof0, zC, zS]; done))); cbv)
      | (refine E.q (QCalls.of_le (k1) ?_ ?_); (· (cbv; (try simp only [nc] at *); first | done | (simp; done) | (simp (disch := (first | omega | (simp only [lnS, zA, zM, zG, zP]; omega))) only [nc, nct, w64_of, zT, zZ, zM, rdS, at_agg, bofZ, bof1, bof0, zC, zS, implies_true, and_true, true_and, forall_const]; first | done | omega | (refine ⟨?_, ?_⟩ <;> omega)) | (simp (disch := (first | omega | (simp only [lnS, zA, zM, zG, zP]; omega))) [nc, nct, w64_of, zT, zZ, zM, rdS, at_agg, bofZ, bof1, bof0, zC, zS]; done))); cbv)
      | (refine ⟨fun _ h_s => ?_, fun _ h_s => ?_⟩ <;> (cbv; (try simp only [nc] at *); try simp (disch := (first | omega | (simp only [lnS, zA, zM, zG, zP]; omega))) only [nc, nct, w64_of, zT, zZ, zM, rdS, at_agg, bofZ, bof1, bof0, zC, zS, reduceCtorEq, Bool.not_true, Bool.not_false, zD, zE, zB, zF, zN, zO, ne_eq, zQ, zL, zR, beq_iff_eq] at h_s))
      | (refine hF ?_; intro _; clear hF)
      | (refine hF ?_; cbv; clear hF)
      | (refine ⟨fun _ => ?_, ?_⟩; (· ((try simp only [nc] at *); first | done | omega | exact ⟨by omega, rfl⟩ | (simp (disch := (first | omega | (simp only [lnS, zA, zM, zG, zP]; omega))) only [nc, nct, w64_of, zT, zZ, zM, rdS, at_agg, bofZ, bof1, bof0, zC, zS]; first | done | omega | rfl | exact ⟨by omega, rfl⟩ | (simp; done) | (simp; omega)) | (intros; trivial) | exact ⟨by first | trivial | rfl, by first | trivial | rfl | simp, by first | trivial | simp, by simp; omega, by simp; omega, by simp [AV.flat, AV.cells, AV.one]⟩)); (try (simp only [nc] at *)); (try simp (disch := (first | omega | (simp only [lnS, zA, zM, zG, zP]; omega))) only [nc, nct, w64_of, zT, zZ, zM, rdS, at_agg, bofZ, bof1, bof0, zC, zS]); (try cbv))
      | (refine E.d 27 (by decide +kernel) ?_; cbv; (fail_if_success guard_target =~ False))
      | fail
    )
end Go.AL.Rl

namespace Go.AL.Rl
open Go Go.AL Go.Proofs
set_option maxRecDepth 100000
set_option maxHeartbeats 3200000
variable {γ : Nat → Option AV}

theorem wsw_ok (g : Gr) (h : GOk g) : Pure Tryz.prog γ false 24 [pW g] (encRel (nG g : Nat) (swF (viewG g) (nG g))) := by
  have hn := (viewG_wf h).small
  have hEl := evsG_l g
  have hVl : (viewG g).ev = evsG g := rfl
  have hfr0 := fun i hi => fr_iff h i hi
  have hfrl := (viewG_wf h).frl
  have q1 := wreads_ok (γ := γ) g
  have q2 := wwrites_ok (γ := γ) g
  have q3 := wacq_ok (γ := γ) g
  have q4 := wrel_ok (γ := γ) g
  have q5 := wsequence_ok (γ := γ) g h
  have q6 := wfrom_ok (γ := γ) g h
  have q7 := wpo_ok (γ := γ) g
  have e1 : ∀ w, cwM (viewG g) w = (writesM ((evsG g).getD w ⟨0, 0, 0, 0, 0⟩) && decide (((evsG g).getD w ⟨0, 0, 0, 0, 0⟩).order ≠ 1)) := fun _ => rfl
  have e2 : ∀ s b, rdrM (viewG g) s b = (readsM ((evsG g).getD b ⟨0, 0, 0, 0, 0⟩) && decide (((evsG g).getD b ⟨0, 0, 0, 0, 0⟩).order ≠ 1) && s.getLsbD ((viewG g).fr.getD b 0).toNat) := fun _ _ => rfl
  have e3 : ∀ w r, crM (viewG g) w r = (relM ((evsG g).getD r ⟨0, 0, 0, 0, 0⟩) && (decide (r = w) || decide (((evsG g).getD r ⟨0, 0, 0, 0, 0⟩).kind = 4) && poM (viewG g) r w)) := fun _ _ => rfl
  have e4 : ∀ b a, caM (viewG g) b a = (acqM ((evsG g).getD a ⟨0, 0, 0, 0, 0⟩) && (decide (a = b) || decide (((evsG g).getD a ⟨0, 0, 0, 0, 0⟩).kind = 4) && poM (viewG g) b a)) := fun _ _ => rfl
  rw [hVl] at q1 q2 q3 q4
  obtain ⟨L, hL⟩ : ∃ L : Nat → Nat → Nat → Nat → List (Int × Int), ∀ w b r a, L w b r a = lAll (viewG g) (nG g) w b r a := ⟨_, fun _ _ _ _ => rfl⟩
  obtain ⟨G, hG⟩ : ∃ G : List (Int × Int) → Nat, ∀ l, G l = l.length := ⟨_, fun _ => rfl⟩
  have hG0 : G [] = 0 := by rw [hG]; rfl
  have l0 : L 0 0 0 0 = [] := by rw [hL]; rfl
  have lL : ∀ w b r a, w ≤ nG g → b ≤ nG g → r ≤ nG g → a ≤ nG g → (L w b r a).length ≤ 100000000 := fun w b r a h1 h2 h3 h4 => by rw [hL]; exact lAll_len _ _ _ _ _ _ hn h1 h2 h3 h4
  have a1 : ∀ w b r a, caM (viewG g) b a = true → L w b r (a + 1) = L w b r a ++ [((r : Int), (a : Int))] := fun w b r a hc => by rw [hL, hL]; exact lAll_a1 _ _ _ _ _ _ hc
  have a0 : ∀ w b r a, ¬ caM (viewG g) b a = true → L w b r (a + 1) = L w b r a := fun w b r a hc => by rw [hL, hL]; exact lAll_a0 _ _ _ _ _ _ hc
  have r1 : ∀ w b r, crM (viewG g) w r = true → L w b (r + 1) 0 = L w b r (nG g) := fun w b r hc => by rw [hL, hL]; exact lAll_r1 _ _ _ _ _ hc
  have r0 : ∀ w b r, ¬ crM (viewG g) w r = true → L w b (r + 1) 0 = L w b r 0 := fun w b r hc => by rw [hL, hL]; exact lAll_r0 _ _ _ _ _ hc
  have b1 : ∀ w b, rdrM (viewG g) (seqM (viewG g) (nG g) w) b = true → L w (b + 1) 0 0 = L w b (nG g) 0 := fun w b hc => by rw [hL, hL]; exact lAll_b1 _ _ _ _ hc
  have b0 : ∀ w b, ¬ rdrM (viewG g) (seqM (viewG g) (nG g) w) b = true → L w (b + 1) 0 0 = L w b 0 0 := fun w b hc => by rw [hL, hL]; exact lAll_b0 _ _ _ _ hc
  have w1 : ∀ w, cwM (viewG g) w = true → L (w + 1) 0 0 0 = L w (nG g) 0 0 := fun w hc => by rw [hL, hL]; exact lAll_w1 _ _ _ hc
  have w0 : ∀ w, ¬ cwM (viewG g) w = true → L (w + 1) 0 0 0 = L w 0 0 0 := fun w hc => by rw [hL, hL]; exact lAll_w0 _ _ _ hc
  have eO : swF (viewG g) (nG g) = ofTo (nG g) (L (nG g) 0 0 0) (L (nG g) 0 0 0).length := by rw [hL]; exact (ofTo_sw (viewG g) (nG g) hn).symm
  have lN := lL (nG g) 0 0 0 (Nat.le_refl _) (Nat.zero_le _) (Nat.zero_le _) (Nat.zero_le _)
  have kO := rof_in (γ := γ) (nG g : Int) (L (nG g) 0 0 0) (by omega) (by omega) (by omega)
  rw [eO]
  clear eO hL
  generalize hS : seqM (viewG g) (nG g) = S at *
  generalize hF' : (viewG g).fr = FR at *
  generalize hP : poM (viewG g) = PO at *
  refine Pure.goL (ty := ty) ty_eq mo Tryz.func24 rfl Tryz.ntmps24 Tryz.results24 Tryz.call24 (by simp) fun P C CQ D W F E hF => ?_
  refine E.cut 4 (told 148 [(0, pW g), (2, .ptr 0 0), (3, .vs 2 fun _ => ps (L (nG g) 0 0 0))] [.box (.agg [.lit 0, .nils])]) (by kernel_rfl) (Nat.zero_le _) (fun I hI => ?_) (E.bl ?_)
  · cbv
    repeat' (first
      | (refine ⟨fun _ h_s => ?_, fun _ h_s => ?_⟩ <;> (cbv; (try simp only [nc] at *); try simp (disch := (first | omega | (simp only [lnS, zA, zM, zG, zP]; omega))) only [nc, nct, w64_of, zT, zZ, zM, rdS, at_agg, bofZ, bof1, bof0, zC, zS, reduceCtorEq, Bool.not_true, Bool.not_false, zD, zE, zB, zF, zN, zO, ne_eq, zQ, zL, zR, beq_iff_eq] at h_s))
      | (refine hF ?_; intro _; clear hF)
      | (refine hF ?_; cbv; clear hF)
      | (refine ⟨fun _ => ?_, ?_⟩; (· ((try simp only [nc] at *); first | done | omega | exact ⟨by omega, rfl⟩ | (simp (disch := (first | omega | (simp only [lnS, zA, zM, zG, zP]; omega))) only [nc, nct, w64_of, zT, zZ, zM, rdS, at_agg, bofZ, bof1, bof0, zC, zS]; first | done | omega | rfl | exact ⟨by omega, rfl⟩ | (simp; done) | (simp; omega)) | (intros; trivial))); (try (simp only [nc] at *)); (try simp (disch := (first | omega | (simp only [lnS, zA, zM, zG, zP]; omega))) only [nc, nct, w64_of, zT, zZ, zM, rdS, at_agg, bofZ, bof1, bof0, zC, zS]); (try cbv))
      | fail
    )
    refine E.w (AWP.ghostSlot 3 2 rfl (by omega) (E.loopSA (ι := Nat) (fun w => w ≤ (nG g)) (fun w => (nG g) - w) (fun w => [(4, .i fun _ => ((w : Nat) : Int)), (3, .sl 1 (G (L w 0 0 0)) 2 (fun _ => 0) fun _ => (L w 0 0 0).length)]) (fun w h => h.set 1 (.run (G (L w 0 0 0)) 2 fun _ => ps (L w 0 0 0))) 0 (fun _ => by first | rfl | simp) (Nat.zero_le _) ?_ fun w hw I1 hJ => ?_))
    · cbv; simp [l0, hG0, ps, LV.of]
    cbv
    have k2 := q2 w
    have k5 := q5 w
    have kw0 := w0 w
    have kw1 := w1 w
    have ew := e1 w
    repeat' (first
      | (refine hJ (w + 1) ?_ ?_ ?_; rotate_left 1; (· ((try simp only [nc] at *); omega)); (cbv; clear hJ; (try clear hF); (try simp only [nc] at *); (try simp (disch := (first | omega | (simp only [lnS, zA, zM, zG, zP]; omega))) only [nc, nct, w64_of, zT, zZ, zM, rdS, at_agg, bofZ, bof1, bof0, zC, zS, implies_true, and_true, true_and, forall_const])); rotate_left 1; (try ((try simp only [nc] at *); omega)))
      | (refine E.c (SCalls.of_le (k5 (by ((try simp only [nc] at *); omega))) ?_ ?_); (· (cbv; (try simp only [nc] at *); first | done | (simp; done) | (simp (disch := (first | omega | (simp only [lnS, zA, zM, zG, zP]; omega))) only [nc, nct, w64_of, zT, zZ, zM, rdS, at_agg, bofZ, bof1, bof0, zC, zS, implies_true, and_true, true_and, forall_const]; first | done | omega | (refine ⟨?_, ?_⟩ <;> omega)) | (simp (disch := (first | omega | (simp only [lnS, zA, zM, zG, zP]; omega))) [nc, nct, w64_of, zT, zZ, zM, rdS, at_agg, bofZ, bof1, bof0, zC, zS]; done))); cbv)
      | (refine E.c (SCalls.of_le (k2 (by ((try simp only [nc] at *); omega))) ?_ ?_); (· (cbv; (try simp only [nc] at *); first | done | (simp; done) | (simp (disch := (first | omega | (simp only [lnS, zA, zM, zG, zP]; omega))) only [nc, nct, w64_of, zT, zZ, zM, rdS, at_agg, bofZ, bof1, bof0, zC, zS, implies_true, and_true, true_and, forall_const]; first | done | omega | (refine ⟨?_, ?_⟩ <;> omega)) | (simp (disch := (first | omega | (simp only [lnS, zA, zM, zG, zP]; omega))) [nc, nct, w64_of, zT, zZ, zM, rdS, at_agg, bofZ, bof1, bof0, zC, zS]; done))); cbv)
      | (refine ⟨fun _ h_s => ?_, fun _ h_s => ?_⟩ <;> (cbv; (try simp only [nc] at *); try simp (disch := (first | omega | (simp only [lnS, zA, zM, zG, zP]; omega))) only [nc, nct, w64_of, zT, zZ, zM, rdS, at_agg, bofZ, bof1, bof0, zC, zS, reduceCtorEq, Bool.not_true, Bool.not_false, zD, zE, zB, zF, zN, zO, ne_eq, zQ, zL, zR, beq_iff_eq] at h_s))
      | (refine hF ?_; intro _; clear hF)
      | (refine hF ?_; cbv; clear hF)
      | (refine ⟨fun _ => ?_, ?_⟩; (· ((try simp only [nc] at *); first | done | omega | exact ⟨by omega, rfl⟩ | (simp (disch := (first | omega | (simp only [lnS, zA, zM, zG, zP]; omega))) only [nc, nct, w64_of, zT, zZ, zM, rdS, at_agg, bofZ, bof1, bof0, zC, zS]; first | done | omega | rfl | exact ⟨by omega, rfl⟩ | (simp; done) | (simp; omega)) | (intros; trivial))); (try (simp only [nc] at *)); (try simp (disch := (first | omega | (simp only [lnS, zA, zM, zG, zP]; omega))) only [nc, nct, w64_of, zT, zZ, zM, rdS, at_agg, bofZ, bof1, bof0, zC, zS]); (try cbv))
      | fail
    )
    iterate 2
      · have hc : ¬ cwM (viewG g) w = true := by
          clear kw0 kw1 w0 w1 r0 r1 b0 b1 a0 a1 lL
          rw [ew]; simp_all
        rw [kw0 hc]
        exact ⟨⟨⟨rfl, rfl⟩, by push_cast; rfl⟩, rfl, rfl⟩
    · have hcw : cwM (viewG g) w = true := by
        clear kw0 kw1 w0 w1 r0 r1 b0 b1 a0 a1 lL
        rw [ew]; simp_all
      replace kw1 := kw1 hcw
      clear kw0 ew
      refine E.loopS (ι := Nat) (fun b => b ≤ (nG g)) (fun b => (nG g) - b) (fun b => [(6, .i fun _ => ((b : Nat) : Int)), (3, .sl 1 (G (L w b 0 0)) 2 (fun _ => 0) fun _ => (L w b 0 0).length)]) (fun b h => h.set 1 (.run (G (L w b 0 0)) 2 fun _ => ps (L w b 0 0))) 0 (fun _ => by first | rfl | simp) (Nat.zero_le _) ?_ fun b hb I2 hI2 => ?_
      · cbv; simp
      cbv
      have k1 := q1 b
      have k6 := q6 b
      have kb0 := b0 w b
      have kb1 := b1 w b
      have eb := e2 (S w) b
      have hf1 := hfr0 b
      have hf2 := hfrl b
      repeat' (first
        | (refine hJ (w + 1) ?_ ?_ ?_; rotate_left 1; (· ((try simp only [nc] at *); omega)); (cbv; clear hJ; (try clear hF); (try simp only [nc] at *); (try simp (disch := (first | omega | (simp only [lnS, zA, zM, zG, zP]; omega))) only [nc, nct, w64_of, zT, zZ, zM, rdS, at_agg, bofZ, bof1, bof0, zC, zS, implies_true, and_true, true_and, forall_const])); rotate_left 1; (try ((try simp only [nc] at *); omega)))
        | (refine hI2 (b + 1) ?_ ?_ ?_; rotate_left 1; (· ((try simp only [nc] at *); omega)); (cbv; clear hI2; (try clear hF); (try simp only [nc] at *); (try simp (disch := (first | omega | (simp only [lnS, zA, zM, zG, zP]; omega))) only [nc, nct, w64_of, zT, zZ, zM, rdS, at_agg, bofZ, bof1, bof0, zC, zS, implies_true, and_true, true_and, forall_const])); rotate_left 1; (try ((try simp only [nc] at *); omega)))
        | (refine E.c (SCalls.of_le (k6 (by ((try simp only [nc] at *); omega))) ?_ ?_); (· (cbv; (try simp only [nc] at *); first | done | (simp; done) | (simp (disch := (first | omega | (simp only [lnS, zA, zM, zG, zP]; omega))) only [nc, nct, w64_of, zT, zZ, zM, rdS, at_agg, bofZ, bof1, bof0, zC, zS, implies_true, and_true, true_and, forall_const]; first | done | omega | (refine ⟨?_, ?_⟩ <;> omega)) | (simp (disch := (first | omega | (simp only [lnS, zA, zM, zG, zP]; omega))) [nc, nct, w64_of, zT, zZ, zM, rdS, at_agg, bofZ, bof1, bof0, zC, zS]; done))); cbv)
        | (refine E.c (SCalls.of_le (k1 (by ((try simp only [nc] at *); omega))) ?_ ?_); (· (cbv; (try simp only [nc] at *); first | done | (simp; done) | (simp (disch := (first | omega | (simp only [lnS, zA, zM, zG, zP]; omega))) only [nc, nct, w64_of, zT, zZ, zM, rdS, at_agg, bofZ, bof1, bof0, zC, zS, implies_true, and_true, true_and, forall_const]; first | done | omega | (refine ⟨?_, ?_⟩ <;> omega)) | (simp (disch := (first | omega | (simp only [lnS, zA, zM, zG, zP]; omega))) [nc, nct, w64_of, zT, zZ, zM, rdS, at_agg, bofZ, bof1, bof0, zC, zS]; done))); cbv)
        | (refine ⟨fun _ h_s => ?_, fun _ h_s => ?_⟩ <;> (cbv; (try simp only [nc] at *); try simp (disch := (first | omega | (simp only [lnS, zA, zM, zG, zP]; omega))) only [nc, nct, w64_of, zT, zZ, zM, rdS, at_agg, bofZ, bof1, bof0, zC, zS, reduceCtorEq, Bool.not_true, Bool.not_false, zD, zE, zB, zF, zN, zO, ne_eq, zQ, zL, zR, beq_iff_eq] at h_s))
        | (refine hF ?_; intro _; clear hF)
        | (refine hF ?_; cbv; clear hF)
        | (refine ⟨fun _ => ?_, ?_⟩; (· ((try simp only [nc] at *); first | done | omega | exact ⟨by omega, rfl⟩ | (simp (disch := (first | omega | (simp only [lnS, zA, zM, zG, zP]; omega))) only [nc, nct, w64_of, zT, zZ, zM, rdS, at_agg, bofZ, bof1, bof0, zC, zS]; first | done | omega | rfl | exact ⟨by omega, rfl⟩ | (simp; done) | (simp; omega)) | (intros; trivial))); (try (simp only [nc] at *)); (try simp (disch := (first | omega | (simp only [lnS, zA, zM, zG, zP]; omega))) only [nc, nct, w64_of, zT, zZ, zM, rdS, at_agg, bofZ, bof1, bof0, zC, zS]); (try cbv))
        | fail
      )
      iterate 3
        · have hc : ¬ rdrM (viewG g) (S w) b = true := by
            clear kb0 kb1 w0 w1 r0 r1 b0 b1 a0 a1 lL
            rw [eb]
            first
              | (simp_all; done)
              | (rw [bofZ (by simp_all) (by omega), mod2_bit0] at h_s; rw [Bool.and_eq_true]; rintro ⟨_, hx⟩; rw [h_s] at hx; cases hx)
          rw [kb0 hc]
          exact ⟨⟨⟨rfl, rfl⟩, by push_cast; rfl⟩, rfl, rfl⟩
      · have hcb : rdrM (viewG g) (S w) b = true := by
          clear kb0 kb1 w0 w1 r0 r1 b0 b1 a0 a1 lL
          rw [eb]
          rw [bofZ (by simp_all) (by omega), mod2_bit0] at h_s
          simp_all
        replace kb1 := kb1 hcb
        clear kb0 eb
        refine E.loopS (ι := Nat) (fun r => r ≤ (nG g)) (fun r => (nG g) - r) (fun r => [(7, .i fun _ => ((r : Nat) : Int)), (3, .sl 1 (G (L w b r 0)) 2 (fun _ => 0) fun _ => (L w b r 0).length)]) (fun r h => h.set 1 (.run (G (L w b r 0)) 2 fun _ => ps (L w b r 0))) 0 (fun _ => by first | rfl | simp) (Nat.zero_le _) ?_ fun r hr I3 hI3 => ?_
        · cbv; simp
        cbv
        have k4 := q4 r
        have k7 := q7 r w
        have kr0 := r0 w b r
        have kr1 := r1 w b r
        have er := e3 w r
        repeat' (first
          | (refine hI2 (b + 1) ?_ ?_ ?_; rotate_left 1; (· ((try simp only [nc] at *); omega)); (cbv; clear hI2; (try clear hF); (try simp only [nc] at *); (try simp (disch := (first | omega | (simp only [lnS, zA, zM, zG, zP]; omega))) only [nc, nct, w64_of, zT, zZ, zM, rdS, at_agg, bofZ, bof1, bof0, zC, zS, implies_true, and_true, true_and, forall_const])); rotate_left 1; (try ((try simp only [nc] at *); omega)))
          | (refine hI3 (r + 1) ?_ ?_ ?_; rotate_left 1; (· ((try simp only [nc] at *); omega)); (cbv; clear hI3; (try clear hF); (try simp only [nc] at *); (try simp (disch := (first | omega | (simp only [lnS, zA, zM, zG, zP]; omega))) only [nc, nct, w64_of, zT, zZ, zM, rdS, at_agg, bofZ, bof1, bof0, zC, zS, implies_true, and_true, true_and, forall_const])); rotate_left 1; (try ((try simp only [nc] at *); omega)))
          | (refine E.c (SCalls.of_le (k7 (by ((try simp only [nc] at *); omega)) (by ((try simp only [nc] at *); omega))) ?_ ?_); (· (cbv; (try simp only [nc] at *); first | done | (simp; done) | (simp (disch := (first | omega | (simp only [lnS, zA, zM, zG, zP]; omega))) only [nc, nct, w64_of, zT, zZ, zM, rdS, at_agg, bofZ, bof1, bof0, zC, zS, implies_true, and_true, true_and, forall_const]; first | done | omega | (refine ⟨?_, ?_⟩ <;> omega)) | (simp (disch := (first | omega | (simp only [lnS, zA, zM, zG, zP]; omega))) [nc, nct, w64_of, zT, zZ, zM, rdS, at_agg, bofZ, bof1, bof0, zC, zS]; done))); cbv)
          | (refine E.c (SCalls.of_le (k4 (by ((try simp only [nc] at *); omega))) ?_ ?_); (· (cbv; (try simp only [nc] at *); first | done | (simp; done) | (simp (disch := (first | omega | (simp only [lnS, zA, zM, zG, zP]; omega))) only [nc, nct, w64_of, zT, zZ, zM, rdS, at_agg, bofZ, bof1, bof0, zC, zS, implies_true, and_true, true_and, forall_const]; first | done | omega | (refine ⟨?_, ?_⟩ <;> omega)) | (simp (disch := (first | omega | (simp only [lnS, zA, zM, zG, zP]; omega))) [nc, nct, w64_of, zT, zZ, zM, rdS, at_agg, bofZ, bof1, bof0, zC, zS]; done))); cbv)
          | (refine ⟨fun _ h_s => ?_, fun _ h_s => ?_⟩ <;> (cbv; (try simp only [nc] at *); try simp (disch := (first | omega | (simp only [lnS, zA, zM, zG, zP]; omega))) only [nc, nct, w64_of, zT, zZ, zM, rdS, at_agg, bofZ, bof1, bof0, zC, zS, reduceCtorEq, Bool.not_true, Bool.not_false, zD, zE, zB, zF, zN, zO, ne_eq, zQ, zL, zR, beq_iff_eq] at h_s))
          | (refine hF ?_; intro _; clear hF)
          | (refine hF ?_; cbv; clear hF)
          | (refine ⟨fun _ => ?_, ?_⟩; (· ((try simp only [nc] at *); first | done | omega | exact ⟨by omega, rfl⟩ | (simp (disch := (first | omega | (simp only [lnS, zA, zM, zG, zP]; omega))) only [nc, nct, w64_of, zT, zZ, zM, rdS, at_agg, bofZ, bof1, bof0, zC, zS]; first | done | omega | rfl | exact ⟨by omega, rfl⟩ | (simp; done) | (simp; omega)) | (intros; trivial))); (try (simp only [nc] at *)); (try simp (disch := (first | omega | (simp only [lnS, zA, zM, zG, zP]; omega))) only [nc, nct, w64_of, zT, zZ, zM, rdS, at_agg, bofZ, bof1, bof0, zC, zS]); (try cbv))
          | fail
        )
        have eri : ((r : Int) = w) ↔ r = w := Int.ofNat_inj
        iterate 3
          · have hc : ¬ crM (viewG g) w r = true := by
              clear kr0 kr1 w0 w1 r0 r1 b0 b1 a0 a1 lL
              rw [er]
              first
                | (simp_all; done)
                | (simp_all; omega)
            rw [kr0 hc]
            exact ⟨⟨⟨rfl, rfl⟩, by push_cast; rfl⟩, rfl, rfl⟩
        iterate 2
          · have hcr : crM (viewG g) w r = true := by
              clear kr0 kr1 w0 w1 r0 r1 b0 b1 a0 a1 lL
              rw [er]
              first
                | (simp_all; done)
                | (simp_all; omega)
                | (have e : r = w := by omega
                   simp_all; done)
            replace kr1 := kr1 hcr
            clear kr0 er
            refine E.loopS (ι := Nat) (fun a => a ≤ (nG g)) (fun a => (nG g) - a) (fun a => [(8, .i fun _ => ((a : Nat) : Int)), (3, .sl 1 (G (L w b r a)) 2 (fun _ => 0) fun _ => (L w b r a).length)]) (fun a h => h.set 1 (.run (G (L w b r a)) 2 fun _ => ps (L w b r a))) 0 (fun _ => by first | rfl | simp) (Nat.zero_le _) ?_ fun a ha I4 hI4 => ?_
            · cbv; simp
            cbv
            have k3 := q3 a
            have k7 := q7 b a
            have ka0 := a0 w b r a
            have ka1 := a1 w b r a
            have ea := e4 b a
            have d1 := lL w b r a (by omega) (by omega) (by omega) (by omega)
            skip
            repeat' (first
              | (refine hI3 (r + 1) ?_ ?_ ?_; rotate_left 1; (· ((try simp only [nc] at *); omega)); (cbv; clear hI3; (try clear hF); (try simp only [nc] at *); (try simp (disch := (first | omega | (simp only [lnS, zA, zM, zG, zP]; omega))) only [nc, nct, w64_of, zT, zZ, zM, rdS, at_agg, bofZ, bof1, bof0, zC, zS, implies_true, and_true, true_and, forall_const])); rotate_left 1; (try ((try simp only [nc] at *); omega)))
              | (refine hI4 (a + 1) ?_ ?_ ?_; rotate_left 1; (· ((try simp only [nc] at *); omega)); (cbv; clear hI4; (try clear hF); (try simp only [nc] at *); (try simp (disch := (first | omega | (simp only [lnS, zA, zM, zG, zP]; omega))) only [nc, nct, w64_of, zT, zZ, zM, rdS, at_agg, bofZ, bof1, bof0, zC, zS, implies_true, and_true, true_and, forall_const])); rotate_left 1; (try ((try simp only [nc] at *); omega)))
              | (refine E.c (SCalls.of_le (k7 (by ((try simp only [nc] at *); omega)) (by ((try simp only [nc] at *); omega))) ?_ ?_); (· (cbv; (try simp only [nc] at *); first | done | (simp; done) | (simp (disch := (first | omega | (simp only [lnS, zA, zM, zG, zP]; omega))) only [nc, nct, w64_of, zT, zZ, zM, rdS, at_agg, bofZ, bof1, bof0, zC, zS, implies_true, and_true, true_and, forall_const]; first | done | omega | (refine ⟨?_, ?_⟩ <;> omega)) | (simp (disch := (first | omega | (simp only [lnS, zA, zM, zG, zP]; omega))) [nc, nct, w64_of, zT, zZ, zM, rdS, at_agg, bofZ, bof1, bof0, zC, zS]; done))); cbv)
              | (refine E.c (SCalls.of_le (k3 (by ((try simp only [nc] at *); omega))) ?_ ?_); (· (cbv; (try simp only [nc] at *); first | done | (simp; done) | (simp (disch := (first | omega | (simp only [lnS, zA, zM, zG, zP]; omega))) only [nc, nct, w64_of, zT, zZ, zM, rdS, at_agg, bofZ, bof1, bof0, zC, zS, implies_true, and_true, true_and, forall_const]; first | done | omega | (refine ⟨?_, ?_⟩ <;> omega)) | (simp (disch := (first | omega | (simp only [lnS, zA, zM, zG, zP]; omega))) [nc, nct, w64_of, zT, zZ, zM, rdS, at_agg, bofZ, bof1, bof0, zC, zS]; done))); cbv)
              | (refine ⟨fun _ h_s => ?_, fun _ h_s => ?_⟩ <;> (cbv; (try simp only [nc] at *); try simp (disch := (first | omega | (simp only [lnS, zA, zM, zG, zP]; omega))) only [nc, nct, w64_of, zT, zZ, zM, rdS, at_agg, bofZ, bof1, bof0, zC, zS, reduceCtorEq, Bool.not_true, Bool.not_false, zD, zE, zB, zF, zN, zO, ne_eq, zQ, zL, zR, beq_iff_eq] at h_s))
              | (refine hF ?_; intro _; clear hF)
              | (refine hF ?_; cbv; clear hF)
              | (refine ⟨fun _ => ?_, ?_⟩; (· ((try simp only [nc] at *); first | done | omega | exact ⟨by omega, rfl⟩ | (simp (disch := (first | omega | (simp only [lnS, zA, zM, zG, zP]; omega))) only [nc, nct, w64_of, zT, zZ, zM, rdS, at_agg, bofZ, bof1, bof0, zC, zS]; first | done | omega | rfl | exact ⟨by omega, rfl⟩ | (simp; done) | (simp; omega)) | (intros; trivial) | exact ⟨by first | trivial | rfl, by first | trivial | rfl | simp, by first | trivial | simp, by simp; omega, by simp; omega, by simp [AV.flat, AV.cells, AV.one]⟩)); (try (simp only [nc] at *)); (try simp (disch := (first | omega | (simp only [lnS, zA, zM, zG, zP]; omega))) only [nc, nct, w64_of, zT, zZ, zM, rdS, at_agg, bofZ, bof1, bof0, zC, zS]); (try cbv))
              | fail
            )
            all_goals (have eai : ((a : Int) = b) ↔ a = b := Int.ofNat_inj)
            iterate 2
              · have hc : caM (viewG g) b a = true := by
                  clear ka0 ka1 w0 w1 r0 r1 b0 b1 a0 a1 lL
                  rw [ea]
                  first
                    | (simp_all; done)
                    | (simp_all; omega)
                    | (have e : a = b := by omega
                       simp_all; done)
                replace ka1 := ka1 hc
                clear w0 w1 r0 r1 b0 b1 a0 a1 lL
                rw [ka1]
                simp [hG, ps, setAll, AV.nrm]
            iterate 3
              · have hc : ¬ caM (viewG g) b a = true := by
                  clear ka0 ka1 w0 w1 r0 r1 b0 b1 a0 a1 lL
                  rw [ea]
                  first
                    | (simp_all; done)
                    | (simp_all; omega)
                rw [ka0 hc]
                exact ⟨⟨⟨rfl, rfl⟩, by push_cast; rfl⟩, rfl, rfl⟩
            · have e : a = nG g := by ((try simp only [nc] at *); omega)
              subst e
              rw [kr1]
              exact ⟨⟨⟨rfl, rfl⟩, by push_cast; rfl⟩, rfl, rfl⟩
        · have e : r = nG g := by ((try simp only [nc] at *); omega)
          subst e
          rw [kb1]
          exact ⟨⟨⟨rfl, rfl⟩, by push_cast; rfl⟩, rfl, rfl⟩
      · have e : b = nG g := by ((try simp only [nc] at *); omega)
        subst e
        rw [kw1]
        exact ⟨⟨⟨rfl, rfl⟩, by push_cast; rfl⟩, rfl, rfl⟩
    · have ew : w = nG g := by ((try simp only [nc] at *); omega)
      subst ew
      refine hI ?_
      cbv
      clear hI hJ
      simp only [List.drop_zero, nc]
      simp
      exact List.take_of_length_le (by simp)
  · cbv
    repeat' (first
      | (refine E.c (SCalls.of_le (kO) ?_ ?_); (· (cbv; (try simp only [nc] at *); first | done | (simp; done) | (simp (disch := (first | omega | (simp only [lnS, zA, zM, zG, zP]; omega))) only [nc, nct, w64_of, zT, zZ, zM, rdS, at_agg, bofZ, bof1, bof0, zC, zS, implies_true, and_true, true_and, forall_const]; first | done | omega | (refine ⟨?_, ?_⟩ <;> omega)) | (simp (disch := (first | omega | (simp only [lnS, zA, zM, zG, zP]; omega))) [nc, nct, w64_of, zT, zZ, zM, rdS, at_agg, bofZ, bof1, bof0, zC, zS]; done))); cbv)
      | (refine ⟨fun _ h_s => ?_, fun _ h_s => ?_⟩ <;> (cbv; (try simp only [nc] at *); try simp (disch := (first | omega | (simp only [lnS, zA, zM, zG, zP]; omega))) only [nc, nct, w64_of, zT, zZ, zM, rdS, at_agg, bofZ, bof1, bof0, zC, zS, reduceCtorEq, Bool.not_true, Bool.not_false, zD, zE, zB, zF, zN, zO, ne_eq, zQ, zL, zR, beq_iff_eq] at h_s))
      | (refine hF ?_; intro _; clear hF)
      | (refine hF ?_; cbv; clear hF)
      | (refine ⟨fun _ => ?_, ?_⟩; (· ((try simp only [nc] at *); first | done | omega | exact ⟨by omega, rfl⟩ | (simp (disch := (first | omega | (simp only [lnS, zA, zM, zG, zP]; omega))) only [nc, nct, w64_of, zT, zZ, zM, rdS, at_agg, bofZ, bof1, bof0, zC, zS]; first | done | omega | rfl | exact ⟨by omega, rfl⟩ | (simp; done) | (simp; omega)) | (intros; trivial) | exact ⟨by first | trivial | rfl, by first | trivial | rfl | simp, by first | trivial | simp, by simp; omega, by simp; omega, by simp [AV.flat, AV.cells, AV.one]⟩)); (try (simp only [nc] at *)); (try simp (disch := (first | omega | (simp only [lnS, zA, zM, zG, zP]; omega))) only [nc, nct, w64_of, zT, zZ, zM, rdS, at_agg, bofZ, bof1, bof0, zC, zS]); (try cbv))
      | fail
    )
end Go.AL.Rl

namespace Go.AL.Rl
open Go Go.AL Go.Proofs
set_option maxRecDepth 100000
set_option maxHeartbeats 3200000
variable {γ : Nat → Option AV}

theorem ror3 (n : Nat) (a b c : List (BitVec 64)) (ha : Fits n a) (hb : Fits n b) (hc : Fits n c) : Pure Tryz.prog γ false 22 [.vs 2 fun _ => rls [((n : Int), a), ((n : Int), b), ((n : Int), c)]] (encRel n (orM n [((n : Int), a), ((n : Int), b), ((n : Int), c)])) :=
  ror_yes _ (by simp) (alike3 n a b c ha hb hc) n rfl
theorem w15All_yes (g : Gr) (hg : Rd g) (h : GOk g) : Pure Tryz.prog γ false 8 [aGr g] (.tup [aDer (nG g : Nat) (poF (viewG g) (nG g)) (rfF (viewG g) (nG g)) (coF (viewG g) (nG g)) (frF (viewG g) (nG g)) (ecoF (viewG g) (nG g)) (porfF (viewG g) (nG g)) (locF (viewG g) (nG g)) (swF (viewG g) (nG g)) (hbF (viewG g) (nG g)), .i fun _ => 0]) := by
  have hV := viewG_wf h
  have hn := hV.small
  have kl := look15_yes (γ := γ) g hg h
  have kg := wgiven_ok (γ := γ) g hg h
  have ks := wsw_ok (γ := γ) g h
  have f1 := fits_poF (viewG g) hV.small
  have f2 := fits_rfF (viewG g) hV.small
  have f3 := fits_coF (viewG g) hV.small
  have f4 := fits_frF (viewG g) hV.small
  have f6 := fits_swF (viewG g) hV.small
  have o1 := ror3 (γ := γ) (nG g) _ _ _ f2 f3 f4
  have o2 := ror2 (γ := γ) (nG g) _ _ f1 f2
  have o3 := ror2 (γ := γ) (nG g) _ _ f1 f6
  have p1 := rplus_yes (γ := γ) (nG g) _ (fits_or (by omega) (l := [((nG g : Int), rfF (viewG g) (nG g)), ((nG g : Int), coF (viewG g) (nG g)), ((nG g : Int), frF (viewG g) (nG g))]) (by simp [f2, f3, f4]))
  have p2 := rplus_yes (γ := γ) (nG g) _ (fits_or2 f1 f2)
  have p3 := rplus_yes (γ := γ) (nG g) _ (fits_or2 f1 f6)
  have c1 := wloc_ok (γ := γ) g
  have e1 : plusM (nG g) (orM (nG g) [((nG g : Int), rfF (viewG g) (nG g)), ((nG g : Int), coF (viewG g) (nG g)), ((nG g : Int), frF (viewG g) (nG g))]) = ecoF (viewG g) (nG g) := by simp [ecoF]
  have e2 : plusM (nG g) (orM (nG g) [((nG g : Int), poF (viewG g) (nG g)), ((nG g : Int), rfF (viewG g) (nG g))]) = porfF (viewG g) (nG g) := by simp [porfF]
  have e3 : plusM (nG g) (orM (nG g) [((nG g : Int), poF (viewG g) (nG g)), ((nG g : Int), swF (viewG g) (nG g))]) = hbF (viewG g) (nG g) := by simp [hbF]
  rw [e1] at p1
  rw [e2] at p2
  rw [e3] at p3
  have eL : locF (viewG g) (nG g) = relRows (nG g) (locM (viewG g)) := rfl
  rw [eL]
  clear e1 e2 e3 eL f1 f2 f3 f4 f6
  generalize locM (viewG g) = p at *
  generalize poF (viewG g) (nG g) = q1 at *
  generalize rfF (viewG g) (nG g) = q2 at *
  generalize coF (viewG g) (nG g) = q3 at *
  generalize frF (viewG g) (nG g) = q4 at *
  generalize swF (viewG g) (nG g) = q5 at *
  generalize ecoF (viewG g) (nG g) = q6 at *
  generalize porfF (viewG g) (nG g) = q7 at *
  generalize hbF (viewG g) (nG g) = q8 at *
  obtain ⟨L, hL⟩ : ∃ L : Nat → Nat → List (Int × Int), ∀ a b, L a b = prA p (nG g) a ++ prE p a b := ⟨_, fun _ _ => rfl⟩
  obtain ⟨G, hG⟩ : ∃ G : List (Int × Int) → Nat, ∀ l, G l = l.length := ⟨_, fun _ => rfl⟩
  have hG0 : G [] = 0 := by rw [hG]; rfl
  have l0 : L 0 0 = [] := by rw [hL]; rfl
  have lS : ∀ a b, L a (b + 1) = L a b ++ if p a b = true then [((a : Int), (b : Int))] else [] := fun a b => by rw [hL, hL, prE_succ]; simp only [List.append_assoc]
  have lE : ∀ a, L a (nG g) = L (a + 1) 0 := fun a => by rw [hL, hL, prA_succ]; simp [prE]
  have lL : ∀ a b, a ≤ nG g → b ≤ nG g → (L a b).length ≤ 4000 := fun a b ha hb => by
    have q1 := prA_len p (nG g) a
    have q2 := prE_len p a b
    have q3 : a * nG g ≤ 62 * 62 := Nat.mul_le_mul (by omega) hn
    rw [hL, List.length_append]; omega
  have lF : L (nG g) 0 = prA p (nG g) (nG g) := by rw [hL]; simp [prE]
  have lN := lL (nG g) 0 (Nat.le_refl _) (Nat.zero_le _)
  have kO := rof_in (γ := γ) (nG g : Int) (prA p (nG g) (nG g)) (by omega) (by omega) (by rw [← lF]; omega)
  rw [ofTo_rel (nG g) (by omega) p, ← lF] at kO
  clear hL lF
  refine Pure.goL (ty := ty) ty_eq mo Tryz.func8 rfl Tryz.ntmps8 Tryz.results8 Tryz.call8 (by simp) fun P C CQ D W F E hF => ?_
  refine E.cut 7 (told 96 [(1, .ptr 0 0), (2, .ptr 1 0), (3, .lit 0), (4, pW g), (6, .vs 2 fun _ => ps (L (nG g) 0))] [.box (aGr g), .box (.agg [.lit 0, .nils, .lit 0, .nils, .lit 0, .nils, .lit 0, .nils, .lit 0, .nils, .lit 0, .nils, .lit 0, .nils, .lit 0, .nils, .lit 0, .nils])]) (by kernel_rfl) (Nat.zero_le _) (fun I hI => ?_) (E.bl ?_)
  · cbv
    repeat' (first
      | (refine E.c (SCalls.of_le (kl) ?_ ?_); (· (cbv; (try simp only [nc] at *); first | done | (simp; done) | (simp (disch := (first | omega | (simp only [lnS, zA, zM, zG, zP]; omega))) only [nc, nct, w64_of, zT, zZ, zM, rdS, at_agg, bofZ, bof1, bof0, zC, zS, implies_true, and_true, true_and, forall_const]; first | done | omega | (refine ⟨?_, ?_⟩ <;> omega)) | (simp (disch := (first | omega | (simp only [lnS, zA, zM, zG, zP]; omega))) [nc, nct, w64_of, zT, zZ, zM, rdS, at_agg, bofZ, bof1, bof0, zC, zS]; done))); cbv)
      | (refine ⟨fun _ h_s => ?_, fun _ h_s => ?_⟩ <;> (cbv; (try simp only [nc] at *); try simp (disch := (first | omega | (simp only [lnS, zA, zM, zG, zP]; omega))) only [nc, nct, w64_of, zT, zZ, zM, rdS, at_agg, bofZ, bof1, bof0, zC, zS, reduceCtorEq, Bool.not_true, Bool.not_false, zD, zE, zB, zF, zN, zO, ne_eq, zQ, zL, zR, beq_iff_eq] at h_s))
      | (refine hF ?_; intro _; clear hF)
      | (refine hF ?_; cbv; clear hF)
      | (refine ⟨fun _ => ?_, ?_⟩; (· ((try simp only [nc] at *); first | done | omega | exact ⟨by omega, rfl⟩ | (simp (disch := (first | omega | (simp only [lnS, zA, zM, zG, zP]; omega))) only [nc, nct, w64_of, zT, zZ, zM, rdS, at_agg, bofZ, bof1, bof0, zC, zS]; first | done | omega | rfl | exact ⟨by omega, rfl⟩ | (simp; done) | (simp; omega)) | (intros; trivial))); (try (simp only [nc] at *)); (try simp (disch := (first | omega | (simp only [lnS, zA, zM, zG, zP]; omega))) only [nc, nct, w64_of, zT, zZ, zM, rdS, at_agg, bofZ, bof1, bof0, zC, zS]); (try cbv))
      | fail
    )
    refine E.w (AWP.ghostSlot 6 2 rfl (by omega) (E.loopSA (ι := Nat) (fun a => a ≤ (nG g)) (fun a => (nG g) - a) (fun a => [(7, .i fun _ => ((a : Nat) : Int)), (6, .sl 2 (G (L a 0)) 2 (fun _ => 0) fun _ => (L a 0).length)]) (fun a h => h.set 2 (.run (G (L a 0)) 2 fun _ => ps (L a 0))) 0 (fun _ => by first | rfl | simp) (Nat.zero_le _) ?_ fun a ha I1 hJ => ?_))
    · cbv; simp [l0, hG0, ps, LV.of]
    cbv
    repeat' (first
      | (refine ⟨fun _ h_s => ?_, fun _ h_s => ?_⟩ <;> (cbv; (try simp only [nc] at *); try simp (disch := (first | omega | (simp only [lnS, zA, zM, zG, zP]; omega))) only [nc, nct, w64_of, zT, zZ, zM, rdS, at_agg, bofZ, bof1, bof0, zC, zS, reduceCtorEq, Bool.not_true, Bool.not_false, zD, zE, zB, zF, zN, zO, ne_eq, zQ, zL, zR, beq_iff_eq] at h_s))
      | (refine hF ?_; intro _; clear hF)
      | (refine hF ?_; cbv; clear hF)
      | (refine ⟨fun _ => ?_, ?_⟩; (· ((try simp only [nc] at *); first | done | omega | exact ⟨by omega, rfl⟩ | (simp (disch := (first | omega | (simp only [lnS, zA, zM, zG, zP]; omega))) only [nc, nct, w64_of, zT, zZ, zM, rdS, at_agg, bofZ, bof1, bof0, zC, zS]; first | done | omega | rfl | exact ⟨by omega, rfl⟩ | (simp; done) | (simp; omega)) | (intros; trivial))); (try (simp only [nc] at *)); (try simp (disch := (first | omega | (simp only [lnS, zA, zM, zG, zP]; omega))) only [nc, nct, w64_of, zT, zZ, zM, rdS, at_agg, bofZ, bof1, bof0, zC, zS]); (try cbv))
      | fail
    )
    · refine E.loopS (ι := Nat) (fun b => b ≤ (nG g)) (fun b => (nG g) - b) (fun b => [(8, .i fun _ => ((b : Nat) : Int)), (6, .sl 2 (G (L a b)) 2 (fun _ => 0) fun _ => (L a b).length)]) (fun b h => h.set 2 (.run (G (L a b)) 2 fun _ => ps (L a b))) 0 (fun _ => by first | rfl | simp) (Nat.zero_le _) ?_ fun b hb I2 hI2 => ?_
      · cbv; simp
      cbv
      have c2 := c1 a b
      have d1 := lL a b ha hb
      have hsb := lS a b
      have hle := lE a
      skip
      repeat' (first
        | (refine hJ (a + 1) ?_ ?_ ?_; rotate_left 1; (· ((try simp only [nc] at *); omega)); (cbv; clear hJ; (try clear hF); (try simp only [nc] at *); (try simp (disch := (first | omega | (simp only [lnS, zA, zM, zG, zP]; omega))) only [nc, nct, w64_of, zT, zZ, zM, rdS, at_agg, bofZ, bof1, bof0, zC, zS, implies_true, and_true, true_and, forall_const])); rotate_left 1; (try ((try simp only [nc] at *); omega)))
        | (refine hI2 (b + 1) ?_ ?_ ?_; rotate_left 1; (· ((try simp only [nc] at *); omega)); (cbv; clear hI2; (try clear hF); (try simp only [nc] at *); (try simp (disch := (first | omega | (simp only [lnS, zA, zM, zG, zP]; omega))) only [nc, nct, w64_of, zT, zZ, zM, rdS, at_agg, bofZ, bof1, bof0, zC, zS, implies_true, and_true, true_and, forall_const])); rotate_left 1; (try ((try simp only [nc] at *); omega)))
        | (refine E.c (SCalls.of_le (c2 (by ((try simp only [nc] at *); omega)) (by ((try simp only [nc] at *); omega))) ?_ ?_); (· (cbv; (try simp only [nc] at *); first | done | (simp; done) | (simp (disch := (first | omega | (simp only [lnS, zA, zM, zG, zP]; omega))) only [nc, nct, w64_of, zT, zZ, zM, rdS, at_agg, bofZ, bof1, bof0, zC, zS, implies_true, and_true, true_and, forall_const]; first | done | omega | (refine ⟨?_, ?_⟩ <;> omega)) | (simp (disch := (first | omega | (simp only [lnS, zA, zM, zG, zP]; omega))) [nc, nct, w64_of, zT, zZ, zM, rdS, at_agg, bofZ, bof1, bof0, zC, zS]; done))); cbv)
        | (refine ⟨fun _ h_s => ?_, fun _ h_s => ?_⟩ <;> (cbv; (try simp only [nc] at *); try simp (disch := (first | omega | (simp only [lnS, zA, zM, zG, zP]; omega))) only [nc, nct, w64_of, zT, zZ, zM, rdS, at_agg, bofZ, bof1, bof0, zC, zS, reduceCtorEq, Bool.not_true, Bool.not_false, zD, zE, zB, zF, zN, zO, ne_eq, zQ, zL, zR, beq_iff_eq] at h_s))
        | (refine hF ?_; intro _; clear hF)
        | (refine hF ?_; cbv; clear hF)
        | (refine ⟨fun _ => ?_, ?_⟩; (· ((try simp only [nc] at *); first | done | omega | exact ⟨by omega, rfl⟩ | (simp (disch := (first | omega | (simp only [lnS, zA, zM, zG, zP]; omega))) only [nc, nct, w64_of, zT, zZ, zM, rdS, at_agg, bofZ, bof1, bof0, zC, zS]; first | done | omega | rfl | exact ⟨by omega, rfl⟩ | (simp; done) | (simp; omega)) | (intros; trivial) | exact ⟨by first | trivial | rfl, by first | trivial | rfl | simp, by first | trivial | simp, by simp; omega, by simp; omega, by simp [AV.flat, AV.cells, AV.one]⟩)); (try (simp only [nc] at *)); (try simp (disch := (first | omega | (simp only [lnS, zA, zM, zG, zP]; omega))) only [nc, nct, w64_of, zT, zZ, zM, rdS, at_agg, bofZ, bof1, bof0, zC, zS]); (try cbv))
        | fail
      )
      all_goals clear c1 c2 kl kg ks o1 o2 o3 p1 p2 p3 kO
      · rw [if_pos (by assumption)] at hsb
        simp [hG, hsb, ps, setAll]
      · rw [if_neg (by simp_all)] at hsb
        simp [hG, hsb]
      · have e : b = nG g := by omega
        subst e
        rw [hle]
        exact ⟨⟨by push_cast; rfl, rfl, rfl⟩, rfl, rfl⟩
    · have ea : a = nG g := by ((try simp only [nc] at *); omega)
      subst ea
      refine hI ?_
      cbv
      clear hI hJ
      simp only [List.drop_zero, nc]
      simp
      exact List.take_of_length_le (by simp)
  · cbv
    repeat' (first
      | (refine E.c (SCalls.of_le (p3) ?_ ?_); (· (cbv; (try simp only [nc] at *); first | done | (simp; done) | (simp (disch := (first | omega | (simp only [lnS, zA, zM, zG, zP]; omega))) only [nc, nct, w64_of, zT, zZ, zM, rdS, at_agg, bofZ, bof1, bof0, zC, zS, implies_true, and_true, true_and, forall_const]; first | done | omega | (refine ⟨?_, ?_⟩ <;> omega)) | (simp (disch := (first | omega | (simp only [lnS, zA, zM, zG, zP]; omega))) [nc, nct, w64_of, zT, zZ, zM, rdS, at_agg, bofZ, bof1, bof0, zC, zS]; done))); cbv)
      | (refine E.c (SCalls.of_le (p2) ?_ ?_); (· (cbv; (try simp only [nc] at *); first | done | (simp; done) | (simp (disch := (first | omega | (simp only [lnS, zA, zM, zG, zP]; omega))) only [nc, nct, w64_of, zT, zZ, zM, rdS, at_agg, bofZ, bof1, bof0, zC, zS, implies_true, and_true, true_and, forall_const]; first | done | omega | (refine ⟨?_, ?_⟩ <;> omega)) | (simp (disch := (first | omega | (simp only [lnS, zA, zM, zG, zP]; omega))) [nc, nct, w64_of, zT, zZ, zM, rdS, at_agg, bofZ, bof1, bof0, zC, zS]; done))); cbv)
      | (refine E.c (SCalls.of_le (p1) ?_ ?_); (· (cbv; (try simp only [nc] at *); first | done | (simp; done) | (simp (disch := (first | omega | (simp only [lnS, zA, zM, zG, zP]; omega))) only [nc, nct, w64_of, zT, zZ, zM, rdS, at_agg, bofZ, bof1, bof0, zC, zS, implies_true, and_true, true_and, forall_const]; first | done | omega | (refine ⟨?_, ?_⟩ <;> omega)) | (simp (disch := (first | omega | (simp only [lnS, zA, zM, zG, zP]; omega))) [nc, nct, w64_of, zT, zZ, zM, rdS, at_agg, bofZ, bof1, bof0, zC, zS]; done))); cbv)
      | (refine E.c (SCalls.of_bare (o3) rfl ?_ ?_); (· (cbv; simp [rls, ps, us, is, LV.of]; done)); cbv)
      | (refine E.c (SCalls.of_le (o3) ?_ ?_); (· (cbv; simp [rls, ps, us, is, LV.of]; done)); cbv)
      | (refine E.q (QCalls.of_le (o3) ?_ ?_); (· (cbv; simp [rls, ps, us, is, LV.of]; done)); cbv)
      | (refine E.c (SCalls.of_bare (o2) rfl ?_ ?_); (· (cbv; simp [rls, ps, us, is, LV.of]; done)); cbv)
      | (refine E.c (SCalls.of_le (o2) ?_ ?_); (· (cbv; simp [rls, ps, us, is, LV.of]; done)); cbv)
      | (refine E.q (QCalls.of_le (o2) ?_ ?_); (· (cbv; simp [rls, ps, us, is, LV.of]; done)); cbv)
      | (refine E.c (SCalls.of_bare (o1) rfl ?_ ?_); (· (cbv; simp [rls, ps, us, is, LV.of]; done)); cbv)
      | (refine E.c (SCalls.of_le (o1) ?_ ?_); (· (cbv; simp [rls, ps, us, is, LV.of]; done)); cbv)
      | (refine E.q (QCalls.of_le (o1) ?_ ?_); (· (cbv; simp [rls, ps, us, is, LV.of]; done)); cbv)
      | (refine E.c (SCalls.of_le (kO) ?_ ?_); (· (cbv; (try simp only [nc] at *); first | done | (simp; done) | (simp (disch := (first | omega | (simp only [lnS, zA, zM, zG, zP]; omega))) only [nc, nct, w64_of, zT, zZ, zM, rdS, at_agg, bofZ, bof1, bof0, zC, zS, implies_true, and_true, true_and, forall_const]; first | done | omega | (refine ⟨?_, ?_⟩ <;> omega)) | (simp (disch := (first | omega | (simp only [lnS, zA, zM, zG, zP]; omega))) [nc, nct, w64_of, zT, zZ, zM, rdS, at_agg, bofZ, bof1, bof0, zC, zS]; done))); cbv)
      | (refine E.c (SCalls.of_le (ks) ?_ ?_); (· (cbv; (try simp only [nc] at *); first | done | (simp; done) | (simp (disch := (first | omega | (simp only [lnS, zA, zM, zG, zP]; omega))) only [nc, nct, w64_of, zT, zZ, zM, rdS, at_agg, bofZ, bof1, bof0, zC, zS, implies_true, and_true, true_and, forall_const]; first | done | omega | (refine ⟨?_, ?_⟩ <;> omega)) | (simp (disch := (first | omega | (simp only [lnS, zA, zM, zG, zP]; omega))) [nc, nct, w64_of, zT, zZ, zM, rdS, at_agg, bofZ, bof1, bof0, zC, zS]; done))); cbv)
      | (refine E.c (SCalls.of_le (kg) ?_ ?_); (· (cbv; (try simp only [nc] at *); first | done | (simp; done) | (simp (disch := (first | omega | (simp only [lnS, zA, zM, zG, zP]; omega))) only [nc, nct, w64_of, zT, zZ, zM, rdS, at_agg, bofZ, bof1, bof0, zC, zS, implies_true, and_true, true_and, forall_const]; first | done | omega | (refine ⟨?_, ?_⟩ <;> omega)) | (simp (disch := (first | omega | (simp only [lnS, zA, zM, zG, zP]; omega))) [nc, nct, w64_of, zT, zZ, zM, rdS, at_agg, bofZ, bof1, bof0, zC, zS]; done))); cbv)
      | (refine ⟨fun _ h_s => ?_, fun _ h_s => ?_⟩ <;> (cbv; (try simp only [nc] at *); try simp (disch := (first | omega | (simp only [lnS, zA, zM, zG, zP]; omega))) only [nc, nct, w64_of, zT, zZ, zM, rdS, at_agg, bofZ, bof1, bof0, zC, zS, reduceCtorEq, Bool.not_true, Bool.not_false, zD, zE, zB, zF, zN, zO, ne_eq, zQ, zL, zR, beq_iff_eq] at h_s))
      | (refine hF ?_; intro _; clear hF)
      | (refine hF ?_; cbv; clear hF)
      | (refine ⟨fun _ => ?_, ?_⟩; (· ((try simp only [nc] at *); first | done | omega | exact ⟨by omega, rfl⟩ | (simp (disch := (first | omega | (simp only [lnS, zA, zM, zG, zP]; omega))) only [nc, nct, w64_of, zT, zZ, zM, rdS, at_agg, bofZ, bof1, bof0, zC, zS]; first | done | omega | rfl | exact ⟨by omega, rfl⟩ | (simp; done) | (simp; omega)) | (intros; trivial) | exact ⟨by first | trivial | rfl, by first | trivial | rfl | simp, by first | trivial | simp, by simp; omega, by simp; omega, by simp [AV.flat, AV.cells, AV.one]⟩)); (try (simp only [nc] at *)); (try simp (disch := (first | omega | (simp only [lnS, zA, zM, zG, zP]; omega))) only [nc, nct, w64_of, zT, zZ, zM, rdS, at_agg, bofZ, bof1, bof0, zC, zS]); (try cbv))
      | fail
    )
    simp
end Go.AL.Rl

namespace Go.AL.Rl
open Go Go.AL Go.Proofs
set_option maxRecDepth 100000
set_option maxHeartbeats 3200000
variable {γ : Nat → Option AV}

def lkOf (g : Gr) (tl : List Nat) : List Nat := tl.filter fun k => decide (0 < ((idsG g).getD k id0).t)
theorem linL_lk (g : Gr) (tl : List Nat) : linL g tl = (lkOf g tl).map fun k => (idsG g).getD k id0 := by
  unfold linL lkOf; rw [List.filter_map]; rfl
theorem ids_pos_iff {g : Gr} (h : GOk g) {k : Nat} (hk : k < nG g) : 0 < ((idsG g).getD k id0).t ↔ g.init.length ≤ k := by
  rcases Nat.lt_or_ge k g.init.length with h1 | h1
  · rw [ids_init h1]; simp; exact h1
  · obtain ⟨t, j, ht, hj, rfl⟩ := kN_of h hk h1
    rw [(kN_ids ht hj).2]
    simp only
    constructor <;> intro _ <;> omega
theorem lin_of {g : Gr} (h : GOk g) (h6 : (fltM (viewG g) (nG g) 6).br = false) (tl : List Nat) (h1 : tl.Nodup) (h2 : ∀ p, p ∈ tl ↔ p < nG g)
    (h3 : ∀ k m (_ : k ≤ m) (hm : m < tl.length), bit (togF (viewG g) (nG g)) tl[m] tl[k] = false) : Lin g (lkOf g tl) := by
  refine ⟨h1.filter _, fun k => ?_, List.Pairwise.filter _ (List.pairwise_iff_getElem.2 fun i j hi hj hij => h3 i j (by omega) hj), tg_irr h6⟩
  unfold lkOf
  rw [List.mem_filter, h2, decide_eq_true_eq]
  constructor
  · rintro ⟨h4, h5⟩; exact ⟨(ids_pos_iff h h4).1 h5, h4⟩
  · rintro ⟨h4, h5⟩; exact ⟨h5, (ids_pos_iff h h5).2 h4⟩
theorem lin_len {g : Gr} {lk : List Nat} (L : Lin g lk) : lk.length = nG g - g.init.length := by
  have hp : lk.Perm (List.range' g.init.length (nG g - g.init.length)) := (List.perm_ext_iff_of_nodup L.nd List.nodup_range').2 fun k => by
    rw [L.mem, List.mem_range'_1]; omega
  rw [hp.length_eq, List.length_range']
def inB (X x : Nat) : List EId := (List.range X).map fun k => if k < x then ⟨0, (k : Int)⟩ else ⟨0, 0⟩
theorem inB_len (X x : Nat) : (inB X x).length = X := by simp [inB]
theorem inB_get {X x k : Nat} (hk : k < X) : (inB X x).getD k id0 = if k < x then ⟨0, (k : Int)⟩ else ⟨0, 0⟩ := by simp [inB, hk]
theorem inB_zero (X : Nat) : inB X 0 = List.replicate X ⟨0, 0⟩ := by
  unfold inB; simp [List.map_const']
theorem inB_succ {X x : Nat} (hx : x < X) : (inB X x).set x ⟨0, (x : Int)⟩ = inB X (x + 1) := by
  apply List.ext_getElem (by simp [inB])
  intro k h1 h2
  have hk : k < X := by simpa [inB] using h2
  rw [List.getElem_set]
  by_cases e : x = k
  · subst e; simp [inB]
  · rw [if_neg e]
    simp only [inB, List.getElem_map, List.getElem_range]
    by_cases h3 : k < x
    · rw [if_pos h3, if_pos (by omega)]
    · rw [if_neg h3, if_neg (by omega)]
theorem is_put (a : List Int) (t : Nat) (x : Unit → Int) (y : Int) : LV.of ((is a).l.set t ((AV.i x).upd 0 (.i fun _ => y))) = is (a.set t y) := by
  unfold is; rw [LV.l_of, List.map_set]; rfl
theorem ids_put (b : List EId) (k : Nat) (x y : Unit → Int) (z w : Int) : LV.of ((ids b).l.set k ((AV.agg [.i x, .i y]).upd 0 (.agg [.i fun _ => z, .i fun _ => w]))) = ids (b.set k ⟨z, w⟩) := by
  unfold ids; rw [LV.l_of, List.map_set]; rfl
theorem weaker_dark (g : Gr) (hg : Rd g) (ra : Bool) (hl : lightM 60 g = true) (c1 : Pure Tryz.prog γ false 6 [.i fun _ => 1, aGr g] (.tup [.b fun _ => false, .i fun _ => 0])) (c2 : Pure Tryz.prog γ false 6 [.i fun _ => 2, aGr g] (.tup [.b fun _ => ra, .i fun _ => 0])) :
    Pure Tryz.prog γ false 3 [aGr g] (.b fun _ => true) := by
  have kl := light_ok (γ := γ) g hg 60 (by omega) (by omega)
  rw [hl] at kl
  have kv := lives16_ok (γ := γ)
  have kn := linear_no (γ := γ) g c1
  refine Pure.go (ty := ty) ty_eq mo Tryz.func3 rfl Tryz.ntmps3 Tryz.results3 Tryz.call3 (by simp) fun P C CQ D W F E hF => ?_
  cbv
  repeat' (first
    | (refine E.c (SCalls.of_le (kn) ?_ ?_); (· (cbv; (try simp only [nc] at *); first | done | (simp; done) | (simp (disch := (first | omega | (simp only [lnS, zA, zM, zG, zP]; omega))) only [nc, nct, w64_of, zT, zZ, zM, rdS, at_agg, bofZ, bof1, bof0, zC, zS, implies_true, and_true, true_and, forall_const]; first | done | omega | (refine ⟨?_, ?_⟩ <;> omega)) | (simp (disch := (first | omega | (simp only [lnS, zA, zM, zG, zP]; omega))) [nc, nct, w64_of, zT, zZ, zM, rdS, at_agg, bofZ, bof1, bof0, zC, zS]; done))); cbv)
    | (refine E.c (SCalls.of_le (c2) ?_ ?_); (· (cbv; (try simp only [nc] at *); first | done | (simp; done) | (simp (disch := (first | omega | (simp only [lnS, zA, zM, zG, zP]; omega))) only [nc, nct, w64_of, zT, zZ, zM, rdS, at_agg, bofZ, bof1, bof0, zC, zS, implies_true, and_true, true_and, forall_const]; first | done | omega | (refine ⟨?_, ?_⟩ <;> omega)) | (simp (disch := (first | omega | (simp only [lnS, zA, zM, zG, zP]; omega))) [nc, nct, w64_of, zT, zZ, zM, rdS, at_agg, bofZ, bof1, bof0, zC, zS]; done))); cbv)
    | (refine E.c (SCalls.of_le (c1) ?_ ?_); (· (cbv; (try simp only [nc] at *); first | done | (simp; done) | (simp (disch := (first | omega | (simp only [lnS, zA, zM, zG, zP]; omega))) only [nc, nct, w64_of, zT, zZ, zM, rdS, at_agg, bofZ, bof1, bof0, zC, zS, implies_true, and_true, true_and, forall_const]; first | done | omega | (refine ⟨?_, ?_⟩ <;> omega)) | (simp (disch := (first | omega | (simp only [lnS, zA, zM, zG, zP]; omega))) [nc, nct, w64_of, zT, zZ, zM, rdS, at_agg, bofZ, bof1, bof0, zC, zS]; done))); cbv)
    | (refine E.c (SCalls.of_le (kl) ?_ ?_); (· (cbv; (try simp only [nc] at *); first | done | (simp; done) | (simp (disch := (first | omega | (simp only [lnS, zA, zM, zG, zP]; omega))) only [nc, nct, w64_of, zT, zZ, zM, rdS, at_agg, bofZ, bof1, bof0, zC, zS, implies_true, and_true, true_and, forall_const]; first | done | omega | (refine ⟨?_, ?_⟩ <;> omega)) | (simp (disch := (first | omega | (simp only [lnS, zA, zM, zG, zP]; omega))) [nc, nct, w64_of, zT, zZ, zM, rdS, at_agg, bofZ, bof1, bof0, zC, zS]; done))); cbv)
    | (refine E.c (SCalls.of_le (kv) ?_ ?_); (· (cbv; (try simp only [nc] at *); first | done | (simp; done) | (simp (disch := (first | omega | (simp only [lnS, zA, zM, zG, zP]; omega))) only [nc, nct, w64_of, zT, zZ, zM, rdS, at_agg, bofZ, bof1, bof0, zC, zS, implies_true, and_true, true_and, forall_const]; first | done | omega | (refine ⟨?_, ?_⟩ <;> omega)) | (simp (disch := (first | omega | (simp only [lnS, zA, zM, zG, zP]; omega))) [nc, nct, w64_of, zT, zZ, zM, rdS, at_agg, bofZ, bof1, bof0, zC, zS]; done))); cbv)
    | (refine ⟨fun _ h_s => ?_, fun _ h_s => ?_⟩ <;> (cbv; (try simp only [nc] at *); try simp (disch := (first | omega | (simp only [lnS, zA, zM, zG, zP]; omega))) only [nc, nct, w64_of, zT, zZ, zM, rdS, at_agg, bofZ, bof1, bof0, zC, zS, reduceCtorEq, Bool.not_true, Bool.not_false, zD, zE, zB, zF, zN, zO, ne_eq, zQ, zL, zR, beq_iff_eq] at h_s))
    | (refine hF ?_; intro _; clear hF)
    | (refine hF ?_; cbv; clear hF)
    | (refine ⟨fun _ => ?_, ?_⟩; (· ((try simp only [nc] at *); first | done | omega | exact ⟨by omega, rfl⟩ | (simp (disch := (first | omega | (simp only [lnS, zA, zM, zG, zP]; omega))) only [nc, nct, w64_of, zT, zZ, zM, rdS, at_agg, bofZ, bof1, bof0, zC, zS]; first | done | omega | rfl | exact ⟨by omega, rfl⟩ | (simp; done) | (simp; omega)) | (intros; trivial))); (try (simp only [nc] at *)); (try simp (disch := (first | omega | (simp only [lnS, zA, zM, zG, zP]; omega))) only [nc, nct, w64_of, zT, zZ, zM, rdS, at_agg, bofZ, bof1, bof0, zC, zS]); (try cbv))
    | (refine E.d 7 (by decide +kernel) ?_; cbv; (fail_if_success guard_target =~ False))
    | (refine E.d 8 (by decide +kernel) ?_; cbv; (fail_if_success guard_target =~ False))
    | (refine E.d 26 (by decide +kernel) ?_; cbv; (fail_if_success guard_target =~ False))
    | (refine E.d 33 (by decide +kernel) ?_; cbv; (fail_if_success guard_target =~ False))
    | fail
  )
  all_goals first
    | (simp; done)
    | (exfalso; revert h_s; simp; done)
theorem weaker_good (hγ : γ 0 = some tabAV) (g : Gr) (hg : Rd g) (h : GOk g) (hl : lightM 60 g = true) (h2 : (fltM (viewG g) (nG g) 2).br = false) (h6 : (fltM (viewG g) (nG g) 6).br = false)
    (c1 : Pure Tryz.prog γ false 6 [.i fun _ => 1, aGr g] (.tup [.b fun _ => true, .i fun _ => 0])) (c2 : Pure Tryz.prog γ false 6 [.i fun _ => 2, aGr g] (.tup [.b fun _ => true, .i fun _ => 0])) :
    Pure Tryz.prog γ false 3 [aGr g] (.b fun _ => true) := by
  have kl := light_ok (γ := γ) g hg 60 (by omega) (by omega)
  rw [hl] at kl
  have kv := lives16_ok (γ := γ)
  have hn := (viewG_wf h).small
  have hin := h.short.init
  have hth := h.short.th
  have hle : ∀ t, (g.th.getD t []).length ≤ 14 := h.short.at
  have hfrl : g.fr.length = g.th.length := h.lfr
  have hfrt : ∀ t, t < g.th.length → (g.fr.getD t []).length = (g.th.getD t []).length := fun t ht => (h.events t ht).1
  have ft := togF_fits (viewG g) hn
  have ha : acyM (nG g) (togF (viewG g) (nG g)) = true := acy_iff.2 ⟨ft, tg_irr h6⟩
  obtain ⟨tl, t1, t2, t3, t4, t5⟩ := sort_ex ha
  have htl : (togF (viewG g) (nG g)).length = nG g := by have := ft.2.2.1; omega
  have t3' : ∀ p, p ∈ tl ↔ p < nG g := fun p => by rw [t3, htl]
  have L := lin_of h h6 tl t2 t3' t5
  have kn := linear_yes (γ := γ) hγ g hg h c1 ha tl t1 (fun p hp => (t3' p).1 hp) (by omega)
  rw [linL_lk] at kn
  have ka := w15All_yes (γ := γ) g hg h
  have kh := racyclic_ok (γ := γ) (nG g : Nat) (hbF (viewG g) (nG g))
  have hhb : acyM (nG g) (hbF (viewG g) (nG g)) = true := by
    refine acy_iff.2 ⟨fits_plus (fits_or2 (fits_poF (viewG g) hn) (fits_swF (viewG g) hn)), fun i => ?_⟩
    rw [plus_hb (viewG g) hn]
    cases e : bit (hbF (viewG g) (nG g)) i i with
    | false => rfl
    | true => have := hb_tg h e; rw [tg_irr h6] at this; cases this
  rw [hhb] at kh
  have kc := count_ok (γ := γ) g hg
  unfold NG at kc
  rw [if_pos h] at kc
  have hlen := lin_len L
  have S0 := fun b hb hbx => lin_init h (lkOf g tl) b hb hbx
  have hX : g.init.length ≤ nG g := by unfold nG idsG; rw [List.length_append, idsI_len]; omega
  generalize lkOf g tl = lk at *
  have hL : ∀ i, i < lk.length → ∃ t j, t < g.th.length ∧ j < (g.th.getD t []).length ∧ lk.getD i 0 = kN g t j ∧ ((lk.map fun k => (idsG g).getD k id0).getD i ⟨0, 0⟩) = ⟨(t : Int) + 1, (j : Int)⟩ := fun i hi => by
    have hm : lk.getD i 0 ∈ lk := by simp [hi]
    obtain ⟨m1, m2⟩ := (L.mem _).1 hm
    obtain ⟨t, j, ht, hj, e⟩ := kN_of h m2 m1
    refine ⟨t, j, ht, hj, e, ?_⟩
    rw [← (kN_ids ht hj).2, ← e]
    simp [hi]
  obtain ⟨l, hll⟩ : ∃ l, l = lk.map fun k => (idsG g).getD k id0 := ⟨_, rfl⟩
  have hlk : l.length = lk.length := by rw [hll]; simp
  rw [← hll] at kn
  simp only [← hll] at hL
  generalize poF (viewG g) (nG g) = q1 at *
  generalize rfF (viewG g) (nG g) = q2 at *
  generalize coF (viewG g) (nG g) = q3 at *
  generalize frF (viewG g) (nG g) = q4 at *
  generalize swF (viewG g) (nG g) = q5 at *
  generalize ecoF (viewG g) (nG g) = q6 at *
  generalize porfF (viewG g) (nG g) = q7 at *
  generalize hbF (viewG g) (nG g) = q8 at *
  generalize locF (viewG g) (nG g) = q9 at *
  clear t1 t2 t3 t4 t5 t3' htl ha hhb ft
  refine Pure.goL (ty := ty) ty_eq mo Tryz.func3 rfl Tryz.ntmps3 Tryz.results3 Tryz.call3 (by simp) fun P C CQ D W F E hF => ?_
  refine E.cut 15 (told 207 [(1, .ptr 0 0), (7, .vs 2 fun _ => ids l)] [.box (aGr g)]) (by kernel_rfl) (Nat.zero_le _) (fun I hI => ?_) (E.bl ?_)
  · cbv
    repeat' (first
      | (refine E.c (SCalls.of_le (kh) ?_ ?_); (· (cbv; (try simp only [nc] at *); first | done | (simp; done) | (simp (disch := (first | omega | (simp only [lnS, zA, zM, zG, zP]; omega))) only [nc, nct, w64_of, zT, zZ, zM, rdS, at_agg, bofZ, bof1, bof0, zC, zS, implies_true, and_true, true_and, forall_const]; first | done | omega | (refine ⟨?_, ?_⟩ <;> omega)) | (simp (disch := (first | omega | (simp only [lnS, zA, zM, zG, zP]; omega))) [nc, nct, w64_of, zT, zZ, zM, rdS, at_agg, bofZ, bof1, bof0, zC, zS]; done))); cbv)
      | (refine E.c (SCalls.of_le (ka) ?_ ?_); (· (cbv; (try simp only [nc] at *); first | done | (simp; done) | (simp (disch := (first | omega | (simp only [lnS, zA, zM, zG, zP]; omega))) only [nc, nct, w64_of, zT, zZ, zM, rdS, at_agg, bofZ, bof1, bof0, zC, zS, implies_true, and_true, true_and, forall_const]; first | done | omega | (refine ⟨?_, ?_⟩ <;> omega)) | (simp (disch := (first | omega | (simp only [lnS, zA, zM, zG, zP]; omega))) [nc, nct, w64_of, zT, zZ, zM, rdS, at_agg, bofZ, bof1, bof0, zC, zS]; done))); cbv)
      | (refine E.c (SCalls.of_le (kn) ?_ ?_); (· (cbv; (try simp only [nc] at *); first | done | (simp; done) | (simp (disch := (first | omega | (simp only [lnS, zA, zM, zG, zP]; omega))) only [nc, nct, w64_of, zT, zZ, zM, rdS, at_agg, bofZ, bof1, bof0, zC, zS, implies_true, and_true, true_and, forall_const]; first | done | omega | (refine ⟨?_, ?_⟩ <;> omega)) | (simp (disch := (first | omega | (simp only [lnS, zA, zM, zG, zP]; omega))) [nc, nct, w64_of, zT, zZ, zM, rdS, at_agg, bofZ, bof1, bof0, zC, zS]; done))); cbv)
      | (refine E.c (SCalls.of_le (c2) ?_ ?_); (· (cbv; (try simp only [nc] at *); first | done | (simp; done) | (simp (disch := (first | omega | (simp only [lnS, zA, zM, zG, zP]; omega))) only [nc, nct, w64_of, zT, zZ, zM, rdS, at_agg, bofZ, bof1, bof0, zC, zS, implies_true, and_true, true_and, forall_const]; first | done | omega | (refine ⟨?_, ?_⟩ <;> omega)) | (simp (disch := (first | omega | (simp only [lnS, zA, zM, zG, zP]; omega))) [nc, nct, w64_of, zT, zZ, zM, rdS, at_agg, bofZ, bof1, bof0, zC, zS]; done))); cbv)
      | (refine E.c (SCalls.of_le (c1) ?_ ?_); (· (cbv; (try simp only [nc] at *); first | done | (simp; done) | (simp (disch := (first | omega | (simp only [lnS, zA, zM, zG, zP]; omega))) only [nc, nct, w64_of, zT, zZ, zM, rdS, at_agg, bofZ, bof1, bof0, zC, zS, implies_true, and_true, true_and, forall_const]; first | done | omega | (refine ⟨?_, ?_⟩ <;> omega)) | (simp (disch := (first | omega | (simp only [lnS, zA, zM, zG, zP]; omega))) [nc, nct, w64_of, zT, zZ, zM, rdS, at_agg, bofZ, bof1, bof0, zC, zS]; done))); cbv)
      | (refine E.c (SCalls.of_le (kl) ?_ ?_); (· (cbv; (try simp only [nc] at *); first | done | (simp; done) | (simp (disch := (first | omega | (simp only [lnS, zA, zM, zG, zP]; omega))) only [nc, nct, w64_of, zT, zZ, zM, rdS, at_agg, bofZ, bof1, bof0, zC, zS, implies_true, and_true, true_and, forall_const]; first | done | omega | (refine ⟨?_, ?_⟩ <;> omega)) | (simp (disch := (first | omega | (simp only [lnS, zA, zM, zG, zP]; omega))) [nc, nct, w64_of, zT, zZ, zM, rdS, at_agg, bofZ, bof1, bof0, zC, zS]; done))); cbv)
      | (refine E.c (SCalls.of_le (kv) ?_ ?_); (· (cbv; (try simp only [nc] at *); first | done | (simp; done) | (simp (disch := (first | omega | (simp only [lnS, zA, zM, zG, zP]; omega))) only [nc, nct, w64_of, zT, zZ, zM, rdS, at_agg, bofZ, bof1, bof0, zC, zS, implies_true, and_true, true_and, forall_const]; first | done | omega | (refine ⟨?_, ?_⟩ <;> omega)) | (simp (disch := (first | omega | (simp only [lnS, zA, zM, zG, zP]; omega))) [nc, nct, w64_of, zT, zZ, zM, rdS, at_agg, bofZ, bof1, bof0, zC, zS]; done))); cbv)
      | (refine ⟨fun _ h_s => ?_, fun _ h_s => ?_⟩ <;> (cbv; (try simp only [nc] at *); try simp (disch := (first | omega | (simp only [lnS, zA, zM, zG, zP]; omega))) only [nc, nct, w64_of, zT, zZ, zM, rdS, at_agg, bofZ, bof1, bof0, zC, zS, reduceCtorEq, Bool.not_true, Bool.not_false, zD, zE, zB, zF, zN, zO, ne_eq, zQ, zL, zR, beq_iff_eq] at h_s))
      | (refine hF ?_; intro _; clear hF)
      | (refine hF ?_; cbv; clear hF)
      | (refine ⟨fun _ => ?_, ?_⟩; (· ((try simp only [nc] at *); first | done | omega | exact ⟨by omega, rfl⟩ | (simp (disch := (first | omega | (simp only [lnS, zA, zM, zG, zP]; omega))) only [nc, nct, w64_of, zT, zZ, zM, rdS, at_agg, bofZ, bof1, bof0, zC, zS]; first | done | omega | rfl | exact ⟨by omega, rfl⟩ | (simp; done) | (simp; omega)) | (intros; trivial))); (try (simp only [nc] at *)); (try simp (disch := (first | omega | (simp only [lnS, zA, zM, zG, zP]; omega))) only [nc, nct, w64_of, zT, zZ, zM, rdS, at_agg, bofZ, bof1, bof0, zC, zS]); (try cbv))
      | (refine E.d 7 (by decide +kernel) ?_; cbv; (fail_if_success guard_target =~ False))
      | (refine E.d 8 (by decide +kernel) ?_; cbv; (fail_if_success guard_target =~ False))
      | (refine E.d 26 (by decide +kernel) ?_; cbv; (fail_if_success guard_target =~ False))
      | (refine E.d 33 (by decide +kernel) ?_; cbv; (fail_if_success guard_target =~ False))
      | fail
    )
    iterate 3
      · exfalso; revert h_s; simp
    refine hI ?_
    cbv
    simp
  clear kv kl c1 c2 kn ka kh
  cbv
  skip
  skip
  repeat' (first
    | (refine ⟨fun _ h_s => ?_, fun _ h_s => ?_⟩ <;> (cbv; (try simp only [nc] at *); try simp (disch := (first | omega | (simp only [lnS, zA, zM, zG, zP]; omega))) only [nc, nct, w64_of, zT, zZ, zM, rdS, at_agg, bofZ, bof1, bof0, zC, zS, reduceCtorEq, Bool.not_true, Bool.not_false, zD, zE, zB, zF, zN, zO, ne_eq, zQ, zL, zR, beq_iff_eq] at h_s))
    | (refine hF ?_; intro _; clear hF)
    | (refine hF ?_; cbv; clear hF)
    | (refine ⟨fun _ => ?_, ?_⟩; (· ((try simp only [nc] at *); first | done | omega | exact ⟨by omega, rfl⟩ | (simp (disch := (first | omega | (simp only [lnS, zA, zM, zG, zP]; omega))) only [nc, nct, w64_of, zT, zZ, zM, rdS, at_agg, bofZ, bof1, bof0, zC, zS]; first | done | omega | rfl | exact ⟨by omega, rfl⟩ | (simp; done) | (simp; omega)) | (intros; trivial) | (refine ⟨trivial, by simp [inB_len]; omega, ?_⟩; rw [Nat.zero_add, ids_get _ _ (by rw [inB_len]; omega)]; rfl) | exact ⟨trivial, by omega⟩)); (try (simp only [nc] at *)); (try simp (disch := (first | omega | (simp only [lnS, zA, zM, zG, zP]; omega))) only [nc, nct, w64_of, zT, zZ, zM, rdS, at_agg, bofZ, bof1, bof0, zC, zS]); (try cbv))
    | (refine E.d 7 (by decide +kernel) ?_; cbv; (fail_if_success guard_target =~ False))
    | (refine E.d 8 (by decide +kernel) ?_; cbv; (fail_if_success guard_target =~ False))
    | (refine E.d 26 (by decide +kernel) ?_; cbv; (fail_if_success guard_target =~ False))
    | (refine E.d 33 (by decide +kernel) ?_; cbv; (fail_if_success guard_target =~ False))
    | fail
  )
  refine E.loopS (ι := Nat) (fun x => x ≤ g.init.length) (fun x => g.init.length - x) (fun x => [(13, .i fun _ => ((x : Nat) : Int))]) (fun x h => h.set 2 (.run 0 2 fun _ => ids (inB g.init.length x))) 0 (fun _ => by first | rfl | simp) (Nat.zero_le _) ?_ fun x hx I hI => ?_
  · cbv
    simp [inB_zero, ids]
  cbv
  repeat' (first
    | (refine hI (x + 1) ?_ ?_ ?_; rotate_left 1; (· ((try simp only [nc] at *); omega)); (cbv; clear hI; (try clear hF); (try simp only [nc] at *); (try simp (disch := (first | omega | (simp only [lnS, zA, zM, zG, zP]; omega))) only [nc, nct, w64_of, zT, zZ, zM, rdS, at_agg, bofZ, bof1, bof0, zC, zS, implies_true, and_true, true_and, forall_const])); rotate_left 1; (try ((try simp only [nc] at *); omega)))
    | (refine ⟨fun _ h_s => ?_, fun _ h_s => ?_⟩ <;> (cbv; (try simp only [nc] at *); try simp (disch := (first | omega | (simp only [lnS, zA, zM, zG, zP]; omega))) only [nc, nct, w64_of, zT, zZ, zM, rdS, at_agg, bofZ, bof1, bof0, zC, zS, reduceCtorEq, Bool.not_true, Bool.not_false, zD, zE, zB, zF, zN, zO, ne_eq, zQ, zL, zR, beq_iff_eq] at h_s))
    | (refine hF ?_; intro _; clear hF)
    | (refine hF ?_; cbv; clear hF)
    | (refine ⟨fun _ => ?_, ?_⟩; (· ((try simp only [nc] at *); first | done | omega | exact ⟨by omega, rfl⟩ | (simp (disch := (first | omega | (simp only [lnS, zA, zM, zG, zP]; omega))) only [nc, nct, w64_of, zT, zZ, zM, rdS, at_agg, bofZ, bof1, bof0, zC, zS]; first | done | omega | rfl | exact ⟨by omega, rfl⟩ | (simp; done) | (simp; omega)) | (intros; trivial) | (refine ⟨trivial, by simp [inB_len]; omega, ?_⟩; rw [Nat.zero_add, ids_get _ _ (by rw [inB_len]; omega)]; rfl) | exact ⟨trivial, by omega⟩)); (try (simp only [nc] at *)); (try simp (disch := (first | omega | (simp only [lnS, zA, zM, zG, zP]; omega))) only [nc, nct, w64_of, zT, zZ, zM, rdS, at_agg, bofZ, bof1, bof0, zC, zS]); (try cbv))
    | (refine E.d 7 (by decide +kernel) ?_; cbv; (fail_if_success guard_target =~ False))
    | (refine E.d 8 (by decide +kernel) ?_; cbv; (fail_if_success guard_target =~ False))
    | (refine E.d 26 (by decide +kernel) ?_; cbv; (fail_if_success guard_target =~ False))
    | (refine E.d 33 (by decide +kernel) ?_; cbv; (fail_if_success guard_target =~ False))
    | fail
  )
  · have hxx : x < g.init.length := by ((try simp only [nc] at *); omega)
    refine ⟨by push_cast; rfl, ?_⟩
    rw [Nat.zero_add, ids_get _ _ (by rw [inB_len]; exact hxx), ← inB_succ hxx]
    unfold ids
    rw [LV.l_of, List.map_set]
    rfl
  clear hI
  have ex : x = g.init.length := by ((try simp only [nc] at *); omega)
  subst ex
  refine E.loopS (ι := Nat × List Int × List EId) (fun q => q.1 ≤ lk.length ∧ LSt g lk q.1 q.2.1 q.2.2) (fun q => lk.length - q.1) (fun q => [(14, .i fun _ => ((q.1 : Nat) : Int))]) (fun q h => (h.set 1 (.run 0 1 fun _ => is q.2.1)).set 2 (.run 0 2 fun _ => ids q.2.2)) (0, List.replicate g.th.length 0, inB g.init.length g.init.length) (fun _ => by first | rfl | simp) ?_ ?_ fun q hq I2 hI2 => ?_
  · exact ⟨Nat.zero_le _, S0 _ (inB_len _ _) fun x hx => by rw [inB_get hx, if_pos hx]⟩
  · cbv
    simp [is, ids]
  obtain ⟨i, a, b⟩ := q
  obtain ⟨hi, S⟩ := hq
  simp only at hi S
  cbv
  rcases Nat.lt_or_ge i lk.length with hil | hil
  · obtain ⟨t, j, ht, hj, he, hli⟩ := hL i hil
    have hat := lin_at h L S hil ht hj he
    refine ⟨fun _ _ => ?_, fun _ hx => absurd hx (by simp; ((try simp only [nc] at *); omega))⟩
    cbv
    have hil2 : i < l.length := by omega
    have la := S.la
    have lb := S.lb
    have hlt := hle t
    have hgt : (g.th.getD t []).length ≤ 14 := hle t
    have hft : (g.fr.getD t []).length = (g.th.getD t []).length := hfrt t ht
    have hrd := fun hr => lin_rd h L S hil ht hj he hr
    have hrd' : ((g.th.getD t []).getD j ⟨0, 0, 0, 0, 0⟩).kind = 1 ∨ ((g.th.getD t []).getD j ⟨0, 0, 0, 0, 0⟩).kind = 3 → 0 ≤ ((g.th.getD t []).getD j ⟨0, 0, 0, 0, 0⟩).loc ∧ ((g.th.getD t []).getD j ⟨0, 0, 0, 0, 0⟩).loc < b.length ∧ b.getD ((g.th.getD t []).getD j ⟨0, 0, 0, 0, 0⟩).loc.toNat ⟨0, 0⟩ = (g.fr.getD t []).getD j ⟨0, 0⟩ := fun hk => by
      rw [lb]
      exact hrd (by unfold readsM; rcases hk with hk | hk <;> rw [show ((g.th.getD t []).getD j ev0).kind = _ from hk] <;> rfl)
    have hwr : ((g.th.getD t []).getD j ⟨0, 0, 0, 0, 0⟩).kind = 2 ∨ ((g.th.getD t []).getD j ⟨0, 0, 0, 0, 0⟩).kind = 3 → 0 ≤ ((g.th.getD t []).getD j ⟨0, 0, 0, 0, 0⟩).loc ∧ ((g.th.getD t []).getD j ⟨0, 0, 0, 0, 0⟩).loc < b.length ∧ LSt g lk (i + 1) (a.set t ((j : Int) + 1)) (b.set ((g.th.getD t []).getD j ⟨0, 0, 0, 0, 0⟩).loc.toNat ⟨(t : Int) + 1, (j : Int)⟩) := fun hk => by
      rw [lb, ← (kN_ids ht hj).2]
      exact lin_next1 h L S hil ht hj he (by unfold writesM; rcases hk with hk | hk <;> rw [show ((g.th.getD t []).getD j ev0).kind = _ from hk] <;> rfl)
    have hnw : ¬ ((g.th.getD t []).getD j ⟨0, 0, 0, 0, 0⟩).kind = 2 → ¬ ((g.th.getD t []).getD j ⟨0, 0, 0, 0, 0⟩).kind = 3 → LSt g lk (i + 1) (a.set t ((j : Int) + 1)) b := fun k1 k2 => lin_next0 h L S hil ht hj he (by unfold writesM; rw [decide_eq_false (show ¬ ((g.th.getD t []).getD j ev0).kind = 2 from k1), decide_eq_false (show ¬ ((g.th.getD t []).getD j ev0).kind = 3 from k2)]; rfl)
    clear hrd S hL S0 hfrt hle
    skip
    have e64 : w64 ((i : Int) + 1) = (i : Int) + 1 := w64_of (by omega) (by omega)
    skip
    skip
    skip
    repeat' (first
      | (refine E.de 13 [] [none] (by decide +kernel) ?_; cbv; (fail_if_success guard_target =~ False))
      | (refine ⟨fun _ h_s => ?_, fun _ h_s => ?_⟩ <;> (cbv; (try simp only [nc] at *); try simp (disch := (first | omega | (simp only [lnS, zA, zM, zG, zP]; omega))) only [nc, nct, w64_of, zT, zZ, zM, rdS, at_agg, bofZ, bof1, bof0, zC, zS, hli, hat, Int.add_sub_cancel, Nat.zero_add, reduceCtorEq, Bool.not_true, Bool.not_false, zD, zE, zB, zF, zN, zO, ne_eq, zQ, zL, zR, beq_iff_eq] at h_s))
      | (refine hF ?_; intro _; clear hF)
      | (refine hF ?_; cbv; clear hF)
      | (refine ⟨fun _ => ?_, ?_⟩; (· ((try simp only [nc] at *); first | done | omega | exact ⟨by omega, rfl⟩ | (simp (disch := (first | omega | (simp only [lnS, zA, zM, zG, zP]; omega))) only [nc, nct, w64_of, zT, zZ, zM, rdS, at_agg, bofZ, bof1, bof0, zC, zS, hli, hat, Int.add_sub_cancel, Nat.zero_add]; first | done | omega | rfl | exact ⟨by omega, rfl⟩ | (simp; done) | (simp; omega)) | (intros; trivial) | (refine ⟨trivial, by simp [inB_len]; omega, ?_⟩; rw [Nat.zero_add, ids_get _ _ (by rw [inB_len]; omega)]; rfl) | exact ⟨trivial, by omega⟩ | exact ⟨trivial, by omega, rfl⟩ | (have hz := hrd' (by first | exact .inl (by assumption) | exact .inr (by assumption)); omega) | (have hz := hwr (by first | exact .inl (by assumption) | exact .inr (by assumption)); omega))); (try (simp only [nc] at *)); (try simp (disch := (first | omega | (simp only [lnS, zA, zM, zG, zP]; omega))) only [nc, nct, w64_of, zT, zZ, zM, rdS, at_agg, bofZ, bof1, bof0, zC, zS, hli, hat, Int.add_sub_cancel, Nat.zero_add]); (try cbv))
      | (refine E.d 7 (by decide +kernel) ?_; cbv; (fail_if_success guard_target =~ False))
      | (refine E.d 8 (by decide +kernel) ?_; cbv; (fail_if_success guard_target =~ False))
      | (refine E.d 26 (by decide +kernel) ?_; cbv; (fail_if_success guard_target =~ False))
      | (refine E.d 33 (by decide +kernel) ?_; cbv; (fail_if_success guard_target =~ False))
      | fail
    )
    all_goals clear E
    all_goals by_cases k2 : ((g.th.getD t []).getD j ⟨0, 0, 0, 0, 0⟩).kind = 2 ∨ ((g.th.getD t []).getD j ⟨0, 0, 0, 0, 0⟩).kind = 3
    all_goals by_cases k1 : ((g.th.getD t []).getD j ⟨0, 0, 0, 0, 0⟩).kind = 1 ∨ ((g.th.getD t []).getD j ⟨0, 0, 0, 0, 0⟩).kind = 3
    all_goals first
      | (exfalso; ((try simp only [nc] at *); omega))
      | (exfalso; revert h_s; simp; done)
      | (exfalso; simp only [Nat.zero_add, hat, hli] at h_s; revert h_s; simp; done)
      | (exfalso; have hz := (hrd' k1).2.2; rw [hz] at h_s; revert h_s; simp; done)
      | (obtain ⟨z1, z2, z3⟩ := hwr k2
         refine hI2 (i + 1, _, _) ⟨hil, z3⟩ (by simp only; omega) ?_
         cbv
         clear hI2 z3 hwr hrd' hnw
         simp only [is_put, ids_put]
         simp [e64]
         done)
      | (have z3 := hnw (fun e => k2 (.inl e)) (fun e => k2 (.inr e))
         refine hI2 (i + 1, _, _) ⟨hil, z3⟩ (by simp only; omega) ?_
         cbv
         clear hI2 z3 hwr hrd' hnw
         simp only [is_put]
         simp [e64]
         done)
  · refine ⟨fun _ hx => absurd hx (by simp; ((try simp only [nc] at *); omega)), fun _ _ => ?_⟩
    cbv
    clear hI2
    have hi2 : i = lk.length := by omega
    repeat' (first
      | (refine E.c (SCalls.of_le (kc) ?_ ?_); (· (cbv; (try simp only [nc] at *); first | done | (simp; done) | (simp (disch := (first | omega | (simp only [lnS, zA, zM, zG, zP]; omega))) only [nc, nct, w64_of, zT, zZ, zM, rdS, at_agg, bofZ, bof1, bof0, zC, zS, hli, hat, Int.add_sub_cancel, Nat.zero_add, implies_true, and_true, true_and, forall_const]; first | done | omega | (refine ⟨?_, ?_⟩ <;> omega)) | (simp (disch := (first | omega | (simp only [lnS, zA, zM, zG, zP]; omega))) [nc, nct, w64_of, zT, zZ, zM, rdS, at_agg, bofZ, bof1, bof0, zC, zS, hli, hat, Int.add_sub_cancel, Nat.zero_add]; done))); cbv)
      | (refine E.q (QCalls.of_le (kc) ?_ ?_); (· (cbv; (try simp only [nc] at *); first | done | (simp; done) | (simp (disch := (first | omega | (simp only [lnS, zA, zM, zG, zP]; omega))) only [nc, nct, w64_of, zT, zZ, zM, rdS, at_agg, bofZ, bof1, bof0, zC, zS, hli, hat, Int.add_sub_cancel, Nat.zero_add, implies_true, and_true, true_and, forall_const]; first | done | omega | (refine ⟨?_, ?_⟩ <;> omega)) | (simp (disch := (first | omega | (simp only [lnS, zA, zM, zG, zP]; omega))) [nc, nct, w64_of, zT, zZ, zM, rdS, at_agg, bofZ, bof1, bof0, zC, zS, hli, hat, Int.add_sub_cancel, Nat.zero_add]; done))); cbv)
      | (refine ⟨fun _ h_s => ?_, fun _ h_s => ?_⟩ <;> (cbv; (try simp only [nc] at *); try simp (disch := (first | omega | (simp only [lnS, zA, zM, zG, zP]; omega))) only [nc, nct, w64_of, zT, zZ, zM, rdS, at_agg, bofZ, bof1, bof0, zC, zS, hli, hat, Int.add_sub_cancel, Nat.zero_add, reduceCtorEq, Bool.not_true, Bool.not_false, zD, zE, zB, zF, zN, zO, ne_eq, zQ, zL, zR, beq_iff_eq] at h_s))
      | (refine hF ?_; intro _; clear hF)
      | (refine hF ?_; cbv; clear hF)
      | (refine ⟨fun _ => ?_, ?_⟩; (· ((try simp only [nc] at *); first | done | omega | exact ⟨by omega, rfl⟩ | (simp (disch := (first | omega | (simp only [lnS, zA, zM, zG, zP]; omega))) only [nc, nct, w64_of, zT, zZ, zM, rdS, at_agg, bofZ, bof1, bof0, zC, zS, hli, hat, Int.add_sub_cancel, Nat.zero_add]; first | done | omega | rfl | exact ⟨by omega, rfl⟩ | (simp; done) | (simp; omega)) | (intros; trivial) | (refine ⟨trivial, by simp [inB_len]; omega, ?_⟩; rw [Nat.zero_add, ids_get _ _ (by rw [inB_len]; omega)]; rfl) | exact ⟨trivial, by omega⟩ | exact ⟨trivial, by omega, rfl⟩ | (have hz := hrd' (by first | exact .inl (by assumption) | exact .inr (by assumption)); omega) | (have hz := hwr (by first | exact .inl (by assumption) | exact .inr (by assumption)); omega))); (try (simp only [nc] at *)); (try simp (disch := (first | omega | (simp only [lnS, zA, zM, zG, zP]; omega))) only [nc, nct, w64_of, zT, zZ, zM, rdS, at_agg, bofZ, bof1, bof0, zC, zS, hli, hat, Int.add_sub_cancel, Nat.zero_add]); (try cbv))
      | (refine E.d 7 (by decide +kernel) ?_; cbv; (fail_if_success guard_target =~ False))
      | (refine E.d 8 (by decide +kernel) ?_; cbv; (fail_if_success guard_target =~ False))
      | (refine E.d 26 (by decide +kernel) ?_; cbv; (fail_if_success guard_target =~ False))
      | (refine E.d 33 (by decide +kernel) ?_; cbv; (fail_if_success guard_target =~ False))
      | fail
    )
    refine decide_eq_true ?_
    simp only [ids_len, is_len, nc]
    rw [w64_of (by omega) (by omega)]
    omega
theorem weaker_light (g : Gr) (hg : Rd g) (hl : lightM 60 g = false) : Pure Tryz.prog γ false 3 [aGr g] (.b fun _ => true) := by
  have kl := light_ok (γ := γ) g hg 60 (by omega) (by omega)
  rw [hl] at kl
  have kv := lives16_ok (γ := γ)
  refine Pure.go (ty := ty) ty_eq mo Tryz.func3 rfl Tryz.ntmps3 Tryz.results3 Tryz.call3 (by simp) fun P C CQ D W F E hF => ?_
  cbv
  repeat' (first
    | (refine E.c (SCalls.of_le (kl) ?_ ?_); (· (cbv; (try simp only [nc] at *); first | done | (simp; done) | (simp (disch := (first | omega | (simp only [lnS, zA, zM, zG, zP]; omega))) only [nc, nct, w64_of, zT, zZ, zM, rdS, at_agg, bofZ, bof1, bof0, zC, zS, hli, hat, Int.add_sub_cancel, Nat.zero_add, implies_true, and_true, true_and, forall_const]; first | done | omega | (refine ⟨?_, ?_⟩ <;> omega)) | (simp (disch := (first | omega | (simp only [lnS, zA, zM, zG, zP]; omega))) [nc, nct, w64_of, zT, zZ, zM, rdS, at_agg, bofZ, bof1, bof0, zC, zS, hli, hat, Int.add_sub_cancel, Nat.zero_add]; done))); cbv)
    | (refine E.c (SCalls.of_le (kv) ?_ ?_); (· (cbv; (try simp only [nc] at *); first | done | (simp; done) | (simp (disch := (first | omega | (simp only [lnS, zA, zM, zG, zP]; omega))) only [nc, nct, w64_of, zT, zZ, zM, rdS, at_agg, bofZ, bof1, bof0, zC, zS, hli, hat, Int.add_sub_cancel, Nat.zero_add, implies_true, and_true, true_and, forall_const]; first | done | omega | (refine ⟨?_, ?_⟩ <;> omega)) | (simp (disch := (first | omega | (simp only [lnS, zA, zM, zG, zP]; omega))) [nc, nct, w64_of, zT, zZ, zM, rdS, at_agg, bofZ, bof1, bof0, zC, zS, hli, hat, Int.add_sub_cancel, Nat.zero_add]; done))); cbv)
    | (refine ⟨fun _ h_s => ?_, fun _ h_s => ?_⟩ <;> (cbv; (try simp only [nc] at *); try simp (disch := (first | omega | (simp only [lnS, zA, zM, zG, zP]; omega))) only [nc, nct, w64_of, zT, zZ, zM, rdS, at_agg, bofZ, bof1, bof0, zC, zS, hli, hat, Int.add_sub_cancel, Nat.zero_add, reduceCtorEq, Bool.not_true, Bool.not_false, zD, zE, zB, zF, zN, zO, ne_eq, zQ, zL, zR, beq_iff_eq] at h_s))
    | (refine hF ?_; intro _; clear hF)
    | (refine hF ?_; cbv; clear hF)
    | (refine ⟨fun _ => ?_, ?_⟩; (· ((try simp only [nc] at *); first | done | omega | exact ⟨by omega, rfl⟩ | (simp (disch := (first | omega | (simp only [lnS, zA, zM, zG, zP]; omega))) only [nc, nct, w64_of, zT, zZ, zM, rdS, at_agg, bofZ, bof1, bof0, zC, zS, hli, hat, Int.add_sub_cancel, Nat.zero_add]; first | done | omega | rfl | exact ⟨by omega, rfl⟩ | (simp; done) | (simp; omega)) | (intros; trivial) | (refine ⟨trivial, by simp [inB_len]; omega, ?_⟩; rw [Nat.zero_add, ids_get _ _ (by rw [inB_len]; omega)]; rfl) | exact ⟨trivial, by omega⟩ | exact ⟨trivial, by omega, rfl⟩ | (have hz := hrd' (by first | exact .inl (by assumption) | exact .inr (by assumption)); omega) | (have hz := hwr (by first | exact .inl (by assumption) | exact .inr (by assumption)); omega))); (try (simp only [nc] at *)); (try simp (disch := (first | omega | (simp only [lnS, zA, zM, zG, zP]; omega))) only [nc, nct, w64_of, zT, zZ, zM, rdS, at_agg, bofZ, bof1, bof0, zC, zS, hli, hat, Int.add_sub_cancel, Nat.zero_add]); (try cbv))
    | (refine E.d 7 (by decide +kernel) ?_; cbv; (fail_if_success guard_target =~ False))
    | (refine E.d 8 (by decide +kernel) ?_; cbv; (fail_if_success guard_target =~ False))
    | (refine E.d 26 (by decide +kernel) ?_; cbv; (fail_if_success guard_target =~ False))
    | (refine E.d 33 (by decide +kernel) ?_; cbv; (fail_if_success guard_target =~ False))
    | fail
  )
  all_goals first
    | (simp; done)
    | (exfalso; revert h_s; simp; done)
theorem modelWeaker_ok (hγ : γ 0 = some tabAV) (g : Gr) (hg : Rd g) : Pure Tryz.prog γ false 3 [aGr g] (.b fun _ => true) := by
  cases hl : lightM 60 g with
  | false => exact weaker_light g hg hl
  | true =>
    by_cases h : GOk g
    · have c1 := mcheck_ok (γ := γ) 1 g _ (why_yes (γ := γ) 1 [1, 2, 6] g (.inl rfl) (by simp) (by decide) rules_yes1 hg h)
      have c2 := mcheck_ok (γ := γ) 2 g _ (why_yes (γ := γ) 2 [1, 2, 3, 4, 5] g (.inr rfl) (by simp) (by decide) rules_yes2 hg h)
      rw [if_pos (.inl rfl), decide_eq_true (.inl rfl), Bool.true_and] at c1
      rw [if_pos (.inr rfl), decide_eq_true (.inr rfl), Bool.true_and] at c2
      by_cases h26 : (fltM (viewG g) (nG g) 2).br = false ∧ (fltM (viewG g) (nG g) 6).br = false
      · have e1 : [1, 2, 6].find? (fun k => (fltM (viewG g) (nG g) k).br) = none := by
          have f1 : (fltM (viewG g) (nG g) 1).br = false := rfl
          simp [List.find?, f1, h26.1, h26.2]
        have e2 : [1, 2, 3, 4, 5].find? (fun k => (fltM (viewG g) (nG g) k).br) = none := by
          rw [List.find?_eq_none]
          intro k hk
          rw [flt_ra h h26.1 h26.2 k hk]; simp
        rw [e1] at c1
        rw [e2] at c2
        exact weaker_good hγ g hg h hl h26.1 h26.2 c1 c2
      · cases hf : [1, 2, 6].find? (fun k => (fltM (viewG g) (nG g) k).br) with
        | none =>
          rw [List.find?_eq_none] at hf
          exact absurd ⟨by simpa using hf 2 (by simp), by simpa using hf 6 (by simp)⟩ h26
        | some k =>
          rw [hf] at c1
          exact weaker_dark g hg _ hl c1 c2
    · have c1 := mcheck_ok (γ := γ) 1 g _ (why_no (γ := γ) 1 g (.inl rfl) hg h)
      have c2 := mcheck_ok (γ := γ) 2 g _ (why_no (γ := γ) 2 g (.inr rfl) hg h)
      exact weaker_dark g hg false hl (by simpa using c1) (by simpa using c2)
end Go.AL.Rl
