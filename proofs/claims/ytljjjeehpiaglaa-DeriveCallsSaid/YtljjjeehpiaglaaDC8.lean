import Derived.Test.YtljjjeehpiaglaaDC7
import Derived.OpenShut
import Derived.ReadAgain
import Derived.Deep.DeepHandedRow
import Derived.Lib.LaidTab
import Derived.ProofKit
import Derived.Test.YtljjjeehpiaglaaRows
set_option linter.unusedVariables false
set_option linter.unusedSimpArgs false
namespace Go.AL.Rl
open Go Go.AL Go.Proofs
set_option maxRecDepth 100000
set_option maxHeartbeats 3200000
variable {γ : Nat → Option AV}

theorem wsw_ok (g : Gr) (h : GOk g) : Pure Try.prog γ false 43 [pW g] (encRel (nG g : Nat) (swF (viewG g) (nG g))) := by
  have hn := (viewG_wf h).small
  have hEl := evsG_l g
  have hVl : (viewG g).ev = evsG g := rfl
  have hfr0 := fun i hi => fr_iff h i hi
  have hfrl := (viewG_wf h).frl
  have q1 := wreads_ok (γ := γ) g
  have q2 := wwrites_ok (γ := γ) g
  have q3 := wacq_ok (γ := γ) g
  have q4 := wrel_ok (γ := γ) g
  have q5 := wsequence_ok (γ := γ) g h
  have q6 := wfrom_ok (γ := γ) g h
  have q7 := wpo_ok (γ := γ) g
  have e1 : ∀ w, cwM (viewG g) w = (writesM ((evsG g).getD w ⟨0, 0, 0, 0, 0⟩) && decide (((evsG g).getD w ⟨0, 0, 0, 0, 0⟩).order ≠ 1)) := fun _ => rfl
  have e2 : ∀ s b, rdrM (viewG g) s b = (readsM ((evsG g).getD b ⟨0, 0, 0, 0, 0⟩) && decide (((evsG g).getD b ⟨0, 0, 0, 0, 0⟩).order ≠ 1) && s.getLsbD ((viewG g).fr.getD b 0).toNat) := fun _ _ => rfl
  have e3 : ∀ w r, crM (viewG g) w r = (relM ((evsG g).getD r ⟨0, 0, 0, 0, 0⟩) && (decide (r = w) || decide (((evsG g).getD r ⟨0, 0, 0, 0, 0⟩).kind = 4) && poM (viewG g) r w)) := fun _ _ => rfl
  have e4 : ∀ b a, caM (viewG g) b a = (acqM ((evsG g).getD a ⟨0, 0, 0, 0, 0⟩) && (decide (a = b) || decide (((evsG g).getD a ⟨0, 0, 0, 0, 0⟩).kind = 4) && poM (viewG g) b a)) := fun _ _ => rfl
  rw [hVl] at q1 q2 q3 q4
  obtain ⟨L, hL⟩ : ∃ L : Nat → Nat → Nat → Nat → List (Int × Int), ∀ w b r a, L w b r a = lAll (viewG g) (nG g) w b r a := ⟨_, fun _ _ _ _ => rfl⟩
  obtain ⟨G, hG⟩ : ∃ G : List (Int × Int) → Nat, ∀ l, G l = l.length := ⟨_, fun _ => rfl⟩
  have hG0 : G [] = 0 := by rw [hG]; rfl
  have l0 : L 0 0 0 0 = [] := by rw [hL]; rfl
  have lL : ∀ w b r a, w ≤ nG g → b ≤ nG g → r ≤ nG g → a ≤ nG g → (L w b r a).length ≤ 100000000 := fun w b r a h1 h2 h3 h4 => by rw [hL]; exact lAll_len _ _ _ _ _ _ hn h1 h2 h3 h4
  have a1 : ∀ w b r a, caM (viewG g) b a = true → L w b r (a + 1) = L w b r a ++ [((r : Int), (a : Int))] := fun w b r a hc => by rw [hL, hL]; exact lAll_a1 _ _ _ _ _ _ hc
  have a0 : ∀ w b r a, ¬ caM (viewG g) b a = true → L w b r (a + 1) = L w b r a := fun w b r a hc => by rw [hL, hL]; exact lAll_a0 _ _ _ _ _ _ hc
  have r1 : ∀ w b r, crM (viewG g) w r = true → L w b (r + 1) 0 = L w b r (nG g) := fun w b r hc => by rw [hL, hL]; exact lAll_r1 _ _ _ _ _ hc
  have r0 : ∀ w b r, ¬ crM (viewG g) w r = true → L w b (r + 1) 0 = L w b r 0 := fun w b r hc => by rw [hL, hL]; exact lAll_r0 _ _ _ _ _ hc
  have b1 : ∀ w b, rdrM (viewG g) (seqM (viewG g) (nG g) w) b = true → L w (b + 1) 0 0 = L w b (nG g) 0 := fun w b hc => by rw [hL, hL]; exact lAll_b1 _ _ _ _ hc
  have b0 : ∀ w b, ¬ rdrM (viewG g) (seqM (viewG g) (nG g) w) b = true → L w (b + 1) 0 0 = L w b 0 0 := fun w b hc => by rw [hL, hL]; exact lAll_b0 _ _ _ _ hc
  have w1 : ∀ w, cwM (viewG g) w = true → L (w + 1) 0 0 0 = L w (nG g) 0 0 := fun w hc => by rw [hL, hL]; exact lAll_w1 _ _ _ hc
  have w0 : ∀ w, ¬ cwM (viewG g) w = true → L (w + 1) 0 0 0 = L w 0 0 0 := fun w hc => by rw [hL, hL]; exact lAll_w0 _ _ _ hc
  have eO : swF (viewG g) (nG g) = ofTo (nG g) (L (nG g) 0 0 0) (L (nG g) 0 0 0).length := by rw [hL]; exact (ofTo_sw (viewG g) (nG g) hn).symm
  have lN := lL (nG g) 0 0 0 (Nat.le_refl _) (Nat.zero_le _) (Nat.zero_le _) (Nat.zero_le _)
  have kO := rof_in (γ := γ) (nG g : Int) (L (nG g) 0 0 0) (by omega) (by omega) (by omega)
  rw [eO]
  clear eO hL
  generalize hS : seqM (viewG g) (nG g) = S at *
  generalize hF' : (viewG g).fr = FR at *
  generalize hP : poM (viewG g) = PO at *
  refine Pure.goL (ty := ty) ty_eq mo Try.func43 rfl Try.ntmps43 Try.results43 Try.call43 (by simp) fun P C CQ D W F E hF => ?_
  refine E.cut 4 (told 148 [(0, pW g), (2, .ptr 0 0), (3, .vs 2 fun _ => ps (L (nG g) 0 0 0))] [.box (.agg [.lit 0, .nils])]) (by kernel_rfl) (Nat.zero_le _) (fun I hI => ?_) (E.bl ?_)
  · cbv
    repeat' (first
      | (refine ⟨fun _ h_s => ?_, fun _ h_s => ?_⟩ <;> (cbv; (try simp only [nc] at *); try simp (disch := (first | omega | (simp only [lnS, List.length_append, List.length_map, List.length_range, List.length_replicate]; omega))) only [nc, nct, w64_of, Int.toNat_natCast, Int.toNat_zero, List.length_map, rdS, at_agg, bofZ, bof1, bof0, List.getD_cons_zero, List.getD_cons_succ, reduceCtorEq, Bool.not_true, Bool.not_false, decide_eq_true_eq, decide_eq_false_iff_not, Bool.not_eq_true, Bool.not_eq_false, Bool.not_eq_true', Bool.not_eq_false', ne_eq, Decidable.not_not, Int.not_le, Int.not_lt, beq_iff_eq] at h_s))
      | (refine hF ?_; intro _; clear hF)
      | (refine hF ?_; cbv; clear hF)
      | (refine ⟨fun _ => ?_, ?_⟩; (· ((try simp only [nc] at *); first | done | omega | exact ⟨by omega, rfl⟩ | (simp (disch := (first | omega | (simp only [lnS, List.length_append, List.length_map, List.length_range, List.length_replicate]; omega))) only [nc, nct, w64_of, Int.toNat_natCast, Int.toNat_zero, List.length_map, rdS, at_agg, bofZ, bof1, bof0, List.getD_cons_zero, List.getD_cons_succ]; first | done | omega | rfl | exact ⟨by omega, rfl⟩ | (simp; done) | (simp; omega)) | (intros; trivial))); (try (simp only [nc] at *)); (try simp (disch := (first | omega | (simp only [lnS, List.length_append, List.length_map, List.length_range, List.length_replicate]; omega))) only [nc, nct, w64_of, Int.toNat_natCast, Int.toNat_zero, List.length_map, rdS, at_agg, bofZ, bof1, bof0, List.getD_cons_zero, List.getD_cons_succ]); (try cbv))
      | fail
    )
    refine E.w (AWP.ghostSlot 3 2 rfl (by omega) (E.loopSA (ι := Nat) (fun w => w ≤ (nG g)) (fun w => (nG g) - w) (fun w => [(4, .i fun _ => ((w : Nat) : Int)), (3, .sl 1 (G (L w 0 0 0)) 2 (fun _ => 0) fun _ => (L w 0 0 0).length)]) (fun w h => h.set 1 (.run (G (L w 0 0 0)) 2 fun _ => ps (L w 0 0 0))) 0 (fun _ => by first | rfl | simp) (Nat.zero_le _) ?_ fun w hw I1 hJ => ?_))
    · cbv; simp [l0, hG0, ps, LV.of]
    cbv
    have k2 := q2 w
    have k5 := q5 w
    have kw0 := w0 w
    have kw1 := w1 w
    have ew := e1 w
    repeat' (first
      | (refine hJ (w + 1) ?_ ?_ ?_; rotate_left 1; (· ((try simp only [nc] at *); omega)); (cbv; clear hJ; (try clear hF); (try simp only [nc] at *); (try simp (disch := (first | omega | (simp only [lnS, List.length_append, List.length_map, List.length_range, List.length_replicate]; omega))) only [nc, nct, w64_of, Int.toNat_natCast, Int.toNat_zero, List.length_map, rdS, at_agg, bofZ, bof1, bof0, List.getD_cons_zero, List.getD_cons_succ, implies_true, and_true, true_and, forall_const])); rotate_left 1; (try ((try simp only [nc] at *); omega)))
      | (refine E.c (SCalls.of_le (k5 (by ((try simp only [nc] at *); omega))) ?_ ?_); (· (cbv; (try simp only [nc] at *); first | done | (simp; done) | (simp (disch := (first | omega | (simp only [lnS, List.length_append, List.length_map, List.length_range, List.length_replicate]; omega))) only [nc, nct, w64_of, Int.toNat_natCast, Int.toNat_zero, List.length_map, rdS, at_agg, bofZ, bof1, bof0, List.getD_cons_zero, List.getD_cons_succ, implies_true, and_true, true_and, forall_const]; first | done | omega | (refine ⟨?_, ?_⟩ <;> omega)) | (simp (disch := (first | omega | (simp only [lnS, List.length_append, List.length_map, List.length_range, List.length_replicate]; omega))) [nc, nct, w64_of, Int.toNat_natCast, Int.toNat_zero, List.length_map, rdS, at_agg, bofZ, bof1, bof0, List.getD_cons_zero, List.getD_cons_succ]; done))); cbv)
      | (refine E.c (SCalls.of_le (k2 (by ((try simp only [nc] at *); omega))) ?_ ?_); (· (cbv; (try simp only [nc] at *); first | done | (simp; done) | (simp (disch := (first | omega | (simp only [lnS, List.length_append, List.length_map, List.length_range, List.length_replicate]; omega))) only [nc, nct, w64_of, Int.toNat_natCast, Int.toNat_zero, List.length_map, rdS, at_agg, bofZ, bof1, bof0, List.getD_cons_zero, List.getD_cons_succ, implies_true, and_true, true_and, forall_const]; first | done | omega | (refine ⟨?_, ?_⟩ <;> omega)) | (simp (disch := (first | omega | (simp only [lnS, List.length_append, List.length_map, List.length_range, List.length_replicate]; omega))) [nc, nct, w64_of, Int.toNat_natCast, Int.toNat_zero, List.length_map, rdS, at_agg, bofZ, bof1, bof0, List.getD_cons_zero, List.getD_cons_succ]; done))); cbv)
      | (refine ⟨fun _ h_s => ?_, fun _ h_s => ?_⟩ <;> (cbv; (try simp only [nc] at *); try simp (disch := (first | omega | (simp only [lnS, List.length_append, List.length_map, List.length_range, List.length_replicate]; omega))) only [nc, nct, w64_of, Int.toNat_natCast, Int.toNat_zero, List.length_map, rdS, at_agg, bofZ, bof1, bof0, List.getD_cons_zero, List.getD_cons_succ, reduceCtorEq, Bool.not_true, Bool.not_false, decide_eq_true_eq, decide_eq_false_iff_not, Bool.not_eq_true, Bool.not_eq_false, Bool.not_eq_true', Bool.not_eq_false', ne_eq, Decidable.not_not, Int.not_le, Int.not_lt, beq_iff_eq] at h_s))
      | (refine hF ?_; intro _; clear hF)
      | (refine hF ?_; cbv; clear hF)
      | (refine ⟨fun _ => ?_, ?_⟩; (· ((try simp only [nc] at *); first | done | omega | exact ⟨by omega, rfl⟩ | (simp (disch := (first | omega | (simp only [lnS, List.length_append, List.length_map, List.length_range, List.length_replicate]; omega))) only [nc, nct, w64_of, Int.toNat_natCast, Int.toNat_zero, List.length_map, rdS, at_agg, bofZ, bof1, bof0, List.getD_cons_zero, List.getD_cons_succ]; first | done | omega | rfl | exact ⟨by omega, rfl⟩ | (simp; done) | (simp; omega)) | (intros; trivial))); (try (simp only [nc] at *)); (try simp (disch := (first | omega | (simp only [lnS, List.length_append, List.length_map, List.length_range, List.length_replicate]; omega))) only [nc, nct, w64_of, Int.toNat_natCast, Int.toNat_zero, List.length_map, rdS, at_agg, bofZ, bof1, bof0, List.getD_cons_zero, List.getD_cons_succ]); (try cbv))
      | fail
    )
    iterate 2
      · have hc : ¬ cwM (viewG g) w = true := by
          clear kw0 kw1 w0 w1 r0 r1 b0 b1 a0 a1 lL
          rw [ew]; simp_all
        rw [kw0 hc]
        exact ⟨⟨⟨rfl, rfl⟩, by push_cast; rfl⟩, rfl, rfl⟩
    · have hcw : cwM (viewG g) w = true := by
        clear kw0 kw1 w0 w1 r0 r1 b0 b1 a0 a1 lL
        rw [ew]; simp_all
      replace kw1 := kw1 hcw
      clear kw0 ew
      refine E.loopS (ι := Nat) (fun b => b ≤ (nG g)) (fun b => (nG g) - b) (fun b => [(6, .i fun _ => ((b : Nat) : Int)), (3, .sl 1 (G (L w b 0 0)) 2 (fun _ => 0) fun _ => (L w b 0 0).length)]) (fun b h => h.set 1 (.run (G (L w b 0 0)) 2 fun _ => ps (L w b 0 0))) 0 (fun _ => by first | rfl | simp) (Nat.zero_le _) ?_ fun b hb I2 hI2 => ?_
      · cbv; simp
      cbv
      have k1 := q1 b
      have k6 := q6 b
      have kb0 := b0 w b
      have kb1 := b1 w b
      have eb := e2 (S w) b
      have hf1 := hfr0 b
      have hf2 := hfrl b
      repeat' (first
        | (refine hJ (w + 1) ?_ ?_ ?_; rotate_left 1; (· ((try simp only [nc] at *); omega)); (cbv; clear hJ; (try clear hF); (try simp only [nc] at *); (try simp (disch := (first | omega | (simp only [lnS, List.length_append, List.length_map, List.length_range, List.length_replicate]; omega))) only [nc, nct, w64_of, Int.toNat_natCast, Int.toNat_zero, List.length_map, rdS, at_agg, bofZ, bof1, bof0, List.getD_cons_zero, List.getD_cons_succ, implies_true, and_true, true_and, forall_const])); rotate_left 1; (try ((try simp only [nc] at *); omega)))
        | (refine hI2 (b + 1) ?_ ?_ ?_; rotate_left 1; (· ((try simp only [nc] at *); omega)); (cbv; clear hI2; (try clear hF); (try simp only [nc] at *); (try simp (disch := (first | omega | (simp only [lnS, List.length_append, List.length_map, List.length_range, List.length_replicate]; omega))) only [nc, nct, w64_of, Int.toNat_natCast, Int.toNat_zero, List.length_map, rdS, at_agg, bofZ, bof1, bof0, List.getD_cons_zero, List.getD_cons_succ, implies_true, and_true, true_and, forall_const])); rotate_left 1; (try ((try simp only [nc] at *); omega)))
        | (refine E.c (SCalls.of_le (k6 (by ((try simp only [nc] at *); omega))) ?_ ?_); (· (cbv; (try simp only [nc] at *); first | done | (simp; done) | (simp (disch := (first | omega | (simp only [lnS, List.length_append, List.length_map, List.length_range, List.length_replicate]; omega))) only [nc, nct, w64_of, Int.toNat_natCast, Int.toNat_zero, List.length_map, rdS, at_agg, bofZ, bof1, bof0, List.getD_cons_zero, List.getD_cons_succ, implies_true, and_true, true_and, forall_const]; first | done | omega | (refine ⟨?_, ?_⟩ <;> omega)) | (simp (disch := (first | omega | (simp only [lnS, List.length_append, List.length_map, List.length_range, List.length_replicate]; omega))) [nc, nct, w64_of, Int.toNat_natCast, Int.toNat_zero, List.length_map, rdS, at_agg, bofZ, bof1, bof0, List.getD_cons_zero, List.getD_cons_succ]; done))); cbv)
        | (refine E.c (SCalls.of_le (k1 (by ((try simp only [nc] at *); omega))) ?_ ?_); (· (cbv; (try simp only [nc] at *); first | done | (simp; done) | (simp (disch := (first | omega | (simp only [lnS, List.length_append, List.length_map, List.length_range, List.length_replicate]; omega))) only [nc, nct, w64_of, Int.toNat_natCast, Int.toNat_zero, List.length_map, rdS, at_agg, bofZ, bof1, bof0, List.getD_cons_zero, List.getD_cons_succ, implies_true, and_true, true_and, forall_const]; first | done | omega | (refine ⟨?_, ?_⟩ <;> omega)) | (simp (disch := (first | omega | (simp only [lnS, List.length_append, List.length_map, List.length_range, List.length_replicate]; omega))) [nc, nct, w64_of, Int.toNat_natCast, Int.toNat_zero, List.length_map, rdS, at_agg, bofZ, bof1, bof0, List.getD_cons_zero, List.getD_cons_succ]; done))); cbv)
        | (refine ⟨fun _ h_s => ?_, fun _ h_s => ?_⟩ <;> (cbv; (try simp only [nc] at *); try simp (disch := (first | omega | (simp only [lnS, List.length_append, List.length_map, List.length_range, List.length_replicate]; omega))) only [nc, nct, w64_of, Int.toNat_natCast, Int.toNat_zero, List.length_map, rdS, at_agg, bofZ, bof1, bof0, List.getD_cons_zero, List.getD_cons_succ, reduceCtorEq, Bool.not_true, Bool.not_false, decide_eq_true_eq, decide_eq_false_iff_not, Bool.not_eq_true, Bool.not_eq_false, Bool.not_eq_true', Bool.not_eq_false', ne_eq, Decidable.not_not, Int.not_le, Int.not_lt, beq_iff_eq] at h_s))
        | (refine hF ?_; intro _; clear hF)
        | (refine hF ?_; cbv; clear hF)
        | (refine ⟨fun _ => ?_, ?_⟩; (· ((try simp only [nc] at *); first | done | omega | exact ⟨by omega, rfl⟩ | (simp (disch := (first | omega | (simp only [lnS, List.length_append, List.length_map, List.length_range, List.length_replicate]; omega))) only [nc, nct, w64_of, Int.toNat_natCast, Int.toNat_zero, List.length_map, rdS, at_agg, bofZ, bof1, bof0, List.getD_cons_zero, List.getD_cons_succ]; first | done | omega | rfl | exact ⟨by omega, rfl⟩ | (simp; done) | (simp; omega)) | (intros; trivial))); (try (simp only [nc] at *)); (try simp (disch := (first | omega | (simp only [lnS, List.length_append, List.length_map, List.length_range, List.length_replicate]; omega))) only [nc, nct, w64_of, Int.toNat_natCast, Int.toNat_zero, List.length_map, rdS, at_agg, bofZ, bof1, bof0, List.getD_cons_zero, List.getD_cons_succ]); (try cbv))
        | fail
      )
      iterate 3
        · have hc : ¬ rdrM (viewG g) (S w) b = true := by
            clear kb0 kb1 w0 w1 r0 r1 b0 b1 a0 a1 lL
            rw [eb]
            first
              | (simp_all; done)
              | (rw [bofZ (by simp_all) (by omega), mod2_bit0] at h_s; rw [Bool.and_eq_true]; rintro ⟨_, hx⟩; rw [h_s] at hx; cases hx)
          rw [kb0 hc]
          exact ⟨⟨⟨rfl, rfl⟩, by push_cast; rfl⟩, rfl, rfl⟩
      · have hcb : rdrM (viewG g) (S w) b = true := by
          clear kb0 kb1 w0 w1 r0 r1 b0 b1 a0 a1 lL
          rw [eb]
          rw [bofZ (by simp_all) (by omega), mod2_bit0] at h_s
          simp_all
        replace kb1 := kb1 hcb
        clear kb0 eb
        refine E.loopS (ι := Nat) (fun r => r ≤ (nG g)) (fun r => (nG g) - r) (fun r => [(7, .i fun _ => ((r : Nat) : Int)), (3, .sl 1 (G (L w b r 0)) 2 (fun _ => 0) fun _ => (L w b r 0).length)]) (fun r h => h.set 1 (.run (G (L w b r 0)) 2 fun _ => ps (L w b r 0))) 0 (fun _ => by first | rfl | simp) (Nat.zero_le _) ?_ fun r hr I3 hI3 => ?_
        · cbv; simp
        cbv
        have k4 := q4 r
        have k7 := q7 r w
        have kr0 := r0 w b r
        have kr1 := r1 w b r
        have er := e3 w r
        repeat' (first
          | (refine hI2 (b + 1) ?_ ?_ ?_; rotate_left 1; (· ((try simp only [nc] at *); omega)); (cbv; clear hI2; (try clear hF); (try simp only [nc] at *); (try simp (disch := (first | omega | (simp only [lnS, List.length_append, List.length_map, List.length_range, List.length_replicate]; omega))) only [nc, nct, w64_of, Int.toNat_natCast, Int.toNat_zero, List.length_map, rdS, at_agg, bofZ, bof1, bof0, List.getD_cons_zero, List.getD_cons_succ, implies_true, and_true, true_and, forall_const])); rotate_left 1; (try ((try simp only [nc] at *); omega)))
          | (refine hI3 (r + 1) ?_ ?_ ?_; rotate_left 1; (· ((try simp only [nc] at *); omega)); (cbv; clear hI3; (try clear hF); (try simp only [nc] at *); (try simp (disch := (first | omega | (simp only [lnS, List.length_append, List.length_map, List.length_range, List.length_replicate]; omega))) only [nc, nct, w64_of, Int.toNat_natCast, Int.toNat_zero, List.length_map, rdS, at_agg, bofZ, bof1, bof0, List.getD_cons_zero, List.getD_cons_succ, implies_true, and_true, true_and, forall_const])); rotate_left 1; (try ((try simp only [nc] at *); omega)))
          | (refine E.c (SCalls.of_le (k7 (by ((try simp only [nc] at *); omega)) (by ((try simp only [nc] at *); omega))) ?_ ?_); (· (cbv; (try simp only [nc] at *); first | done | (simp; done) | (simp (disch := (first | omega | (simp only [lnS, List.length_append, List.length_map, List.length_range, List.length_replicate]; omega))) only [nc, nct, w64_of, Int.toNat_natCast, Int.toNat_zero, List.length_map, rdS, at_agg, bofZ, bof1, bof0, List.getD_cons_zero, List.getD_cons_succ, implies_true, and_true, true_and, forall_const]; first | done | omega | (refine ⟨?_, ?_⟩ <;> omega)) | (simp (disch := (first | omega | (simp only [lnS, List.length_append, List.length_map, List.length_range, List.length_replicate]; omega))) [nc, nct, w64_of, Int.toNat_natCast, Int.toNat_zero, List.length_map, rdS, at_agg, bofZ, bof1, bof0, List.getD_cons_zero, List.getD_cons_succ]; done))); cbv)
          | (refine E.c (SCalls.of_le (k4 (by ((try simp only [nc] at *); omega))) ?_ ?_); (· (cbv; (try simp only [nc] at *); first | done | (simp; done) | (simp (disch := (first | omega | (simp only [lnS, List.length_append, List.length_map, List.length_range, List.length_replicate]; omega))) only [nc, nct, w64_of, Int.toNat_natCast, Int.toNat_zero, List.length_map, rdS, at_agg, bofZ, bof1, bof0, List.getD_cons_zero, List.getD_cons_succ, implies_true, and_true, true_and, forall_const]; first | done | omega | (refine ⟨?_, ?_⟩ <;> omega)) | (simp (disch := (first | omega | (simp only [lnS, List.length_append, List.length_map, List.length_range, List.length_replicate]; omega))) [nc, nct, w64_of, Int.toNat_natCast, Int.toNat_zero, List.length_map, rdS, at_agg, bofZ, bof1, bof0, List.getD_cons_zero, List.getD_cons_succ]; done))); cbv)
          | (refine ⟨fun _ h_s => ?_, fun _ h_s => ?_⟩ <;> (cbv; (try simp only [nc] at *); try simp (disch := (first | omega | (simp only [lnS, List.length_append, List.length_map, List.length_range, List.length_replicate]; omega))) only [nc, nct, w64_of, Int.toNat_natCast, Int.toNat_zero, List.length_map, rdS, at_agg, bofZ, bof1, bof0, List.getD_cons_zero, List.getD_cons_succ, reduceCtorEq, Bool.not_true, Bool.not_false, decide_eq_true_eq, decide_eq_false_iff_not, Bool.not_eq_true, Bool.not_eq_false, Bool.not_eq_true', Bool.not_eq_false', ne_eq, Decidable.not_not, Int.not_le, Int.not_lt, beq_iff_eq] at h_s))
          | (refine hF ?_; intro _; clear hF)
          | (refine hF ?_; cbv; clear hF)
          | (refine ⟨fun _ => ?_, ?_⟩; (· ((try simp only [nc] at *); first | done | omega | exact ⟨by omega, rfl⟩ | (simp (disch := (first | omega | (simp only [lnS, List.length_append, List.length_map, List.length_range, List.length_replicate]; omega))) only [nc, nct, w64_of, Int.toNat_natCast, Int.toNat_zero, List.length_map, rdS, at_agg, bofZ, bof1, bof0, List.getD_cons_zero, List.getD_cons_succ]; first | done | omega | rfl | exact ⟨by omega, rfl⟩ | (simp; done) | (simp; omega)) | (intros; trivial))); (try (simp only [nc] at *)); (try simp (disch := (first | omega | (simp only [lnS, List.length_append, List.length_map, List.length_range, List.length_replicate]; omega))) only [nc, nct, w64_of, Int.toNat_natCast, Int.toNat_zero, List.length_map, rdS, at_agg, bofZ, bof1, bof0, List.getD_cons_zero, List.getD_cons_succ]); (try cbv))
          | fail
        )
        have eri : ((r : Int) = w) ↔ r = w := Int.ofNat_inj
        iterate 3
          · have hc : ¬ crM (viewG g) w r = true := by
              clear kr0 kr1 w0 w1 r0 r1 b0 b1 a0 a1 lL
              rw [er]
              first
                | (simp_all; done)
                | (simp_all; omega)
            rw [kr0 hc]
            exact ⟨⟨⟨rfl, rfl⟩, by push_cast; rfl⟩, rfl, rfl⟩
        iterate 2
          · have hcr : crM (viewG g) w r = true := by
              clear kr0 kr1 w0 w1 r0 r1 b0 b1 a0 a1 lL
              rw [er]
              first
                | (simp_all; done)
                | (simp_all; omega)
                | (have e : r = w := by omega
                   simp_all; done)
            replace kr1 := kr1 hcr
            clear kr0 er
            refine E.loopS (ι := Nat) (fun a => a ≤ (nG g)) (fun a => (nG g) - a) (fun a => [(8, .i fun _ => ((a : Nat) : Int)), (3, .sl 1 (G (L w b r a)) 2 (fun _ => 0) fun _ => (L w b r a).length)]) (fun a h => h.set 1 (.run (G (L w b r a)) 2 fun _ => ps (L w b r a))) 0 (fun _ => by first | rfl | simp) (Nat.zero_le _) ?_ fun a ha I4 hI4 => ?_
            · cbv; simp
            cbv
            have k3 := q3 a
            have k7 := q7 b a
            have ka0 := a0 w b r a
            have ka1 := a1 w b r a
            have ea := e4 b a
            have d1 := lL w b r a (by omega) (by omega) (by omega) (by omega)
            skip
            repeat' (first
              | (refine hI3 (r + 1) ?_ ?_ ?_; rotate_left 1; (· ((try simp only [nc] at *); omega)); (cbv; clear hI3; (try clear hF); (try simp only [nc] at *); (try simp (disch := (first | omega | (simp only [lnS, List.length_append, List.length_map, List.length_range, List.length_replicate]; omega))) only [nc, nct, w64_of, Int.toNat_natCast, Int.toNat_zero, List.length_map, rdS, at_agg, bofZ, bof1, bof0, List.getD_cons_zero, List.getD_cons_succ, implies_true, and_true, true_and, forall_const])); rotate_left 1; (try ((try simp only [nc] at *); omega)))
              | (refine hI4 (a + 1) ?_ ?_ ?_; rotate_left 1; (· ((try simp only [nc] at *); omega)); (cbv; clear hI4; (try clear hF); (try simp only [nc] at *); (try simp (disch := (first | omega | (simp only [lnS, List.length_append, List.length_map, List.length_range, List.length_replicate]; omega))) only [nc, nct, w64_of, Int.toNat_natCast, Int.toNat_zero, List.length_map, rdS, at_agg, bofZ, bof1, bof0, List.getD_cons_zero, List.getD_cons_succ, implies_true, and_true, true_and, forall_const])); rotate_left 1; (try ((try simp only [nc] at *); omega)))
              | (refine E.c (SCalls.of_le (k7 (by ((try simp only [nc] at *); omega)) (by ((try simp only [nc] at *); omega))) ?_ ?_); (· (cbv; (try simp only [nc] at *); first | done | (simp; done) | (simp (disch := (first | omega | (simp only [lnS, List.length_append, List.length_map, List.length_range, List.length_replicate]; omega))) only [nc, nct, w64_of, Int.toNat_natCast, Int.toNat_zero, List.length_map, rdS, at_agg, bofZ, bof1, bof0, List.getD_cons_zero, List.getD_cons_succ, implies_true, and_true, true_and, forall_const]; first | done | omega | (refine ⟨?_, ?_⟩ <;> omega)) | (simp (disch := (first | omega | (simp only [lnS, List.length_append, List.length_map, List.length_range, List.length_replicate]; omega))) [nc, nct, w64_of, Int.toNat_natCast, Int.toNat_zero, List.length_map, rdS, at_agg, bofZ, bof1, bof0, List.getD_cons_zero, List.getD_cons_succ]; done))); cbv)
              | (refine E.c (SCalls.of_le (k3 (by ((try simp only [nc] at *); omega))) ?_ ?_); (· (cbv; (try simp only [nc] at *); first | done | (simp; done) | (simp (disch := (first | omega | (simp only [lnS, List.length_append, List.length_map, List.length_range, List.length_replicate]; omega))) only [nc, nct, w64_of, Int.toNat_natCast, Int.toNat_zero, List.length_map, rdS, at_agg, bofZ, bof1, bof0, List.getD_cons_zero, List.getD_cons_succ, implies_true, and_true, true_and, forall_const]; first | done | omega | (refine ⟨?_, ?_⟩ <;> omega)) | (simp (disch := (first | omega | (simp only [lnS, List.length_append, List.length_map, List.length_range, List.length_replicate]; omega))) [nc, nct, w64_of, Int.toNat_natCast, Int.toNat_zero, List.length_map, rdS, at_agg, bofZ, bof1, bof0, List.getD_cons_zero, List.getD_cons_succ]; done))); cbv)
              | (refine ⟨fun _ h_s => ?_, fun _ h_s => ?_⟩ <;> (cbv; (try simp only [nc] at *); try simp (disch := (first | omega | (simp only [lnS, List.length_append, List.length_map, List.length_range, List.length_replicate]; omega))) only [nc, nct, w64_of, Int.toNat_natCast, Int.toNat_zero, List.length_map, rdS, at_agg, bofZ, bof1, bof0, List.getD_cons_zero, List.getD_cons_succ, reduceCtorEq, Bool.not_true, Bool.not_false, decide_eq_true_eq, decide_eq_false_iff_not, Bool.not_eq_true, Bool.not_eq_false, Bool.not_eq_true', Bool.not_eq_false', ne_eq, Decidable.not_not, Int.not_le, Int.not_lt, beq_iff_eq] at h_s))
              | (refine hF ?_; intro _; clear hF)
              | (refine hF ?_; cbv; clear hF)
              | (refine ⟨fun _ => ?_, ?_⟩; (· ((try simp only [nc] at *); first | done | omega | exact ⟨by omega, rfl⟩ | (simp (disch := (first | omega | (simp only [lnS, List.length_append, List.length_map, List.length_range, List.length_replicate]; omega))) only [nc, nct, w64_of, Int.toNat_natCast, Int.toNat_zero, List.length_map, rdS, at_agg, bofZ, bof1, bof0, List.getD_cons_zero, List.getD_cons_succ]; first | done | omega | rfl | exact ⟨by omega, rfl⟩ | (simp; done) | (simp; omega)) | (intros; trivial) | exact ⟨by first | trivial | rfl, by first | trivial | rfl | simp, by first | trivial | simp, by simp; omega, by simp; omega, by simp [AV.flat, AV.cells, AV.one]⟩)); (try (simp only [nc] at *)); (try simp (disch := (first | omega | (simp only [lnS, List.length_append, List.length_map, List.length_range, List.length_replicate]; omega))) only [nc, nct, w64_of, Int.toNat_natCast, Int.toNat_zero, List.length_map, rdS, at_agg, bofZ, bof1, bof0, List.getD_cons_zero, List.getD_cons_succ]); (try cbv))
              | fail
            )
            all_goals (have eai : ((a : Int) = b) ↔ a = b := Int.ofNat_inj)
            iterate 2
              · have hc : caM (viewG g) b a = true := by
                  clear ka0 ka1 w0 w1 r0 r1 b0 b1 a0 a1 lL
                  rw [ea]
                  first
                    | (simp_all; done)
                    | (simp_all; omega)
                    | (have e : a = b := by omega
                       simp_all; done)
                replace ka1 := ka1 hc
                clear w0 w1 r0 r1 b0 b1 a0 a1 lL
                rw [ka1]
                simp [hG, ps, setAll, AV.nrm]
            iterate 3
              · have hc : ¬ caM (viewG g) b a = true := by
                  clear ka0 ka1 w0 w1 r0 r1 b0 b1 a0 a1 lL
                  rw [ea]
                  first
                    | (simp_all; done)
                    | (simp_all; omega)
                rw [ka0 hc]
                exact ⟨⟨⟨rfl, rfl⟩, by push_cast; rfl⟩, rfl, rfl⟩
            · have e : a = nG g := by ((try simp only [nc] at *); omega)
              subst e
              rw [kr1]
              exact ⟨⟨⟨rfl, rfl⟩, by push_cast; rfl⟩, rfl, rfl⟩
        · have e : r = nG g := by ((try simp only [nc] at *); omega)
          subst e
          rw [kb1]
          exact ⟨⟨⟨rfl, rfl⟩, by push_cast; rfl⟩, rfl, rfl⟩
      · have e : b = nG g := by ((try simp only [nc] at *); omega)
        subst e
        rw [kw1]
        exact ⟨⟨⟨rfl, rfl⟩, by push_cast; rfl⟩, rfl, rfl⟩
    · have ew : w = nG g := by ((try simp only [nc] at *); omega)
      subst ew
      refine hI ?_
      cbv
      clear hI hJ
      simp only [List.drop_zero, nc]
      simp
      exact List.take_of_length_le (by simp)
  · cbv
    repeat' (first
      | (refine E.c (SCalls.of_le (kO) ?_ ?_); (· (cbv; (try simp only [nc] at *); first | done | (simp; done) | (simp (disch := (first | omega | (simp only [lnS, List.length_append, List.length_map, List.length_range, List.length_replicate]; omega))) only [nc, nct, w64_of, Int.toNat_natCast, Int.toNat_zero, List.length_map, rdS, at_agg, bofZ, bof1, bof0, List.getD_cons_zero, List.getD_cons_succ, implies_true, and_true, true_and, forall_const]; first | done | omega | (refine ⟨?_, ?_⟩ <;> omega)) | (simp (disch := (first | omega | (simp only [lnS, List.length_append, List.length_map, List.length_range, List.length_replicate]; omega))) [nc, nct, w64_of, Int.toNat_natCast, Int.toNat_zero, List.length_map, rdS, at_agg, bofZ, bof1, bof0, List.getD_cons_zero, List.getD_cons_succ]; done))); cbv)
      | (refine ⟨fun _ h_s => ?_, fun _ h_s => ?_⟩ <;> (cbv; (try simp only [nc] at *); try simp (disch := (first | omega | (simp only [lnS, List.length_append, List.length_map, List.length_range, List.length_replicate]; omega))) only [nc, nct, w64_of, Int.toNat_natCast, Int.toNat_zero, List.length_map, rdS, at_agg, bofZ, bof1, bof0, List.getD_cons_zero, List.getD_cons_succ, reduceCtorEq, Bool.not_true, Bool.not_false, decide_eq_true_eq, decide_eq_false_iff_not, Bool.not_eq_true, Bool.not_eq_false, Bool.not_eq_true', Bool.not_eq_false', ne_eq, Decidable.not_not, Int.not_le, Int.not_lt, beq_iff_eq] at h_s))
      | (refine hF ?_; intro _; clear hF)
      | (refine hF ?_; cbv; clear hF)
      | (refine ⟨fun _ => ?_, ?_⟩; (· ((try simp only [nc] at *); first | done | omega | exact ⟨by omega, rfl⟩ | (simp (disch := (first | omega | (simp only [lnS, List.length_append, List.length_map, List.length_range, List.length_replicate]; omega))) only [nc, nct, w64_of, Int.toNat_natCast, Int.toNat_zero, List.length_map, rdS, at_agg, bofZ, bof1, bof0, List.getD_cons_zero, List.getD_cons_succ]; first | done | omega | rfl | exact ⟨by omega, rfl⟩ | (simp; done) | (simp; omega)) | (intros; trivial) | exact ⟨by first | trivial | rfl, by first | trivial | rfl | simp, by first | trivial | simp, by simp; omega, by simp; omega, by simp [AV.flat, AV.cells, AV.one]⟩)); (try (simp only [nc] at *)); (try simp (disch := (first | omega | (simp only [lnS, List.length_append, List.length_map, List.length_range, List.length_replicate]; omega))) only [nc, nct, w64_of, Int.toNat_natCast, Int.toNat_zero, List.length_map, rdS, at_agg, bofZ, bof1, bof0, List.getD_cons_zero, List.getD_cons_succ]); (try cbv))
      | fail
    )
end Go.AL.Rl

namespace Go.AL.Rl
open Go Go.AL Go.Proofs
set_option maxRecDepth 100000
set_option maxHeartbeats 3200000
variable {γ : Nat → Option AV}

theorem ror3 (n : Nat) (a b c : List (BitVec 64)) (ha : Fits n a) (hb : Fits n b) (hc : Fits n c) : Pure Try.prog γ false 42 [.vs 2 fun _ => rls [((n : Int), a), ((n : Int), b), ((n : Int), c)]] (encRel n (orM n [((n : Int), a), ((n : Int), b), ((n : Int), c)])) :=
  ror_yes _ (by simp) (alike3 n a b c ha hb hc) n rfl
theorem w15All_yes (g : Gr) (hg : Rd g) (h : GOk g) : Pure Try.prog γ false 7 [aGr g] (.tup [aDer (nG g : Nat) (poF (viewG g) (nG g)) (rfF (viewG g) (nG g)) (coF (viewG g) (nG g)) (frF (viewG g) (nG g)) (ecoF (viewG g) (nG g)) (porfF (viewG g) (nG g)) (locF (viewG g) (nG g)) (swF (viewG g) (nG g)) (hbF (viewG g) (nG g)), .i fun _ => 0]) := by
  have hV := viewG_wf h
  have hn := hV.small
  have kl := look15_yes (γ := γ) g hg h
  have kg := wgiven_ok (γ := γ) g hg h
  have ks := wsw_ok (γ := γ) g h
  have f1 := fits_poF (viewG g) hV.small
  have f2 := fits_rfF (viewG g) hV.small
  have f3 := fits_coF (viewG g) hV.small
  have f4 := fits_frF (viewG g) hV.small
  have f6 := fits_swF (viewG g) hV.small
  have o1 := ror3 (γ := γ) (nG g) _ _ _ f2 f3 f4
  have o2 := ror2 (γ := γ) (nG g) _ _ f1 f2
  have o3 := ror2 (γ := γ) (nG g) _ _ f1 f6
  have p1 := rplus_yes (γ := γ) (nG g) _ (fits_or (by omega) (l := [((nG g : Int), rfF (viewG g) (nG g)), ((nG g : Int), coF (viewG g) (nG g)), ((nG g : Int), frF (viewG g) (nG g))]) (by simp [f2, f3, f4]))
  have p2 := rplus_yes (γ := γ) (nG g) _ (fits_or2 f1 f2)
  have p3 := rplus_yes (γ := γ) (nG g) _ (fits_or2 f1 f6)
  have c1 := wloc_ok (γ := γ) g
  have e1 : plusM (nG g) (orM (nG g) [((nG g : Int), rfF (viewG g) (nG g)), ((nG g : Int), coF (viewG g) (nG g)), ((nG g : Int), frF (viewG g) (nG g))]) = ecoF (viewG g) (nG g) := by simp [ecoF]
  have e2 : plusM (nG g) (orM (nG g) [((nG g : Int), poF (viewG g) (nG g)), ((nG g : Int), rfF (viewG g) (nG g))]) = porfF (viewG g) (nG g) := by simp [porfF]
  have e3 : plusM (nG g) (orM (nG g) [((nG g : Int), poF (viewG g) (nG g)), ((nG g : Int), swF (viewG g) (nG g))]) = hbF (viewG g) (nG g) := by simp [hbF]
  rw [e1] at p1
  rw [e2] at p2
  rw [e3] at p3
  have eL : locF (viewG g) (nG g) = relRows (nG g) (locM (viewG g)) := rfl
  rw [eL]
  clear e1 e2 e3 eL f1 f2 f3 f4 f6
  generalize locM (viewG g) = p at *
  generalize poF (viewG g) (nG g) = q1 at *
  generalize rfF (viewG g) (nG g) = q2 at *
  generalize coF (viewG g) (nG g) = q3 at *
  generalize frF (viewG g) (nG g) = q4 at *
  generalize swF (viewG g) (nG g) = q5 at *
  generalize ecoF (viewG g) (nG g) = q6 at *
  generalize porfF (viewG g) (nG g) = q7 at *
  generalize hbF (viewG g) (nG g) = q8 at *
  obtain ⟨L, hL⟩ : ∃ L : Nat → Nat → List (Int × Int), ∀ a b, L a b = prA p (nG g) a ++ prE p a b := ⟨_, fun _ _ => rfl⟩
  obtain ⟨G, hG⟩ : ∃ G : List (Int × Int) → Nat, ∀ l, G l = l.length := ⟨_, fun _ => rfl⟩
  have hG0 : G [] = 0 := by rw [hG]; rfl
  have l0 : L 0 0 = [] := by rw [hL]; rfl
  have lS : ∀ a b, L a (b + 1) = L a b ++ if p a b = true then [((a : Int), (b : Int))] else [] := fun a b => by rw [hL, hL, prE_succ]; simp only [List.append_assoc]
  have lE : ∀ a, L a (nG g) = L (a + 1) 0 := fun a => by rw [hL, hL, prA_succ]; simp [prE]
  have lL : ∀ a b, a ≤ nG g → b ≤ nG g → (L a b).length ≤ 4000 := fun a b ha hb => by
    have q1 := prA_len p (nG g) a
    have q2 := prE_len p a b
    have q3 : a * nG g ≤ 62 * 62 := Nat.mul_le_mul (by omega) hn
    rw [hL, List.length_append]; omega
  have lF : L (nG g) 0 = prA p (nG g) (nG g) := by rw [hL]; simp [prE]
  have lN := lL (nG g) 0 (Nat.le_refl _) (Nat.zero_le _)
  have kO := rof_in (γ := γ) (nG g : Int) (prA p (nG g) (nG g)) (by omega) (by omega) (by rw [← lF]; omega)
  rw [ofTo_rel (nG g) (by omega) p, ← lF] at kO
  clear hL lF
  refine Pure.goL (ty := ty) ty_eq mo Try.func7 rfl Try.ntmps7 Try.results7 Try.call7 (by simp) fun P C CQ D W F E hF => ?_
  refine E.cut 7 (told 96 [(1, .ptr 0 0), (2, .ptr 1 0), (3, .lit 0), (4, pW g), (6, .vs 2 fun _ => ps (L (nG g) 0))] [.box (aGr g), .box (.agg [.lit 0, .nils, .lit 0, .nils, .lit 0, .nils, .lit 0, .nils, .lit 0, .nils, .lit 0, .nils, .lit 0, .nils, .lit 0, .nils, .lit 0, .nils])]) (by kernel_rfl) (Nat.zero_le _) (fun I hI => ?_) (E.bl ?_)
  · cbv
    repeat' (first
      | (refine E.c (SCalls.of_le (kl) ?_ ?_); (· (cbv; (try simp only [nc] at *); first | done | (simp; done) | (simp (disch := (first | omega | (simp only [lnS, List.length_append, List.length_map, List.length_range, List.length_replicate]; omega))) only [nc, nct, w64_of, Int.toNat_natCast, Int.toNat_zero, List.length_map, rdS, at_agg, bofZ, bof1, bof0, List.getD_cons_zero, List.getD_cons_succ, implies_true, and_true, true_and, forall_const]; first | done | omega | (refine ⟨?_, ?_⟩ <;> omega)) | (simp (disch := (first | omega | (simp only [lnS, List.length_append, List.length_map, List.length_range, List.length_replicate]; omega))) [nc, nct, w64_of, Int.toNat_natCast, Int.toNat_zero, List.length_map, rdS, at_agg, bofZ, bof1, bof0, List.getD_cons_zero, List.getD_cons_succ]; done))); cbv)
      | (refine ⟨fun _ h_s => ?_, fun _ h_s => ?_⟩ <;> (cbv; (try simp only [nc] at *); try simp (disch := (first | omega | (simp only [lnS, List.length_append, List.length_map, List.length_range, List.length_replicate]; omega))) only [nc, nct, w64_of, Int.toNat_natCast, Int.toNat_zero, List.length_map, rdS, at_agg, bofZ, bof1, bof0, List.getD_cons_zero, List.getD_cons_succ, reduceCtorEq, Bool.not_true, Bool.not_false, decide_eq_true_eq, decide_eq_false_iff_not, Bool.not_eq_true, Bool.not_eq_false, Bool.not_eq_true', Bool.not_eq_false', ne_eq, Decidable.not_not, Int.not_le, Int.not_lt, beq_iff_eq] at h_s))
      | (refine hF ?_; intro _; clear hF)
      | (refine hF ?_; cbv; clear hF)
      | (refine ⟨fun _ => ?_, ?_⟩; (· ((try simp only [nc] at *); first | done | omega | exact ⟨by omega, rfl⟩ | (simp (disch := (first | omega | (simp only [lnS, List.length_append, List.length_map, List.length_range, List.length_replicate]; omega))) only [nc, nct, w64_of, Int.toNat_natCast, Int.toNat_zero, List.length_map, rdS, at_agg, bofZ, bof1, bof0, List.getD_cons_zero, List.getD_cons_succ]; first | done | omega | rfl | exact ⟨by omega, rfl⟩ | (simp; done) | (simp; omega)) | (intros; trivial))); (try (simp only [nc] at *)); (try simp (disch := (first | omega | (simp only [lnS, List.length_append, List.length_map, List.length_range, List.length_replicate]; omega))) only [nc, nct, w64_of, Int.toNat_natCast, Int.toNat_zero, List.length_map, rdS, at_agg, bofZ, bof1, bof0, List.getD_cons_zero, List.getD_cons_succ]); (try cbv))
      | fail
    )
    refine E.w (AWP.ghostSlot 6 2 rfl (by omega) (E.loopSA (ι := Nat) (fun a => a ≤ (nG g)) (fun a => (nG g) - a) (fun a => [(7, .i fun _ => ((a : Nat) : Int)), (6, .sl 2 (G (L a 0)) 2 (fun _ => 0) fun _ => (L a 0).length)]) (fun a h => h.set 2 (.run (G (L a 0)) 2 fun _ => ps (L a 0))) 0 (fun _ => by first | rfl | simp) (Nat.zero_le _) ?_ fun a ha I1 hJ => ?_))
    · cbv; simp [l0, hG0, ps, LV.of]
    cbv
    repeat' (first
      | (refine ⟨fun _ h_s => ?_, fun _ h_s => ?_⟩ <;> (cbv; (try simp only [nc] at *); try simp (disch := (first | omega | (simp only [lnS, List.length_append, List.length_map, List.length_range, List.length_replicate]; omega))) only [nc, nct, w64_of, Int.toNat_natCast, Int.toNat_zero, List.length_map, rdS, at_agg, bofZ, bof1, bof0, List.getD_cons_zero, List.getD_cons_succ, reduceCtorEq, Bool.not_true, Bool.not_false, decide_eq_true_eq, decide_eq_false_iff_not, Bool.not_eq_true, Bool.not_eq_false, Bool.not_eq_true', Bool.not_eq_false', ne_eq, Decidable.not_not, Int.not_le, Int.not_lt, beq_iff_eq] at h_s))
      | (refine hF ?_; intro _; clear hF)
      | (refine hF ?_; cbv; clear hF)
      | (refine ⟨fun _ => ?_, ?_⟩; (· ((try simp only [nc] at *); first | done | omega | exact ⟨by omega, rfl⟩ | (simp (disch := (first | omega | (simp only [lnS, List.length_append, List.length_map, List.length_range, List.length_replicate]; omega))) only [nc, nct, w64_of, Int.toNat_natCast, Int.toNat_zero, List.length_map, rdS, at_agg, bofZ, bof1, bof0, List.getD_cons_zero, List.getD_cons_succ]; first | done | omega | rfl | exact ⟨by omega, rfl⟩ | (simp; done) | (simp; omega)) | (intros; trivial))); (try (simp only [nc] at *)); (try simp (disch := (first | omega | (simp only [lnS, List.length_append, List.length_map, List.length_range, List.length_replicate]; omega))) only [nc, nct, w64_of, Int.toNat_natCast, Int.toNat_zero, List.length_map, rdS, at_agg, bofZ, bof1, bof0, List.getD_cons_zero, List.getD_cons_succ]); (try cbv))
      | fail
    )
    · refine E.loopS (ι := Nat) (fun b => b ≤ (nG g)) (fun b => (nG g) - b) (fun b => [(8, .i fun _ => ((b : Nat) : Int)), (6, .sl 2 (G (L a b)) 2 (fun _ => 0) fun _ => (L a b).length)]) (fun b h => h.set 2 (.run (G (L a b)) 2 fun _ => ps (L a b))) 0 (fun _ => by first | rfl | simp) (Nat.zero_le _) ?_ fun b hb I2 hI2 => ?_
      · cbv; simp
      cbv
      have c2 := c1 a b
      have d1 := lL a b ha hb
      have hsb := lS a b
      have hle := lE a
      skip
      repeat' (first
        | (refine hJ (a + 1) ?_ ?_ ?_; rotate_left 1; (· ((try simp only [nc] at *); omega)); (cbv; clear hJ; (try clear hF); (try simp only [nc] at *); (try simp (disch := (first | omega | (simp only [lnS, List.length_append, List.length_map, List.length_range, List.length_replicate]; omega))) only [nc, nct, w64_of, Int.toNat_natCast, Int.toNat_zero, List.length_map, rdS, at_agg, bofZ, bof1, bof0, List.getD_cons_zero, List.getD_cons_succ, implies_true, and_true, true_and, forall_const])); rotate_left 1; (try ((try simp only [nc] at *); omega)))
        | (refine hI2 (b + 1) ?_ ?_ ?_; rotate_left 1; (· ((try simp only [nc] at *); omega)); (cbv; clear hI2; (try clear hF); (try simp only [nc] at *); (try simp (disch := (first | omega | (simp only [lnS, List.length_append, List.length_map, List.length_range, List.length_replicate]; omega))) only [nc, nct, w64_of, Int.toNat_natCast, Int.toNat_zero, List.length_map, rdS, at_agg, bofZ, bof1, bof0, List.getD_cons_zero, List.getD_cons_succ, implies_true, and_true, true_and, forall_const])); rotate_left 1; (try ((try simp only [nc] at *); omega)))
        | (refine E.c (SCalls.of_le (c2 (by ((try simp only [nc] at *); omega)) (by ((try simp only [nc] at *); omega))) ?_ ?_); (· (cbv; (try simp only [nc] at *); first | done | (simp; done) | (simp (disch := (first | omega | (simp only [lnS, List.length_append, List.length_map, List.length_range, List.length_replicate]; omega))) only [nc, nct, w64_of, Int.toNat_natCast, Int.toNat_zero, List.length_map, rdS, at_agg, bofZ, bof1, bof0, List.getD_cons_zero, List.getD_cons_succ, implies_true, and_true, true_and, forall_const]; first | done | omega | (refine ⟨?_, ?_⟩ <;> omega)) | (simp (disch := (first | omega | (simp only [lnS, List.length_append, List.length_map, List.length_range, List.length_replicate]; omega))) [nc, nct, w64_of, Int.toNat_natCast, Int.toNat_zero, List.length_map, rdS, at_agg, bofZ, bof1, bof0, List.getD_cons_zero, List.getD_cons_succ]; done))); cbv)
        | (refine ⟨fun _ h_s => ?_, fun _ h_s => ?_⟩ <;> (cbv; (try simp only [nc] at *); try simp (disch := (first | omega | (simp only [lnS, List.length_append, List.length_map, List.length_range, List.length_replicate]; omega))) only [nc, nct, w64_of, Int.toNat_natCast, Int.toNat_zero, List.length_map, rdS, at_agg, bofZ, bof1, bof0, List.getD_cons_zero, List.getD_cons_succ, reduceCtorEq, Bool.not_true, Bool.not_false, decide_eq_true_eq, decide_eq_false_iff_not, Bool.not_eq_true, Bool.not_eq_false, Bool.not_eq_true', Bool.not_eq_false', ne_eq, Decidable.not_not, Int.not_le, Int.not_lt, beq_iff_eq] at h_s))
        | (refine hF ?_; intro _; clear hF)
        | (refine hF ?_; cbv; clear hF)
        | (refine ⟨fun _ => ?_, ?_⟩; (· ((try simp only [nc] at *); first | done | omega | exact ⟨by omega, rfl⟩ | (simp (disch := (first | omega | (simp only [lnS, List.length_append, List.length_map, List.length_range, List.length_replicate]; omega))) only [nc, nct, w64_of, Int.toNat_natCast, Int.toNat_zero, List.length_map, rdS, at_agg, bofZ, bof1, bof0, List.getD_cons_zero, List.getD_cons_succ]; first | done | omega | rfl | exact ⟨by omega, rfl⟩ | (simp; done) | (simp; omega)) | (intros; trivial) | exact ⟨by first | trivial | rfl, by first | trivial | rfl | simp, by first | trivial | simp, by simp; omega, by simp; omega, by simp [AV.flat, AV.cells, AV.one]⟩)); (try (simp only [nc] at *)); (try simp (disch := (first | omega | (simp only [lnS, List.length_append, List.length_map, List.length_range, List.length_replicate]; omega))) only [nc, nct, w64_of, Int.toNat_natCast, Int.toNat_zero, List.length_map, rdS, at_agg, bofZ, bof1, bof0, List.getD_cons_zero, List.getD_cons_succ]); (try cbv))
        | fail
      )
      all_goals clear c1 c2 kl kg ks o1 o2 o3 p1 p2 p3 kO
      · rw [if_pos (by assumption)] at hsb
        simp [hG, hsb, ps, setAll]
      · rw [if_neg (by simp_all)] at hsb
        simp [hG, hsb]
      · have e : b = nG g := by omega
        subst e
        rw [hle]
        exact ⟨⟨by push_cast; rfl, rfl, rfl⟩, rfl, rfl⟩
    · have ea : a = nG g := by ((try simp only [nc] at *); omega)
      subst ea
      refine hI ?_
      cbv
      clear hI hJ
      simp only [List.drop_zero, nc]
      simp
      exact List.take_of_length_le (by simp)
  · cbv
    repeat' (first
      | (refine E.c (SCalls.of_le (p3) ?_ ?_); (· (cbv; (try simp only [nc] at *); first | done | (simp; done) | (simp (disch := (first | omega | (simp only [lnS, List.length_append, List.length_map, List.length_range, List.length_replicate]; omega))) only [nc, nct, w64_of, Int.toNat_natCast, Int.toNat_zero, List.length_map, rdS, at_agg, bofZ, bof1, bof0, List.getD_cons_zero, List.getD_cons_succ, implies_true, and_true, true_and, forall_const]; first | done | omega | (refine ⟨?_, ?_⟩ <;> omega)) | (simp (disch := (first | omega | (simp only [lnS, List.length_append, List.length_map, List.length_range, List.length_replicate]; omega))) [nc, nct, w64_of, Int.toNat_natCast, Int.toNat_zero, List.length_map, rdS, at_agg, bofZ, bof1, bof0, List.getD_cons_zero, List.getD_cons_succ]; done))); cbv)
      | (refine E.c (SCalls.of_le (p2) ?_ ?_); (· (cbv; (try simp only [nc] at *); first | done | (simp; done) | (simp (disch := (first | omega | (simp only [lnS, List.length_append, List.length_map, List.length_range, List.length_replicate]; omega))) only [nc, nct, w64_of, Int.toNat_natCast, Int.toNat_zero, List.length_map, rdS, at_agg, bofZ, bof1, bof0, List.getD_cons_zero, List.getD_cons_succ, implies_true, and_true, true_and, forall_const]; first | done | omega | (refine ⟨?_, ?_⟩ <;> omega)) | (simp (disch := (first | omega | (simp only [lnS, List.length_append, List.length_map, List.length_range, List.length_replicate]; omega))) [nc, nct, w64_of, Int.toNat_natCast, Int.toNat_zero, List.length_map, rdS, at_agg, bofZ, bof1, bof0, List.getD_cons_zero, List.getD_cons_succ]; done))); cbv)
      | (refine E.c (SCalls.of_le (p1) ?_ ?_); (· (cbv; (try simp only [nc] at *); first | done | (simp; done) | (simp (disch := (first | omega | (simp only [lnS, List.length_append, List.length_map, List.length_range, List.length_replicate]; omega))) only [nc, nct, w64_of, Int.toNat_natCast, Int.toNat_zero, List.length_map, rdS, at_agg, bofZ, bof1, bof0, List.getD_cons_zero, List.getD_cons_succ, implies_true, and_true, true_and, forall_const]; first | done | omega | (refine ⟨?_, ?_⟩ <;> omega)) | (simp (disch := (first | omega | (simp only [lnS, List.length_append, List.length_map, List.length_range, List.length_replicate]; omega))) [nc, nct, w64_of, Int.toNat_natCast, Int.toNat_zero, List.length_map, rdS, at_agg, bofZ, bof1, bof0, List.getD_cons_zero, List.getD_cons_succ]; done))); cbv)
      | (refine E.c (SCalls.of_bare (o3) rfl ?_ ?_); (· (cbv; simp [rls, ps, us, is, LV.of]; done)); cbv)
      | (refine E.c (SCalls.of_le (o3) ?_ ?_); (· (cbv; simp [rls, ps, us, is, LV.of]; done)); cbv)
      | (refine E.q (QCalls.of_le (o3) ?_ ?_); (· (cbv; simp [rls, ps, us, is, LV.of]; done)); cbv)
      | (refine E.c (SCalls.of_bare (o2) rfl ?_ ?_); (· (cbv; simp [rls, ps, us, is, LV.of]; done)); cbv)
      | (refine E.c (SCalls.of_le (o2) ?_ ?_); (· (cbv; simp [rls, ps, us, is, LV.of]; done)); cbv)
      | (refine E.q (QCalls.of_le (o2) ?_ ?_); (· (cbv; simp [rls, ps, us, is, LV.of]; done)); cbv)
      | (refine E.c (SCalls.of_bare (o1) rfl ?_ ?_); (· (cbv; simp [rls, ps, us, is, LV.of]; done)); cbv)
      | (refine E.c (SCalls.of_le (o1) ?_ ?_); (· (cbv; simp [rls, ps, us, is, LV.of]; done)); cbv)
      | (refine E.q (QCalls.of_le (o1) ?_ ?_); (· (cbv; simp [rls, ps, us, is, LV.of]; done)); cbv)
      | (refine E.c (SCalls.of_le (kO) ?_ ?_); (· (cbv; (try simp only [nc] at *); first | done | (simp; done) | (simp (disch := (first | omega | (simp only [lnS, List.length_append, List.length_map, List.length_range, List.length_replicate]; omega))) only [nc, nct, w64_of, Int.toNat_natCast, Int.toNat_zero, List.length_map, rdS, at_agg, bofZ, bof1, bof0, List.getD_cons_zero, List.getD_cons_succ, implies_true, and_true, true_and, forall_const]; first | done | omega | (refine ⟨?_, ?_⟩ <;> omega)) | (simp (disch := (first | omega | (simp only [lnS, List.length_append, List.length_map, List.length_range, List.length_replicate]; omega))) [nc, nct, w64_of, Int.toNat_natCast, Int.toNat_zero, List.length_map, rdS, at_agg, bofZ, bof1, bof0, List.getD_cons_zero, List.getD_cons_succ]; done))); cbv)
      | (refine E.c (SCalls.of_le (ks) ?_ ?_); (· (cbv; (try simp only [nc] at *); first | done | (simp; done) | (simp (disch := (first | omega | (simp only [lnS, List.length_append, List.length_map, List.length_range, List.length_replicate]; omega))) only [nc, nct, w64_of, Int.toNat_natCast, Int.toNat_zero, List.length_map, rdS, at_agg, bofZ, bof1, bof0, List.getD_cons_zero, List.getD_cons_succ, implies_true, and_true, true_and, forall_const]; first | done | omega | (refine ⟨?_, ?_⟩ <;> omega)) | (simp (disch := (first | omega | (simp only [lnS, List.length_append, List.length_map, List.length_range, List.length_replicate]; omega))) [nc, nct, w64_of, Int.toNat_natCast, Int.toNat_zero, List.length_map, rdS, at_agg, bofZ, bof1, bof0, List.getD_cons_zero, List.getD_cons_succ]; done))); cbv)
      | (refine E.c (SCalls.of_le (kg) ?_ ?_); (· (cbv; (try simp only [nc] at *); first | done | (simp; done) | (simp (disch := (first | omega | (simp only [lnS, List.length_append, List.length_map, List.length_range, List.length_replicate]; omega))) only [nc, nct, w64_of, Int.toNat_natCast, Int.toNat_zero, List.length_map, rdS, at_agg, bofZ, bof1, bof0, List.getD_cons_zero, List.getD_cons_succ, implies_true, and_true, true_and, forall_const]; first | done | omega | (refine ⟨?_, ?_⟩ <;> omega)) | (simp (disch := (first | omega | (simp only [lnS, List.length_append, List.length_map, List.length_range, List.length_replicate]; omega))) [nc, nct, w64_of, Int.toNat_natCast, Int.toNat_zero, List.length_map, rdS, at_agg, bofZ, bof1, bof0, List.getD_cons_zero, List.getD_cons_succ]; done))); cbv)
      | (refine ⟨fun _ h_s => ?_, fun _ h_s => ?_⟩ <;> (cbv; (try simp only [nc] at *); try simp (disch := (first | omega | (simp only [lnS, List.length_append, List.length_map, List.length_range, List.length_replicate]; omega))) only [nc, nct, w64_of, Int.toNat_natCast, Int.toNat_zero, List.length_map, rdS, at_agg, bofZ, bof1, bof0, List.getD_cons_zero, List.getD_cons_succ, reduceCtorEq, Bool.not_true, Bool.not_false, decide_eq_true_eq, decide_eq_false_iff_not, Bool.not_eq_true, Bool.not_eq_false, Bool.not_eq_true', Bool.not_eq_false', ne_eq, Decidable.not_not, Int.not_le, Int.not_lt, beq_iff_eq] at h_s))
      | (refine hF ?_; intro _; clear hF)
      | (refine hF ?_; cbv; clear hF)
      | (refine ⟨fun _ => ?_, ?_⟩; (· ((try simp only [nc] at *); first | done | omega | exact ⟨by omega, rfl⟩ | (simp (disch := (first | omega | (simp only [lnS, List.length_append, List.length_map, List.length_range, List.length_replicate]; omega))) only [nc, nct, w64_of, Int.toNat_natCast, Int.toNat_zero, List.length_map, rdS, at_agg, bofZ, bof1, bof0, List.getD_cons_zero, List.getD_cons_succ]; first | done | omega | rfl | exact ⟨by omega, rfl⟩ | (simp; done) | (simp; omega)) | (intros; trivial) | exact ⟨by first | trivial | rfl, by first | trivial | rfl | simp, by first | trivial | simp, by simp; omega, by simp; omega, by simp [AV.flat, AV.cells, AV.one]⟩)); (try (simp only [nc] at *)); (try simp (disch := (first | omega | (simp only [lnS, List.length_append, List.length_map, List.length_range, List.length_replicate]; omega))) only [nc, nct, w64_of, Int.toNat_natCast, Int.toNat_zero, List.length_map, rdS, at_agg, bofZ, bof1, bof0, List.getD_cons_zero, List.getD_cons_succ]); (try cbv))
      | fail
    )
    simp
theorem w15All_no (g : Gr) (hg : Rd g) (h : ¬ GOk g) : Pure Try.prog γ false 7 [aGr g] (.tup [aDer 0 [] [] [] [] [] [] [] [] [], .i fun _ => 2]) := by
  have kl := look15_no (γ := γ) g hg h
  refine Pure.go (ty := ty) ty_eq mo Try.func7 rfl Try.ntmps7 Try.results7 Try.call7 (by simp) fun P C CQ D W F E hF => ?_
  cbv
  repeat' (first
    | (refine E.c (SCalls.of_le (kl) ?_ ?_); (· (cbv; (try simp only [nc] at *); first | done | (simp; done) | (simp (disch := (first | omega | (simp only [lnS, List.length_append, List.length_map, List.length_range, List.length_replicate]; omega))) only [nc, nct, w64_of, Int.toNat_natCast, Int.toNat_zero, List.length_map, rdS, at_agg, bofZ, bof1, bof0, List.getD_cons_zero, List.getD_cons_succ, implies_true, and_true, true_and, forall_const]; first | done | omega | (refine ⟨?_, ?_⟩ <;> omega)) | (simp (disch := (first | omega | (simp only [lnS, List.length_append, List.length_map, List.length_range, List.length_replicate]; omega))) [nc, nct, w64_of, Int.toNat_natCast, Int.toNat_zero, List.length_map, rdS, at_agg, bofZ, bof1, bof0, List.getD_cons_zero, List.getD_cons_succ]; done))); cbv)
    | (refine ⟨fun _ h_s => ?_, fun _ h_s => ?_⟩ <;> (cbv; (try simp only [nc] at *); try simp (disch := (first | omega | (simp only [lnS, List.length_append, List.length_map, List.length_range, List.length_replicate]; omega))) only [nc, nct, w64_of, Int.toNat_natCast, Int.toNat_zero, List.length_map, rdS, at_agg, bofZ, bof1, bof0, List.getD_cons_zero, List.getD_cons_succ, reduceCtorEq, Bool.not_true, Bool.not_false, decide_eq_true_eq, decide_eq_false_iff_not, Bool.not_eq_true, Bool.not_eq_false, Bool.not_eq_true', Bool.not_eq_false', ne_eq, Decidable.not_not, Int.not_le, Int.not_lt, beq_iff_eq] at h_s))
    | (refine hF ?_; intro _; clear hF)
    | (refine hF ?_; cbv; clear hF)
    | (refine ⟨fun _ => ?_, ?_⟩; (· ((try simp only [nc] at *); first | done | omega | exact ⟨by omega, rfl⟩ | (simp (disch := (first | omega | (simp only [lnS, List.length_append, List.length_map, List.length_range, List.length_replicate]; omega))) only [nc, nct, w64_of, Int.toNat_natCast, Int.toNat_zero, List.length_map, rdS, at_agg, bofZ, bof1, bof0, List.getD_cons_zero, List.getD_cons_succ]; first | done | omega | rfl | exact ⟨by omega, rfl⟩ | (simp; done) | (simp; omega)) | (intros; trivial) | exact ⟨by first | trivial | rfl, by first | trivial | rfl | simp, by first | trivial | simp, by simp; omega, by simp; omega, by simp [AV.flat, AV.cells, AV.one]⟩)); (try (simp only [nc] at *)); (try simp (disch := (first | omega | (simp only [lnS, List.length_append, List.length_map, List.length_range, List.length_replicate]; omega))) only [nc, nct, w64_of, Int.toNat_natCast, Int.toNat_zero, List.length_map, rdS, at_agg, bofZ, bof1, bof0, List.getD_cons_zero, List.getD_cons_succ]); (try cbv))
    | fail
  )
  all_goals (try simp only [nc] at *)
  all_goals (try simp (disch := (first | omega | (simp only [lnS, List.length_append, List.length_map, List.length_range, List.length_replicate]; omega))) only [nc, nct, w64_of, Int.toNat_natCast, Int.toNat_zero, List.length_map, rdS, at_agg, bofZ, bof1, bof0, List.getD_cons_zero, List.getD_cons_succ])
  all_goals simp [us, LV.of, LV.l]
theorem w15All_ok (g : Gr) (hg : Rd g) : Pure Try.prog γ false 7 [aGr g] (.tup [aDer (NG g) (rowsG g poF) (rowsG g rfF) (rowsG g coF) (rowsG g frF) (rowsG g ecoF) (rowsG g porfF) (rowsG g locF) (rowsG g swF) (rowsG g hbF), .i fun _ => if GOk g then 0 else 2]) := by
  by_cases h : GOk g
  · have := w15All_yes (γ := γ) g hg h
    unfold NG rowsG
    simpa only [if_pos h] using this
  · have := w15All_no (γ := γ) g hg h
    unfold NG rowsG
    simpa only [if_neg h] using this
theorem same15_ok (n : Int) (a b c d e f u v w : List (BitVec 64)) (la : a.length ≤ 64) (lb : b.length ≤ 64) (lc : c.length ≤ 64) (ld : d.length ≤ 64) (le : e.length ≤ 64) (lf : f.length ≤ 64) (lu : u.length ≤ 64) (lv : v.length ≤ 64) (lw : w.length ≤ 64) :
    Pure Try.prog γ false 8 [aDer n a b c d e f u v w, aDer n a b c d e f u v w] (.b fun _ => true) := by
  have k : ∀ r : List (BitVec 64), r.length ≤ 64 → Pure Try.prog γ false 19 [encRel n r, encRel n r] (.b fun _ => true) := fun r hr => by
    have := kitRel_ok (γ := γ) n n r r (by omega)
    simpa using this
  have k1 := k a la
  have k2 := k b lb
  have k3 := k c lc
  have k4 := k d ld
  have k5 := k e le
  have k6 := k f lf
  have k7 := k u lu
  have k8 := k v lv
  have k9 := k w lw
  clear k
  refine Pure.go (ty := ty) ty_eq mo Try.func8 rfl Try.ntmps8 Try.results8 Try.call8 (by simp) fun P C CQ D W F E hF => ?_
  cbv
  repeat' (first
    | (refine E.c (SCalls.of_le (k9) ?_ ?_); (· (cbv; (try simp only [nc] at *); first | done | (simp; done) | (simp (disch := (first | omega | (simp only [lnS, List.length_append, List.length_map, List.length_range, List.length_replicate]; omega))) only [nc, nct, w64_of, Int.toNat_natCast, Int.toNat_zero, List.length_map, rdS, at_agg, bofZ, bof1, bof0, List.getD_cons_zero, List.getD_cons_succ, implies_true, and_true, true_and, forall_const]; first | done | omega | (refine ⟨?_, ?_⟩ <;> omega)) | (simp (disch := (first | omega | (simp only [lnS, List.length_append, List.length_map, List.length_range, List.length_replicate]; omega))) [nc, nct, w64_of, Int.toNat_natCast, Int.toNat_zero, List.length_map, rdS, at_agg, bofZ, bof1, bof0, List.getD_cons_zero, List.getD_cons_succ]; done))); cbv)
    | (refine E.q (QCalls.of_le (k9) ?_ ?_); (· (cbv; (try simp only [nc] at *); first | done | (simp; done) | (simp (disch := (first | omega | (simp only [lnS, List.length_append, List.length_map, List.length_range, List.length_replicate]; omega))) only [nc, nct, w64_of, Int.toNat_natCast, Int.toNat_zero, List.length_map, rdS, at_agg, bofZ, bof1, bof0, List.getD_cons_zero, List.getD_cons_succ, implies_true, and_true, true_and, forall_const]; first | done | omega | (refine ⟨?_, ?_⟩ <;> omega)) | (simp (disch := (first | omega | (simp only [lnS, List.length_append, List.length_map, List.length_range, List.length_replicate]; omega))) [nc, nct, w64_of, Int.toNat_natCast, Int.toNat_zero, List.length_map, rdS, at_agg, bofZ, bof1, bof0, List.getD_cons_zero, List.getD_cons_succ]; done))); cbv)
    | (refine E.c (SCalls.of_le (k8) ?_ ?_); (· (cbv; (try simp only [nc] at *); first | done | (simp; done) | (simp (disch := (first | omega | (simp only [lnS, List.length_append, List.length_map, List.length_range, List.length_replicate]; omega))) only [nc, nct, w64_of, Int.toNat_natCast, Int.toNat_zero, List.length_map, rdS, at_agg, bofZ, bof1, bof0, List.getD_cons_zero, List.getD_cons_succ, implies_true, and_true, true_and, forall_const]; first | done | omega | (refine ⟨?_, ?_⟩ <;> omega)) | (simp (disch := (first | omega | (simp only [lnS, List.length_append, List.length_map, List.length_range, List.length_replicate]; omega))) [nc, nct, w64_of, Int.toNat_natCast, Int.toNat_zero, List.length_map, rdS, at_agg, bofZ, bof1, bof0, List.getD_cons_zero, List.getD_cons_succ]; done))); cbv)
    | (refine E.q (QCalls.of_le (k8) ?_ ?_); (· (cbv; (try simp only [nc] at *); first | done | (simp; done) | (simp (disch := (first | omega | (simp only [lnS, List.length_append, List.length_map, List.length_range, List.length_replicate]; omega))) only [nc, nct, w64_of, Int.toNat_natCast, Int.toNat_zero, List.length_map, rdS, at_agg, bofZ, bof1, bof0, List.getD_cons_zero, List.getD_cons_succ, implies_true, and_true, true_and, forall_const]; first | done | omega | (refine ⟨?_, ?_⟩ <;> omega)) | (simp (disch := (first | omega | (simp only [lnS, List.length_append, List.length_map, List.length_range, List.length_replicate]; omega))) [nc, nct, w64_of, Int.toNat_natCast, Int.toNat_zero, List.length_map, rdS, at_agg, bofZ, bof1, bof0, List.getD_cons_zero, List.getD_cons_succ]; done))); cbv)
    | (refine E.c (SCalls.of_le (k7) ?_ ?_); (· (cbv; (try simp only [nc] at *); first | done | (simp; done) | (simp (disch := (first | omega | (simp only [lnS, List.length_append, List.length_map, List.length_range, List.length_replicate]; omega))) only [nc, nct, w64_of, Int.toNat_natCast, Int.toNat_zero, List.length_map, rdS, at_agg, bofZ, bof1, bof0, List.getD_cons_zero, List.getD_cons_succ, implies_true, and_true, true_and, forall_const]; first | done | omega | (refine ⟨?_, ?_⟩ <;> omega)) | (simp (disch := (first | omega | (simp only [lnS, List.length_append, List.length_map, List.length_range, List.length_replicate]; omega))) [nc, nct, w64_of, Int.toNat_natCast, Int.toNat_zero, List.length_map, rdS, at_agg, bofZ, bof1, bof0, List.getD_cons_zero, List.getD_cons_succ]; done))); cbv)
    | (refine E.q (QCalls.of_le (k7) ?_ ?_); (· (cbv; (try simp only [nc] at *); first | done | (simp; done) | (simp (disch := (first | omega | (simp only [lnS, List.length_append, List.length_map, List.length_range, List.length_replicate]; omega))) only [nc, nct, w64_of, Int.toNat_natCast, Int.toNat_zero, List.length_map, rdS, at_agg, bofZ, bof1, bof0, List.getD_cons_zero, List.getD_cons_succ, implies_true, and_true, true_and, forall_const]; first | done | omega | (refine ⟨?_, ?_⟩ <;> omega)) | (simp (disch := (first | omega | (simp only [lnS, List.length_append, List.length_map, List.length_range, List.length_replicate]; omega))) [nc, nct, w64_of, Int.toNat_natCast, Int.toNat_zero, List.length_map, rdS, at_agg, bofZ, bof1, bof0, List.getD_cons_zero, List.getD_cons_succ]; done))); cbv)
    | (refine E.c (SCalls.of_le (k6) ?_ ?_); (· (cbv; (try simp only [nc] at *); first | done | (simp; done) | (simp (disch := (first | omega | (simp only [lnS, List.length_append, List.length_map, List.length_range, List.length_replicate]; omega))) only [nc, nct, w64_of, Int.toNat_natCast, Int.toNat_zero, List.length_map, rdS, at_agg, bofZ, bof1, bof0, List.getD_cons_zero, List.getD_cons_succ, implies_true, and_true, true_and, forall_const]; first | done | omega | (refine ⟨?_, ?_⟩ <;> omega)) | (simp (disch := (first | omega | (simp only [lnS, List.length_append, List.length_map, List.length_range, List.length_replicate]; omega))) [nc, nct, w64_of, Int.toNat_natCast, Int.toNat_zero, List.length_map, rdS, at_agg, bofZ, bof1, bof0, List.getD_cons_zero, List.getD_cons_succ]; done))); cbv)
    | (refine E.q (QCalls.of_le (k6) ?_ ?_); (· (cbv; (try simp only [nc] at *); first | done | (simp; done) | (simp (disch := (first | omega | (simp only [lnS, List.length_append, List.length_map, List.length_range, List.length_replicate]; omega))) only [nc, nct, w64_of, Int.toNat_natCast, Int.toNat_zero, List.length_map, rdS, at_agg, bofZ, bof1, bof0, List.getD_cons_zero, List.getD_cons_succ, implies_true, and_true, true_and, forall_const]; first | done | omega | (refine ⟨?_, ?_⟩ <;> omega)) | (simp (disch := (first | omega | (simp only [lnS, List.length_append, List.length_map, List.length_range, List.length_replicate]; omega))) [nc, nct, w64_of, Int.toNat_natCast, Int.toNat_zero, List.length_map, rdS, at_agg, bofZ, bof1, bof0, List.getD_cons_zero, List.getD_cons_succ]; done))); cbv)
    | (refine E.c (SCalls.of_le (k5) ?_ ?_); (· (cbv; (try simp only [nc] at *); first | done | (simp; done) | (simp (disch := (first | omega | (simp only [lnS, List.length_append, List.length_map, List.length_range, List.length_replicate]; omega))) only [nc, nct, w64_of, Int.toNat_natCast, Int.toNat_zero, List.length_map, rdS, at_agg, bofZ, bof1, bof0, List.getD_cons_zero, List.getD_cons_succ, implies_true, and_true, true_and, forall_const]; first | done | omega | (refine ⟨?_, ?_⟩ <;> omega)) | (simp (disch := (first | omega | (simp only [lnS, List.length_append, List.length_map, List.length_range, List.length_replicate]; omega))) [nc, nct, w64_of, Int.toNat_natCast, Int.toNat_zero, List.length_map, rdS, at_agg, bofZ, bof1, bof0, List.getD_cons_zero, List.getD_cons_succ]; done))); cbv)
    | (refine E.q (QCalls.of_le (k5) ?_ ?_); (· (cbv; (try simp only [nc] at *); first | done | (simp; done) | (simp (disch := (first | omega | (simp only [lnS, List.length_append, List.length_map, List.length_range, List.length_replicate]; omega))) only [nc, nct, w64_of, Int.toNat_natCast, Int.toNat_zero, List.length_map, rdS, at_agg, bofZ, bof1, bof0, List.getD_cons_zero, List.getD_cons_succ, implies_true, and_true, true_and, forall_const]; first | done | omega | (refine ⟨?_, ?_⟩ <;> omega)) | (simp (disch := (first | omega | (simp only [lnS, List.length_append, List.length_map, List.length_range, List.length_replicate]; omega))) [nc, nct, w64_of, Int.toNat_natCast, Int.toNat_zero, List.length_map, rdS, at_agg, bofZ, bof1, bof0, List.getD_cons_zero, List.getD_cons_succ]; done))); cbv)
    | (refine E.c (SCalls.of_le (k4) ?_ ?_); (· (cbv; (try simp only [nc] at *); first | done | (simp; done) | (simp (disch := (first | omega | (simp only [lnS, List.length_append, List.length_map, List.length_range, List.length_replicate]; omega))) only [nc, nct, w64_of, Int.toNat_natCast, Int.toNat_zero, List.length_map, rdS, at_agg, bofZ, bof1, bof0, List.getD_cons_zero, List.getD_cons_succ, implies_true, and_true, true_and, forall_const]; first | done | omega | (refine ⟨?_, ?_⟩ <;> omega)) | (simp (disch := (first | omega | (simp only [lnS, List.length_append, List.length_map, List.length_range, List.length_replicate]; omega))) [nc, nct, w64_of, Int.toNat_natCast, Int.toNat_zero, List.length_map, rdS, at_agg, bofZ, bof1, bof0, List.getD_cons_zero, List.getD_cons_succ]; done))); cbv)
    | (refine E.q (QCalls.of_le (k4) ?_ ?_); (· (cbv; (try simp only [nc] at *); first | done | (simp; done) | (simp (disch := (first | omega | (simp only [lnS, List.length_append, List.length_map, List.length_range, List.length_replicate]; omega))) only [nc, nct, w64_of, Int.toNat_natCast, Int.toNat_zero, List.length_map, rdS, at_agg, bofZ, bof1, bof0, List.getD_cons_zero, List.getD_cons_succ, implies_true, and_true, true_and, forall_const]; first | done | omega | (refine ⟨?_, ?_⟩ <;> omega)) | (simp (disch := (first | omega | (simp only [lnS, List.length_append, List.length_map, List.length_range, List.length_replicate]; omega))) [nc, nct, w64_of, Int.toNat_natCast, Int.toNat_zero, List.length_map, rdS, at_agg, bofZ, bof1, bof0, List.getD_cons_zero, List.getD_cons_succ]; done))); cbv)
    | (refine E.c (SCalls.of_le (k3) ?_ ?_); (· (cbv; (try simp only [nc] at *); first | done | (simp; done) | (simp (disch := (first | omega | (simp only [lnS, List.length_append, List.length_map, List.length_range, List.length_replicate]; omega))) only [nc, nct, w64_of, Int.toNat_natCast, Int.toNat_zero, List.length_map, rdS, at_agg, bofZ, bof1, bof0, List.getD_cons_zero, List.getD_cons_succ, implies_true, and_true, true_and, forall_const]; first | done | omega | (refine ⟨?_, ?_⟩ <;> omega)) | (simp (disch := (first | omega | (simp only [lnS, List.length_append, List.length_map, List.length_range, List.length_replicate]; omega))) [nc, nct, w64_of, Int.toNat_natCast, Int.toNat_zero, List.length_map, rdS, at_agg, bofZ, bof1, bof0, List.getD_cons_zero, List.getD_cons_succ]; done))); cbv)
    | (refine E.q (QCalls.of_le (k3) ?_ ?_); (· (cbv; (try simp only [nc] at *); first | done | (simp; done) | (simp (disch := (first | omega | (simp only [lnS, List.length_append, List.length_map, List.length_range, List.length_replicate]; omega))) only [nc, nct, w64_of, Int.toNat_natCast, Int.toNat_zero, List.length_map, rdS, at_agg, bofZ, bof1, bof0, List.getD_cons_zero, List.getD_cons_succ, implies_true, and_true, true_and, forall_const]; first | done | omega | (refine ⟨?_, ?_⟩ <;> omega)) | (simp (disch := (first | omega | (simp only [lnS, List.length_append, List.length_map, List.length_range, List.length_replicate]; omega))) [nc, nct, w64_of, Int.toNat_natCast, Int.toNat_zero, List.length_map, rdS, at_agg, bofZ, bof1, bof0, List.getD_cons_zero, List.getD_cons_succ]; done))); cbv)
    | (refine E.c (SCalls.of_le (k2) ?_ ?_); (· (cbv; (try simp only [nc] at *); first | done | (simp; done) | (simp (disch := (first | omega | (simp only [lnS, List.length_append, List.length_map, List.length_range, List.length_replicate]; omega))) only [nc, nct, w64_of, Int.toNat_natCast, Int.toNat_zero, List.length_map, rdS, at_agg, bofZ, bof1, bof0, List.getD_cons_zero, List.getD_cons_succ, implies_true, and_true, true_and, forall_const]; first | done | omega | (refine ⟨?_, ?_⟩ <;> omega)) | (simp (disch := (first | omega | (simp only [lnS, List.length_append, List.length_map, List.length_range, List.length_replicate]; omega))) [nc, nct, w64_of, Int.toNat_natCast, Int.toNat_zero, List.length_map, rdS, at_agg, bofZ, bof1, bof0, List.getD_cons_zero, List.getD_cons_succ]; done))); cbv)
    | (refine E.q (QCalls.of_le (k2) ?_ ?_); (· (cbv; (try simp only [nc] at *); first | done | (simp; done) | (simp (disch := (first | omega | (simp only [lnS, List.length_append, List.length_map, List.length_range, List.length_replicate]; omega))) only [nc, nct, w64_of, Int.toNat_natCast, Int.toNat_zero, List.length_map, rdS, at_agg, bofZ, bof1, bof0, List.getD_cons_zero, List.getD_cons_succ, implies_true, and_true, true_and, forall_const]; first | done | omega | (refine ⟨?_, ?_⟩ <;> omega)) | (simp (disch := (first | omega | (simp only [lnS, List.length_append, List.length_map, List.length_range, List.length_replicate]; omega))) [nc, nct, w64_of, Int.toNat_natCast, Int.toNat_zero, List.length_map, rdS, at_agg, bofZ, bof1, bof0, List.getD_cons_zero, List.getD_cons_succ]; done))); cbv)
    | (refine E.c (SCalls.of_le (k1) ?_ ?_); (· (cbv; (try simp only [nc] at *); first | done | (simp; done) | (simp (disch := (first | omega | (simp only [lnS, List.length_append, List.length_map, List.length_range, List.length_replicate]; omega))) only [nc, nct, w64_of, Int.toNat_natCast, Int.toNat_zero, List.length_map, rdS, at_agg, bofZ, bof1, bof0, List.getD_cons_zero, List.getD_cons_succ, implies_true, and_true, true_and, forall_const]; first | done | omega | (refine ⟨?_, ?_⟩ <;> omega)) | (simp (disch := (first | omega | (simp only [lnS, List.length_append, List.length_map, List.length_range, List.length_replicate]; omega))) [nc, nct, w64_of, Int.toNat_natCast, Int.toNat_zero, List.length_map, rdS, at_agg, bofZ, bof1, bof0, List.getD_cons_zero, List.getD_cons_succ]; done))); cbv)
    | (refine E.q (QCalls.of_le (k1) ?_ ?_); (· (cbv; (try simp only [nc] at *); first | done | (simp; done) | (simp (disch := (first | omega | (simp only [lnS, List.length_append, List.length_map, List.length_range, List.length_replicate]; omega))) only [nc, nct, w64_of, Int.toNat_natCast, Int.toNat_zero, List.length_map, rdS, at_agg, bofZ, bof1, bof0, List.getD_cons_zero, List.getD_cons_succ, implies_true, and_true, true_and, forall_const]; first | done | omega | (refine ⟨?_, ?_⟩ <;> omega)) | (simp (disch := (first | omega | (simp only [lnS, List.length_append, List.length_map, List.length_range, List.length_replicate]; omega))) [nc, nct, w64_of, Int.toNat_natCast, Int.toNat_zero, List.length_map, rdS, at_agg, bofZ, bof1, bof0, List.getD_cons_zero, List.getD_cons_succ]; done))); cbv)
    | (refine ⟨fun _ h_s => ?_, fun _ h_s => ?_⟩ <;> (cbv; (try simp only [nc] at *); try simp (disch := (first | omega | (simp only [lnS, List.length_append, List.length_map, List.length_range, List.length_replicate]; omega))) only [nc, nct, w64_of, Int.toNat_natCast, Int.toNat_zero, List.length_map, rdS, at_agg, bofZ, bof1, bof0, List.getD_cons_zero, List.getD_cons_succ, reduceCtorEq, Bool.not_true, Bool.not_false, decide_eq_true_eq, decide_eq_false_iff_not, Bool.not_eq_true, Bool.not_eq_false, Bool.not_eq_true', Bool.not_eq_false', ne_eq, Decidable.not_not, Int.not_le, Int.not_lt, beq_iff_eq] at h_s))
    | (refine hF ?_; intro _; clear hF)
    | (refine hF ?_; cbv; clear hF)
    | (refine ⟨fun _ => ?_, ?_⟩; (· ((try simp only [nc] at *); first | done | omega | exact ⟨by omega, rfl⟩ | (simp (disch := (first | omega | (simp only [lnS, List.length_append, List.length_map, List.length_range, List.length_replicate]; omega))) only [nc, nct, w64_of, Int.toNat_natCast, Int.toNat_zero, List.length_map, rdS, at_agg, bofZ, bof1, bof0, List.getD_cons_zero, List.getD_cons_succ]; first | done | omega | rfl | exact ⟨by omega, rfl⟩ | (simp; done) | (simp; omega)) | (intros; trivial) | exact ⟨by first | trivial | rfl, by first | trivial | rfl | simp, by first | trivial | simp, by simp; omega, by simp; omega, by simp [AV.flat, AV.cells, AV.one]⟩)); (try (simp only [nc] at *)); (try simp (disch := (first | omega | (simp only [lnS, List.length_append, List.length_map, List.length_range, List.length_replicate]; omega))) only [nc, nct, w64_of, Int.toNat_natCast, Int.toNat_zero, List.length_map, rdS, at_agg, bofZ, bof1, bof0, List.getD_cons_zero, List.getD_cons_succ]); (try cbv))
    | fail
  )
  all_goals rfl
end Go.AL.Rl

namespace Go.AL.Rl
open Go Go.AL Go.Proofs
set_option maxRecDepth 100000
set_option maxHeartbeats 3200000
variable {γ : Nat → Option AV}

theorem rowsG_len (g : Gr) (F : Vw → Nat → List (BitVec 64)) (hF : ∀ (V : Vw) (n : Nat), n ≤ 62 → Fits (n : Int) (F V n)) : (rowsG g F).length ≤ 64 := by
  unfold rowsG
  by_cases h : GOk g
  · rw [if_pos h]
    have hn := (viewG_wf h).small
    have := (hF (viewG g) (nG g) hn).2.2.1
    omega
  · rw [if_neg h]; simp
theorem deriveCalls_ok (g : Gr) (hg : Rd g) (loc o n : Int) : Pure Try.prog γ false 3 [aGr g, .i fun _ => loc, .i fun _ => o, .i fun _ => n] (.b fun _ => true) := by
  have kL := light_ok (γ := γ) g hg 100 (by omega) (by omega)
  have l1 := rowsG_len g poF fun V n h => fits_poF V h
  have l2 := rowsG_len g rfF fun V n h => fits_rfF V h
  have l3 := rowsG_len g coF fun V n h => fits_coF V h
  have l4 := rowsG_len g frF fun V n h => fits_frF V h
  have l5 := rowsG_len g ecoF fun V n h => fits_plus (by have f2 := fits_rfF V h; have f3 := fits_coF V h; have f4 := fits_frF V h; exact fits_or (by omega) (l := [((n : Int), rfF V n), ((n : Int), coF V n), ((n : Int), frF V n)]) (by simp [f2, f3, f4]))
  have l6 := rowsG_len g porfF fun V n h => fits_plus (fits_or2 (fits_poF V h) (fits_rfF V h))
  have l7 := rowsG_len g locF fun V n h => fits_locF V h
  have l8 := rowsG_len g swF fun V n h => fits_swF V h
  have l9 := rowsG_len g hbF fun V n h => fits_plus (fits_or2 (fits_poF V h) (fits_swF V h))
  have a1 := dAll_ok (γ := γ) g hg
  have a2 := w15All_ok (γ := γ) g hg
  have s1 := same15_ok (γ := γ) (NG g) _ _ _ _ _ _ _ _ _ l1 l2 l3 l4 l5 l6 l7 l8 l9
  have m1 := dReads_ok (γ := γ) g hg
  have m2 := wReads_ok (γ := γ) g hg
  have m3 := dWrites_ok (γ := γ) g hg
  have m4 := wWrites_ok (γ := γ) g hg
  have m5 := dOf_ok (γ := γ) g hg loc
  have m6 := wOf_ok (γ := γ) g hg loc
  have m7 := dLeast_ok (γ := γ) g hg o
  have m8 := wLeast_ok (γ := γ) g hg o
  have m9 := dSequence_ok (γ := γ) g hg n
  have m0 := wSequence_ok (γ := γ) g hg n
  have p1 := dPo_ok (γ := γ) g hg
  have p2 := dRf_ok (γ := γ) g hg
  have p3 := dCo_ok (γ := γ) g hg
  have p4 := dFr_ok (γ := γ) g hg
  have p5 := dSw_ok (γ := γ) g hg
  have p6 := dHb_ok (γ := γ) g hg
  generalize rowsG g poF = r1 at *
  generalize rowsG g rfF = r2 at *
  generalize rowsG g coF = r3 at *
  generalize rowsG g frF = r4 at *
  generalize rowsG g ecoF = r5 at *
  generalize rowsG g porfF = r6 at *
  generalize rowsG g locF = r7 at *
  generalize rowsG g swF = r8 at *
  generalize rowsG g hbF = r9 at *
  generalize NG g = N at *
  generalize maskG g readsF = v1 at *
  generalize maskG g writesF = v2 at *
  generalize maskG g (ofF loc) = v3 at *
  generalize maskG g (leastF o) = v4 at *
  generalize maskG g (sequF n) = v5 at *
  generalize (if GOk g then (0 : Int) else 2) = er at *
  generalize lightM 100 g = lt at *
  have k : ∀ r : List (BitVec 64), r.length ≤ 64 → Pure Try.prog γ false 19 [encRel N r, encRel N r] (.b fun _ => true) := fun r hr => by
    have := kitRel_ok (γ := γ) N N r r (by omega)
    simpa using this
  have k1 := k r1 l1
  have k2 := k r2 l2
  have k3 := k r3 l3
  have k4 := k r4 l4
  have k5 := k r8 l8
  have k6 := k r9 l9
  have kv := lives15_ok (γ := γ)
  clear k
  refine Pure.go (ty := ty) ty_eq mo Try.func3 rfl Try.ntmps3 Try.results3 Try.call3 (by simp) fun P C CQ D W F E hF => ?_
  cbv
  repeat' (first
    | (refine E.c (SCalls.of_le (k6) ?_ ?_); (· (cbv; (try simp only [nc] at *); first | done | (simp; done) | (simp (disch := (first | omega | (simp only [lnS, List.length_append, List.length_map, List.length_range, List.length_replicate]; omega))) only [nc, nct, w64_of, Int.toNat_natCast, Int.toNat_zero, List.length_map, rdS, at_agg, bofZ, bof1, bof0, List.getD_cons_zero, List.getD_cons_succ, implies_true, and_true, true_and, forall_const]; first | done | omega | (refine ⟨?_, ?_⟩ <;> omega)) | (simp (disch := (first | omega | (simp only [lnS, List.length_append, List.length_map, List.length_range, List.length_replicate]; omega))) [nc, nct, w64_of, Int.toNat_natCast, Int.toNat_zero, List.length_map, rdS, at_agg, bofZ, bof1, bof0, List.getD_cons_zero, List.getD_cons_succ]; done))); cbv)
    | (refine E.q (QCalls.of_le (k6) ?_ ?_); (· (cbv; (try simp only [nc] at *); first | done | (simp; done) | (simp (disch := (first | omega | (simp only [lnS, List.length_append, List.length_map, List.length_range, List.length_replicate]; omega))) only [nc, nct, w64_of, Int.toNat_natCast, Int.toNat_zero, List.length_map, rdS, at_agg, bofZ, bof1, bof0, List.getD_cons_zero, List.getD_cons_succ, implies_true, and_true, true_and, forall_const]; first | done | omega | (refine ⟨?_, ?_⟩ <;> omega)) | (simp (disch := (first | omega | (simp only [lnS, List.length_append, List.length_map, List.length_range, List.length_replicate]; omega))) [nc, nct, w64_of, Int.toNat_natCast, Int.toNat_zero, List.length_map, rdS, at_agg, bofZ, bof1, bof0, List.getD_cons_zero, List.getD_cons_succ]; done))); cbv)
    | (refine E.c (SCalls.of_le (k5) ?_ ?_); (· (cbv; (try simp only [nc] at *); first | done | (simp; done) | (simp (disch := (first | omega | (simp only [lnS, List.length_append, List.length_map, List.length_range, List.length_replicate]; omega))) only [nc, nct, w64_of, Int.toNat_natCast, Int.toNat_zero, List.length_map, rdS, at_agg, bofZ, bof1, bof0, List.getD_cons_zero, List.getD_cons_succ, implies_true, and_true, true_and, forall_const]; first | done | omega | (refine ⟨?_, ?_⟩ <;> omega)) | (simp (disch := (first | omega | (simp only [lnS, List.length_append, List.length_map, List.length_range, List.length_replicate]; omega))) [nc, nct, w64_of, Int.toNat_natCast, Int.toNat_zero, List.length_map, rdS, at_agg, bofZ, bof1, bof0, List.getD_cons_zero, List.getD_cons_succ]; done))); cbv)
    | (refine E.q (QCalls.of_le (k5) ?_ ?_); (· (cbv; (try simp only [nc] at *); first | done | (simp; done) | (simp (disch := (first | omega | (simp only [lnS, List.length_append, List.length_map, List.length_range, List.length_replicate]; omega))) only [nc, nct, w64_of, Int.toNat_natCast, Int.toNat_zero, List.length_map, rdS, at_agg, bofZ, bof1, bof0, List.getD_cons_zero, List.getD_cons_succ, implies_true, and_true, true_and, forall_const]; first | done | omega | (refine ⟨?_, ?_⟩ <;> omega)) | (simp (disch := (first | omega | (simp only [lnS, List.length_append, List.length_map, List.length_range, List.length_replicate]; omega))) [nc, nct, w64_of, Int.toNat_natCast, Int.toNat_zero, List.length_map, rdS, at_agg, bofZ, bof1, bof0, List.getD_cons_zero, List.getD_cons_succ]; done))); cbv)
    | (refine E.c (SCalls.of_le (k4) ?_ ?_); (· (cbv; (try simp only [nc] at *); first | done | (simp; done) | (simp (disch := (first | omega | (simp only [lnS, List.length_append, List.length_map, List.length_range, List.length_replicate]; omega))) only [nc, nct, w64_of, Int.toNat_natCast, Int.toNat_zero, List.length_map, rdS, at_agg, bofZ, bof1, bof0, List.getD_cons_zero, List.getD_cons_succ, implies_true, and_true, true_and, forall_const]; first | done | omega | (refine ⟨?_, ?_⟩ <;> omega)) | (simp (disch := (first | omega | (simp only [lnS, List.length_append, List.length_map, List.length_range, List.length_replicate]; omega))) [nc, nct, w64_of, Int.toNat_natCast, Int.toNat_zero, List.length_map, rdS, at_agg, bofZ, bof1, bof0, List.getD_cons_zero, List.getD_cons_succ]; done))); cbv)
    | (refine E.q (QCalls.of_le (k4) ?_ ?_); (· (cbv; (try simp only [nc] at *); first | done | (simp; done) | (simp (disch := (first | omega | (simp only [lnS, List.length_append, List.length_map, List.length_range, List.length_replicate]; omega))) only [nc, nct, w64_of, Int.toNat_natCast, Int.toNat_zero, List.length_map, rdS, at_agg, bofZ, bof1, bof0, List.getD_cons_zero, List.getD_cons_succ, implies_true, and_true, true_and, forall_const]; first | done | omega | (refine ⟨?_, ?_⟩ <;> omega)) | (simp (disch := (first | omega | (simp only [lnS, List.length_append, List.length_map, List.length_range, List.length_replicate]; omega))) [nc, nct, w64_of, Int.toNat_natCast, Int.toNat_zero, List.length_map, rdS, at_agg, bofZ, bof1, bof0, List.getD_cons_zero, List.getD_cons_succ]; done))); cbv)
    | (refine E.c (SCalls.of_le (k3) ?_ ?_); (· (cbv; (try simp only [nc] at *); first | done | (simp; done) | (simp (disch := (first | omega | (simp only [lnS, List.length_append, List.length_map, List.length_range, List.length_replicate]; omega))) only [nc, nct, w64_of, Int.toNat_natCast, Int.toNat_zero, List.length_map, rdS, at_agg, bofZ, bof1, bof0, List.getD_cons_zero, List.getD_cons_succ, implies_true, and_true, true_and, forall_const]; first | done | omega | (refine ⟨?_, ?_⟩ <;> omega)) | (simp (disch := (first | omega | (simp only [lnS, List.length_append, List.length_map, List.length_range, List.length_replicate]; omega))) [nc, nct, w64_of, Int.toNat_natCast, Int.toNat_zero, List.length_map, rdS, at_agg, bofZ, bof1, bof0, List.getD_cons_zero, List.getD_cons_succ]; done))); cbv)
    | (refine E.q (QCalls.of_le (k3) ?_ ?_); (· (cbv; (try simp only [nc] at *); first | done | (simp; done) | (simp (disch := (first | omega | (simp only [lnS, List.length_append, List.length_map, List.length_range, List.length_replicate]; omega))) only [nc, nct, w64_of, Int.toNat_natCast, Int.toNat_zero, List.length_map, rdS, at_agg, bofZ, bof1, bof0, List.getD_cons_zero, List.getD_cons_succ, implies_true, and_true, true_and, forall_const]; first | done | omega | (refine ⟨?_, ?_⟩ <;> omega)) | (simp (disch := (first | omega | (simp only [lnS, List.length_append, List.length_map, List.length_range, List.length_replicate]; omega))) [nc, nct, w64_of, Int.toNat_natCast, Int.toNat_zero, List.length_map, rdS, at_agg, bofZ, bof1, bof0, List.getD_cons_zero, List.getD_cons_succ]; done))); cbv)
    | (refine E.c (SCalls.of_le (k2) ?_ ?_); (· (cbv; (try simp only [nc] at *); first | done | (simp; done) | (simp (disch := (first | omega | (simp only [lnS, List.length_append, List.length_map, List.length_range, List.length_replicate]; omega))) only [nc, nct, w64_of, Int.toNat_natCast, Int.toNat_zero, List.length_map, rdS, at_agg, bofZ, bof1, bof0, List.getD_cons_zero, List.getD_cons_succ, implies_true, and_true, true_and, forall_const]; first | done | omega | (refine ⟨?_, ?_⟩ <;> omega)) | (simp (disch := (first | omega | (simp only [lnS, List.length_append, List.length_map, List.length_range, List.length_replicate]; omega))) [nc, nct, w64_of, Int.toNat_natCast, Int.toNat_zero, List.length_map, rdS, at_agg, bofZ, bof1, bof0, List.getD_cons_zero, List.getD_cons_succ]; done))); cbv)
    | (refine E.q (QCalls.of_le (k2) ?_ ?_); (· (cbv; (try simp only [nc] at *); first | done | (simp; done) | (simp (disch := (first | omega | (simp only [lnS, List.length_append, List.length_map, List.length_range, List.length_replicate]; omega))) only [nc, nct, w64_of, Int.toNat_natCast, Int.toNat_zero, List.length_map, rdS, at_agg, bofZ, bof1, bof0, List.getD_cons_zero, List.getD_cons_succ, implies_true, and_true, true_and, forall_const]; first | done | omega | (refine ⟨?_, ?_⟩ <;> omega)) | (simp (disch := (first | omega | (simp only [lnS, List.length_append, List.length_map, List.length_range, List.length_replicate]; omega))) [nc, nct, w64_of, Int.toNat_natCast, Int.toNat_zero, List.length_map, rdS, at_agg, bofZ, bof1, bof0, List.getD_cons_zero, List.getD_cons_succ]; done))); cbv)
    | (refine E.c (SCalls.of_le (k1) ?_ ?_); (· (cbv; (try simp only [nc] at *); first | done | (simp; done) | (simp (disch := (first | omega | (simp only [lnS, List.length_append, List.length_map, List.length_range, List.length_replicate]; omega))) only [nc, nct, w64_of, Int.toNat_natCast, Int.toNat_zero, List.length_map, rdS, at_agg, bofZ, bof1, bof0, List.getD_cons_zero, List.getD_cons_succ, implies_true, and_true, true_and, forall_const]; first | done | omega | (refine ⟨?_, ?_⟩ <;> omega)) | (simp (disch := (first | omega | (simp only [lnS, List.length_append, List.length_map, List.length_range, List.length_replicate]; omega))) [nc, nct, w64_of, Int.toNat_natCast, Int.toNat_zero, List.length_map, rdS, at_agg, bofZ, bof1, bof0, List.getD_cons_zero, List.getD_cons_succ]; done))); cbv)
    | (refine E.q (QCalls.of_le (k1) ?_ ?_); (· (cbv; (try simp only [nc] at *); first | done | (simp; done) | (simp (disch := (first | omega | (simp only [lnS, List.length_append, List.length_map, List.length_range, List.length_replicate]; omega))) only [nc, nct, w64_of, Int.toNat_natCast, Int.toNat_zero, List.length_map, rdS, at_agg, bofZ, bof1, bof0, List.getD_cons_zero, List.getD_cons_succ, implies_true, and_true, true_and, forall_const]; first | done | omega | (refine ⟨?_, ?_⟩ <;> omega)) | (simp (disch := (first | omega | (simp only [lnS, List.length_append, List.length_map, List.length_range, List.length_replicate]; omega))) [nc, nct, w64_of, Int.toNat_natCast, Int.toNat_zero, List.length_map, rdS, at_agg, bofZ, bof1, bof0, List.getD_cons_zero, List.getD_cons_succ]; done))); cbv)
    | (refine E.c (SCalls.of_le (p6) ?_ ?_); (· (cbv; (try simp only [nc] at *); first | done | (simp; done) | (simp (disch := (first | omega | (simp only [lnS, List.length_append, List.length_map, List.length_range, List.length_replicate]; omega))) only [nc, nct, w64_of, Int.toNat_natCast, Int.toNat_zero, List.length_map, rdS, at_agg, bofZ, bof1, bof0, List.getD_cons_zero, List.getD_cons_succ, implies_true, and_true, true_and, forall_const]; first | done | omega | (refine ⟨?_, ?_⟩ <;> omega)) | (simp (disch := (first | omega | (simp only [lnS, List.length_append, List.length_map, List.length_range, List.length_replicate]; omega))) [nc, nct, w64_of, Int.toNat_natCast, Int.toNat_zero, List.length_map, rdS, at_agg, bofZ, bof1, bof0, List.getD_cons_zero, List.getD_cons_succ]; done))); cbv)
    | (refine E.q (QCalls.of_le (p6) ?_ ?_); (· (cbv; (try simp only [nc] at *); first | done | (simp; done) | (simp (disch := (first | omega | (simp only [lnS, List.length_append, List.length_map, List.length_range, List.length_replicate]; omega))) only [nc, nct, w64_of, Int.toNat_natCast, Int.toNat_zero, List.length_map, rdS, at_agg, bofZ, bof1, bof0, List.getD_cons_zero, List.getD_cons_succ, implies_true, and_true, true_and, forall_const]; first | done | omega | (refine ⟨?_, ?_⟩ <;> omega)) | (simp (disch := (first | omega | (simp only [lnS, List.length_append, List.length_map, List.length_range, List.length_replicate]; omega))) [nc, nct, w64_of, Int.toNat_natCast, Int.toNat_zero, List.length_map, rdS, at_agg, bofZ, bof1, bof0, List.getD_cons_zero, List.getD_cons_succ]; done))); cbv)
    | (refine E.c (SCalls.of_le (p5) ?_ ?_); (· (cbv; (try simp only [nc] at *); first | done | (simp; done) | (simp (disch := (first | omega | (simp only [lnS, List.length_append, List.length_map, List.length_range, List.length_replicate]; omega))) only [nc, nct, w64_of, Int.toNat_natCast, Int.toNat_zero, List.length_map, rdS, at_agg, bofZ, bof1, bof0, List.getD_cons_zero, List.getD_cons_succ, implies_true, and_true, true_and, forall_const]; first | done | omega | (refine ⟨?_, ?_⟩ <;> omega)) | (simp (disch := (first | omega | (simp only [lnS, List.length_append, List.length_map, List.length_range, List.length_replicate]; omega))) [nc, nct, w64_of, Int.toNat_natCast, Int.toNat_zero, List.length_map, rdS, at_agg, bofZ, bof1, bof0, List.getD_cons_zero, List.getD_cons_succ]; done))); cbv)
    | (refine E.q (QCalls.of_le (p5) ?_ ?_); (· (cbv; (try simp only [nc] at *); first | done | (simp; done) | (simp (disch := (first | omega | (simp only [lnS, List.length_append, List.length_map, List.length_range, List.length_replicate]; omega))) only [nc, nct, w64_of, Int.toNat_natCast, Int.toNat_zero, List.length_map, rdS, at_agg, bofZ, bof1, bof0, List.getD_cons_zero, List.getD_cons_succ, implies_true, and_true, true_and, forall_const]; first | done | omega | (refine ⟨?_, ?_⟩ <;> omega)) | (simp (disch := (first | omega | (simp only [lnS, List.length_append, List.length_map, List.length_range, List.length_replicate]; omega))) [nc, nct, w64_of, Int.toNat_natCast, Int.toNat_zero, List.length_map, rdS, at_agg, bofZ, bof1, bof0, List.getD_cons_zero, List.getD_cons_succ]; done))); cbv)
    | (refine E.c (SCalls.of_le (p4) ?_ ?_); (· (cbv; (try simp only [nc] at *); first | done | (simp; done) | (simp (disch := (first | omega | (simp only [lnS, List.length_append, List.length_map, List.length_range, List.length_replicate]; omega))) only [nc, nct, w64_of, Int.toNat_natCast, Int.toNat_zero, List.length_map, rdS, at_agg, bofZ, bof1, bof0, List.getD_cons_zero, List.getD_cons_succ, implies_true, and_true, true_and, forall_const]; first | done | omega | (refine ⟨?_, ?_⟩ <;> omega)) | (simp (disch := (first | omega | (simp only [lnS, List.length_append, List.length_map, List.length_range, List.length_replicate]; omega))) [nc, nct, w64_of, Int.toNat_natCast, Int.toNat_zero, List.length_map, rdS, at_agg, bofZ, bof1, bof0, List.getD_cons_zero, List.getD_cons_succ]; done))); cbv)
    | (refine E.q (QCalls.of_le (p4) ?_ ?_); (· (cbv; (try simp only [nc] at *); first | done | (simp; done) | (simp (disch := (first | omega | (simp only [lnS, List.length_append, List.length_map, List.length_range, List.length_replicate]; omega))) only [nc, nct, w64_of, Int.toNat_natCast, Int.toNat_zero, List.length_map, rdS, at_agg, bofZ, bof1, bof0, List.getD_cons_zero, List.getD_cons_succ, implies_true, and_true, true_and, forall_const]; first | done | omega | (refine ⟨?_, ?_⟩ <;> omega)) | (simp (disch := (first | omega | (simp only [lnS, List.length_append, List.length_map, List.length_range, List.length_replicate]; omega))) [nc, nct, w64_of, Int.toNat_natCast, Int.toNat_zero, List.length_map, rdS, at_agg, bofZ, bof1, bof0, List.getD_cons_zero, List.getD_cons_succ]; done))); cbv)
    | (refine E.c (SCalls.of_le (p3) ?_ ?_); (· (cbv; (try simp only [nc] at *); first | done | (simp; done) | (simp (disch := (first | omega | (simp only [lnS, List.length_append, List.length_map, List.length_range, List.length_replicate]; omega))) only [nc, nct, w64_of, Int.toNat_natCast, Int.toNat_zero, List.length_map, rdS, at_agg, bofZ, bof1, bof0, List.getD_cons_zero, List.getD_cons_succ, implies_true, and_true, true_and, forall_const]; first | done | omega | (refine ⟨?_, ?_⟩ <;> omega)) | (simp (disch := (first | omega | (simp only [lnS, List.length_append, List.length_map, List.length_range, List.length_replicate]; omega))) [nc, nct, w64_of, Int.toNat_natCast, Int.toNat_zero, List.length_map, rdS, at_agg, bofZ, bof1, bof0, List.getD_cons_zero, List.getD_cons_succ]; done))); cbv)
    | (refine E.q (QCalls.of_le (p3) ?_ ?_); (· (cbv; (try simp only [nc] at *); first | done | (simp; done) | (simp (disch := (first | omega | (simp only [lnS, List.length_append, List.length_map, List.length_range, List.length_replicate]; omega))) only [nc, nct, w64_of, Int.toNat_natCast, Int.toNat_zero, List.length_map, rdS, at_agg, bofZ, bof1, bof0, List.getD_cons_zero, List.getD_cons_succ, implies_true, and_true, true_and, forall_const]; first | done | omega | (refine ⟨?_, ?_⟩ <;> omega)) | (simp (disch := (first | omega | (simp only [lnS, List.length_append, List.length_map, List.length_range, List.length_replicate]; omega))) [nc, nct, w64_of, Int.toNat_natCast, Int.toNat_zero, List.length_map, rdS, at_agg, bofZ, bof1, bof0, List.getD_cons_zero, List.getD_cons_succ]; done))); cbv)
    | (refine E.c (SCalls.of_le (p2) ?_ ?_); (· (cbv; (try simp only [nc] at *); first | done | (simp; done) | (simp (disch := (first | omega | (simp only [lnS, List.length_append, List.length_map, List.length_range, List.length_replicate]; omega))) only [nc, nct, w64_of, Int.toNat_natCast, Int.toNat_zero, List.length_map, rdS, at_agg, bofZ, bof1, bof0, List.getD_cons_zero, List.getD_cons_succ, implies_true, and_true, true_and, forall_const]; first | done | omega | (refine ⟨?_, ?_⟩ <;> omega)) | (simp (disch := (first | omega | (simp only [lnS, List.length_append, List.length_map, List.length_range, List.length_replicate]; omega))) [nc, nct, w64_of, Int.toNat_natCast, Int.toNat_zero, List.length_map, rdS, at_agg, bofZ, bof1, bof0, List.getD_cons_zero, List.getD_cons_succ]; done))); cbv)
    | (refine E.q (QCalls.of_le (p2) ?_ ?_); (· (cbv; (try simp only [nc] at *); first | done | (simp; done) | (simp (disch := (first | omega | (simp only [lnS, List.length_append, List.length_map, List.length_range, List.length_replicate]; omega))) only [nc, nct, w64_of, Int.toNat_natCast, Int.toNat_zero, List.length_map, rdS, at_agg, bofZ, bof1, bof0, List.getD_cons_zero, List.getD_cons_succ, implies_true, and_true, true_and, forall_const]; first | done | omega | (refine ⟨?_, ?_⟩ <;> omega)) | (simp (disch := (first | omega | (simp only [lnS, List.length_append, List.length_map, List.length_range, List.length_replicate]; omega))) [nc, nct, w64_of, Int.toNat_natCast, Int.toNat_zero, List.length_map, rdS, at_agg, bofZ, bof1, bof0, List.getD_cons_zero, List.getD_cons_succ]; done))); cbv)
    | (refine E.c (SCalls.of_le (p1) ?_ ?_); (· (cbv; (try simp only [nc] at *); first | done | (simp; done) | (simp (disch := (first | omega | (simp only [lnS, List.length_append, List.length_map, List.length_range, List.length_replicate]; omega))) only [nc, nct, w64_of, Int.toNat_natCast, Int.toNat_zero, List.length_map, rdS, at_agg, bofZ, bof1, bof0, List.getD_cons_zero, List.getD_cons_succ, implies_true, and_true, true_and, forall_const]; first | done | omega | (refine ⟨?_, ?_⟩ <;> omega)) | (simp (disch := (first | omega | (simp only [lnS, List.length_append, List.length_map, List.length_range, List.length_replicate]; omega))) [nc, nct, w64_of, Int.toNat_natCast, Int.toNat_zero, List.length_map, rdS, at_agg, bofZ, bof1, bof0, List.getD_cons_zero, List.getD_cons_succ]; done))); cbv)
    | (refine E.q (QCalls.of_le (p1) ?_ ?_); (· (cbv; (try simp only [nc] at *); first | done | (simp; done) | (simp (disch := (first | omega | (simp only [lnS, List.length_append, List.length_map, List.length_range, List.length_replicate]; omega))) only [nc, nct, w64_of, Int.toNat_natCast, Int.toNat_zero, List.length_map, rdS, at_agg, bofZ, bof1, bof0, List.getD_cons_zero, List.getD_cons_succ, implies_true, and_true, true_and, forall_const]; first | done | omega | (refine ⟨?_, ?_⟩ <;> omega)) | (simp (disch := (first | omega | (simp only [lnS, List.length_append, List.length_map, List.length_range, List.length_replicate]; omega))) [nc, nct, w64_of, Int.toNat_natCast, Int.toNat_zero, List.length_map, rdS, at_agg, bofZ, bof1, bof0, List.getD_cons_zero, List.getD_cons_succ]; done))); cbv)
    | (refine E.c (SCalls.of_le (m0) ?_ ?_); (· (cbv; (try simp only [nc] at *); first | done | (simp; done) | (simp (disch := (first | omega | (simp only [lnS, List.length_append, List.length_map, List.length_range, List.length_replicate]; omega))) only [nc, nct, w64_of, Int.toNat_natCast, Int.toNat_zero, List.length_map, rdS, at_agg, bofZ, bof1, bof0, List.getD_cons_zero, List.getD_cons_succ, implies_true, and_true, true_and, forall_const]; first | done | omega | (refine ⟨?_, ?_⟩ <;> omega)) | (simp (disch := (first | omega | (simp only [lnS, List.length_append, List.length_map, List.length_range, List.length_replicate]; omega))) [nc, nct, w64_of, Int.toNat_natCast, Int.toNat_zero, List.length_map, rdS, at_agg, bofZ, bof1, bof0, List.getD_cons_zero, List.getD_cons_succ]; done))); cbv)
    | (refine E.q (QCalls.of_le (m0) ?_ ?_); (· (cbv; (try simp only [nc] at *); first | done | (simp; done) | (simp (disch := (first | omega | (simp only [lnS, List.length_append, List.length_map, List.length_range, List.length_replicate]; omega))) only [nc, nct, w64_of, Int.toNat_natCast, Int.toNat_zero, List.length_map, rdS, at_agg, bofZ, bof1, bof0, List.getD_cons_zero, List.getD_cons_succ, implies_true, and_true, true_and, forall_const]; first | done | omega | (refine ⟨?_, ?_⟩ <;> omega)) | (simp (disch := (first | omega | (simp only [lnS, List.length_append, List.length_map, List.length_range, List.length_replicate]; omega))) [nc, nct, w64_of, Int.toNat_natCast, Int.toNat_zero, List.length_map, rdS, at_agg, bofZ, bof1, bof0, List.getD_cons_zero, List.getD_cons_succ]; done))); cbv)
    | (refine E.c (SCalls.of_le (m9) ?_ ?_); (· (cbv; (try simp only [nc] at *); first | done | (simp; done) | (simp (disch := (first | omega | (simp only [lnS, List.length_append, List.length_map, List.length_range, List.length_replicate]; omega))) only [nc, nct, w64_of, Int.toNat_natCast, Int.toNat_zero, List.length_map, rdS, at_agg, bofZ, bof1, bof0, List.getD_cons_zero, List.getD_cons_succ, implies_true, and_true, true_and, forall_const]; first | done | omega | (refine ⟨?_, ?_⟩ <;> omega)) | (simp (disch := (first | omega | (simp only [lnS, List.length_append, List.length_map, List.length_range, List.length_replicate]; omega))) [nc, nct, w64_of, Int.toNat_natCast, Int.toNat_zero, List.length_map, rdS, at_agg, bofZ, bof1, bof0, List.getD_cons_zero, List.getD_cons_succ]; done))); cbv)
    | (refine E.q (QCalls.of_le (m9) ?_ ?_); (· (cbv; (try simp only [nc] at *); first | done | (simp; done) | (simp (disch := (first | omega | (simp only [lnS, List.length_append, List.length_map, List.length_range, List.length_replicate]; omega))) only [nc, nct, w64_of, Int.toNat_natCast, Int.toNat_zero, List.length_map, rdS, at_agg, bofZ, bof1, bof0, List.getD_cons_zero, List.getD_cons_succ, implies_true, and_true, true_and, forall_const]; first | done | omega | (refine ⟨?_, ?_⟩ <;> omega)) | (simp (disch := (first | omega | (simp only [lnS, List.length_append, List.length_map, List.length_range, List.length_replicate]; omega))) [nc, nct, w64_of, Int.toNat_natCast, Int.toNat_zero, List.length_map, rdS, at_agg, bofZ, bof1, bof0, List.getD_cons_zero, List.getD_cons_succ]; done))); cbv)
    | (refine E.c (SCalls.of_le (m8) ?_ ?_); (· (cbv; (try simp only [nc] at *); first | done | (simp; done) | (simp (disch := (first | omega | (simp only [lnS, List.length_append, List.length_map, List.length_range, List.length_replicate]; omega))) only [nc, nct, w64_of, Int.toNat_natCast, Int.toNat_zero, List.length_map, rdS, at_agg, bofZ, bof1, bof0, List.getD_cons_zero, List.getD_cons_succ, implies_true, and_true, true_and, forall_const]; first | done | omega | (refine ⟨?_, ?_⟩ <;> omega)) | (simp (disch := (first | omega | (simp only [lnS, List.length_append, List.length_map, List.length_range, List.length_replicate]; omega))) [nc, nct, w64_of, Int.toNat_natCast, Int.toNat_zero, List.length_map, rdS, at_agg, bofZ, bof1, bof0, List.getD_cons_zero, List.getD_cons_succ]; done))); cbv)
    | (refine E.q (QCalls.of_le (m8) ?_ ?_); (· (cbv; (try simp only [nc] at *); first | done | (simp; done) | (simp (disch := (first | omega | (simp only [lnS, List.length_append, List.length_map, List.length_range, List.length_replicate]; omega))) only [nc, nct, w64_of, Int.toNat_natCast, Int.toNat_zero, List.length_map, rdS, at_agg, bofZ, bof1, bof0, List.getD_cons_zero, List.getD_cons_succ, implies_true, and_true, true_and, forall_const]; first | done | omega | (refine ⟨?_, ?_⟩ <;> omega)) | (simp (disch := (first | omega | (simp only [lnS, List.length_append, List.length_map, List.length_range, List.length_replicate]; omega))) [nc, nct, w64_of, Int.toNat_natCast, Int.toNat_zero, List.length_map, rdS, at_agg, bofZ, bof1, bof0, List.getD_cons_zero, List.getD_cons_succ]; done))); cbv)
    | (refine E.c (SCalls.of_le (m7) ?_ ?_); (· (cbv; (try simp only [nc] at *); first | done | (simp; done) | (simp (disch := (first | omega | (simp only [lnS, List.length_append, List.length_map, List.length_range, List.length_replicate]; omega))) only [nc, nct, w64_of, Int.toNat_natCast, Int.toNat_zero, List.length_map, rdS, at_agg, bofZ, bof1, bof0, List.getD_cons_zero, List.getD_cons_succ, implies_true, and_true, true_and, forall_const]; first | done | omega | (refine ⟨?_, ?_⟩ <;> omega)) | (simp (disch := (first | omega | (simp only [lnS, List.length_append, List.length_map, List.length_range, List.length_replicate]; omega))) [nc, nct, w64_of, Int.toNat_natCast, Int.toNat_zero, List.length_map, rdS, at_agg, bofZ, bof1, bof0, List.getD_cons_zero, List.getD_cons_succ]; done))); cbv)
    | (refine E.q (QCalls.of_le (m7) ?_ ?_); (· (cbv; (try simp only [nc] at *); first | done | (simp; done) | (simp (disch := (first | omega | (simp only [lnS, List.length_append, List.length_map, List.length_range, List.length_replicate]; omega))) only [nc, nct, w64_of, Int.toNat_natCast, Int.toNat_zero, List.length_map, rdS, at_agg, bofZ, bof1, bof0, List.getD_cons_zero, List.getD_cons_succ, implies_true, and_true, true_and, forall_const]; first | done | omega | (refine ⟨?_, ?_⟩ <;> omega)) | (simp (disch := (first | omega | (simp only [lnS, List.length_append, List.length_map, List.length_range, List.length_replicate]; omega))) [nc, nct, w64_of, Int.toNat_natCast, Int.toNat_zero, List.length_map, rdS, at_agg, bofZ, bof1, bof0, List.getD_cons_zero, List.getD_cons_succ]; done))); cbv)
    | (refine E.c (SCalls.of_le (m6) ?_ ?_); (· (cbv; (try simp only [nc] at *); first | done | (simp; done) | (simp (disch := (first | omega | (simp only [lnS, List.length_append, List.length_map, List.length_range, List.length_replicate]; omega))) only [nc, nct, w64_of, Int.toNat_natCast, Int.toNat_zero, List.length_map, rdS, at_agg, bofZ, bof1, bof0, List.getD_cons_zero, List.getD_cons_succ, implies_true, and_true, true_and, forall_const]; first | done | omega | (refine ⟨?_, ?_⟩ <;> omega)) | (simp (disch := (first | omega | (simp only [lnS, List.length_append, List.length_map, List.length_range, List.length_replicate]; omega))) [nc, nct, w64_of, Int.toNat_natCast, Int.toNat_zero, List.length_map, rdS, at_agg, bofZ, bof1, bof0, List.getD_cons_zero, List.getD_cons_succ]; done))); cbv)
    | (refine E.q (QCalls.of_le (m6) ?_ ?_); (· (cbv; (try simp only [nc] at *); first | done | (simp; done) | (simp (disch := (first | omega | (simp only [lnS, List.length_append, List.length_map, List.length_range, List.length_replicate]; omega))) only [nc, nct, w64_of, Int.toNat_natCast, Int.toNat_zero, List.length_map, rdS, at_agg, bofZ, bof1, bof0, List.getD_cons_zero, List.getD_cons_succ, implies_true, and_true, true_and, forall_const]; first | done | omega | (refine ⟨?_, ?_⟩ <;> omega)) | (simp (disch := (first | omega | (simp only [lnS, List.length_append, List.length_map, List.length_range, List.length_replicate]; omega))) [nc, nct, w64_of, Int.toNat_natCast, Int.toNat_zero, List.length_map, rdS, at_agg, bofZ, bof1, bof0, List.getD_cons_zero, List.getD_cons_succ]; done))); cbv)
    | (refine E.c (SCalls.of_le (m5) ?_ ?_); (· (cbv; (try simp only [nc] at *); first | done | (simp; done) | (simp (disch := (first | omega | (simp only [lnS, List.length_append, List.length_map, List.length_range, List.length_replicate]; omega))) only [nc, nct, w64_of, Int.toNat_natCast, Int.toNat_zero, List.length_map, rdS, at_agg, bofZ, bof1, bof0, List.getD_cons_zero, List.getD_cons_succ, implies_true, and_true, true_and, forall_const]; first | done | omega | (refine ⟨?_, ?_⟩ <;> omega)) | (simp (disch := (first | omega | (simp only [lnS, List.length_append, List.length_map, List.length_range, List.length_replicate]; omega))) [nc, nct, w64_of, Int.toNat_natCast, Int.toNat_zero, List.length_map, rdS, at_agg, bofZ, bof1, bof0, List.getD_cons_zero, List.getD_cons_succ]; done))); cbv)
    | (refine E.q (QCalls.of_le (m5) ?_ ?_); (· (cbv; (try simp only [nc] at *); first | done | (simp; done) | (simp (disch := (first | omega | (simp only [lnS, List.length_append, List.length_map, List.length_range, List.length_replicate]; omega))) only [nc, nct, w64_of, Int.toNat_natCast, Int.toNat_zero, List.length_map, rdS, at_agg, bofZ, bof1, bof0, List.getD_cons_zero, List.getD_cons_succ, implies_true, and_true, true_and, forall_const]; first | done | omega | (refine ⟨?_, ?_⟩ <;> omega)) | (simp (disch := (first | omega | (simp only [lnS, List.length_append, List.length_map, List.length_range, List.length_replicate]; omega))) [nc, nct, w64_of, Int.toNat_natCast, Int.toNat_zero, List.length_map, rdS, at_agg, bofZ, bof1, bof0, List.getD_cons_zero, List.getD_cons_succ]; done))); cbv)
    | (refine E.c (SCalls.of_le (m4) ?_ ?_); (· (cbv; (try simp only [nc] at *); first | done | (simp; done) | (simp (disch := (first | omega | (simp only [lnS, List.length_append, List.length_map, List.length_range, List.length_replicate]; omega))) only [nc, nct, w64_of, Int.toNat_natCast, Int.toNat_zero, List.length_map, rdS, at_agg, bofZ, bof1, bof0, List.getD_cons_zero, List.getD_cons_succ, implies_true, and_true, true_and, forall_const]; first | done | omega | (refine ⟨?_, ?_⟩ <;> omega)) | (simp (disch := (first | omega | (simp only [lnS, List.length_append, List.length_map, List.length_range, List.length_replicate]; omega))) [nc, nct, w64_of, Int.toNat_natCast, Int.toNat_zero, List.length_map, rdS, at_agg, bofZ, bof1, bof0, List.getD_cons_zero, List.getD_cons_succ]; done))); cbv)
    | (refine E.q (QCalls.of_le (m4) ?_ ?_); (· (cbv; (try simp only [nc] at *); first | done | (simp; done) | (simp (disch := (first | omega | (simp only [lnS, List.length_append, List.length_map, List.length_range, List.length_replicate]; omega))) only [nc, nct, w64_of, Int.toNat_natCast, Int.toNat_zero, List.length_map, rdS, at_agg, bofZ, bof1, bof0, List.getD_cons_zero, List.getD_cons_succ, implies_true, and_true, true_and, forall_const]; first | done | omega | (refine ⟨?_, ?_⟩ <;> omega)) | (simp (disch := (first | omega | (simp only [lnS, List.length_append, List.length_map, List.length_range, List.length_replicate]; omega))) [nc, nct, w64_of, Int.toNat_natCast, Int.toNat_zero, List.length_map, rdS, at_agg, bofZ, bof1, bof0, List.getD_cons_zero, List.getD_cons_succ]; done))); cbv)
    | (refine E.c (SCalls.of_le (m3) ?_ ?_); (· (cbv; (try simp only [nc] at *); first | done | (simp; done) | (simp (disch := (first | omega | (simp only [lnS, List.length_append, List.length_map, List.length_range, List.length_replicate]; omega))) only [nc, nct, w64_of, Int.toNat_natCast, Int.toNat_zero, List.length_map, rdS, at_agg, bofZ, bof1, bof0, List.getD_cons_zero, List.getD_cons_succ, implies_true, and_true, true_and, forall_const]; first | done | omega | (refine ⟨?_, ?_⟩ <;> omega)) | (simp (disch := (first | omega | (simp only [lnS, List.length_append, List.length_map, List.length_range, List.length_replicate]; omega))) [nc, nct, w64_of, Int.toNat_natCast, Int.toNat_zero, List.length_map, rdS, at_agg, bofZ, bof1, bof0, List.getD_cons_zero, List.getD_cons_succ]; done))); cbv)
    | (refine E.q (QCalls.of_le (m3) ?_ ?_); (· (cbv; (try simp only [nc] at *); first | done | (simp; done) | (simp (disch := (first | omega | (simp only [lnS, List.length_append, List.length_map, List.length_range, List.length_replicate]; omega))) only [nc, nct, w64_of, Int.toNat_natCast, Int.toNat_zero, List.length_map, rdS, at_agg, bofZ, bof1, bof0, List.getD_cons_zero, List.getD_cons_succ, implies_true, and_true, true_and, forall_const]; first | done | omega | (refine ⟨?_, ?_⟩ <;> omega)) | (simp (disch := (first | omega | (simp only [lnS, List.length_append, List.length_map, List.length_range, List.length_replicate]; omega))) [nc, nct, w64_of, Int.toNat_natCast, Int.toNat_zero, List.length_map, rdS, at_agg, bofZ, bof1, bof0, List.getD_cons_zero, List.getD_cons_succ]; done))); cbv)
    | (refine E.c (SCalls.of_le (m2) ?_ ?_); (· (cbv; (try simp only [nc] at *); first | done | (simp; done) | (simp (disch := (first | omega | (simp only [lnS, List.length_append, List.length_map, List.length_range, List.length_replicate]; omega))) only [nc, nct, w64_of, Int.toNat_natCast, Int.toNat_zero, List.length_map, rdS, at_agg, bofZ, bof1, bof0, List.getD_cons_zero, List.getD_cons_succ, implies_true, and_true, true_and, forall_const]; first | done | omega | (refine ⟨?_, ?_⟩ <;> omega)) | (simp (disch := (first | omega | (simp only [lnS, List.length_append, List.length_map, List.length_range, List.length_replicate]; omega))) [nc, nct, w64_of, Int.toNat_natCast, Int.toNat_zero, List.length_map, rdS, at_agg, bofZ, bof1, bof0, List.getD_cons_zero, List.getD_cons_succ]; done))); cbv)
    | (refine E.q (QCalls.of_le (m2) ?_ ?_); (· (cbv; (try simp only [nc] at *); first | done | (simp; done) | (simp (disch := (first | omega | (simp only [lnS, List.length_append, List.length_map, List.length_range, List.length_replicate]; omega))) only [nc, nct, w64_of, Int.toNat_natCast, Int.toNat_zero, List.length_map, rdS, at_agg, bofZ, bof1, bof0, List.getD_cons_zero, List.getD_cons_succ, implies_true, and_true, true_and, forall_const]; first | done | omega | (refine ⟨?_, ?_⟩ <;> omega)) | (simp (disch := (first | omega | (simp only [lnS, List.length_append, List.length_map, List.length_range, List.length_replicate]; omega))) [nc, nct, w64_of, Int.toNat_natCast, Int.toNat_zero, List.length_map, rdS, at_agg, bofZ, bof1, bof0, List.getD_cons_zero, List.getD_cons_succ]; done))); cbv)
    | (refine E.c (SCalls.of_le (m1) ?_ ?_); (· (cbv; (try simp only [nc] at *); first | done | (simp; done) | (simp (disch := (first | omega | (simp only [lnS, List.length_append, List.length_map, List.length_range, List.length_replicate]; omega))) only [nc, nct, w64_of, Int.toNat_natCast, Int.toNat_zero, List.length_map, rdS, at_agg, bofZ, bof1, bof0, List.getD_cons_zero, List.getD_cons_succ, implies_true, and_true, true_and, forall_const]; first | done | omega | (refine ⟨?_, ?_⟩ <;> omega)) | (simp (disch := (first | omega | (simp only [lnS, List.length_append, List.length_map, List.length_range, List.length_replicate]; omega))) [nc, nct, w64_of, Int.toNat_natCast, Int.toNat_zero, List.length_map, rdS, at_agg, bofZ, bof1, bof0, List.getD_cons_zero, List.getD_cons_succ]; done))); cbv)
    | (refine E.q (QCalls.of_le (m1) ?_ ?_); (· (cbv; (try simp only [nc] at *); first | done | (simp; done) | (simp (disch := (first | omega | (simp only [lnS, List.length_append, List.length_map, List.length_range, List.length_replicate]; omega))) only [nc, nct, w64_of, Int.toNat_natCast, Int.toNat_zero, List.length_map, rdS, at_agg, bofZ, bof1, bof0, List.getD_cons_zero, List.getD_cons_succ, implies_true, and_true, true_and, forall_const]; first | done | omega | (refine ⟨?_, ?_⟩ <;> omega)) | (simp (disch := (first | omega | (simp only [lnS, List.length_append, List.length_map, List.length_range, List.length_replicate]; omega))) [nc, nct, w64_of, Int.toNat_natCast, Int.toNat_zero, List.length_map, rdS, at_agg, bofZ, bof1, bof0, List.getD_cons_zero, List.getD_cons_succ]; done))); cbv)
    | (refine E.c (SCalls.of_le (s1) ?_ ?_); (· (cbv; (try simp only [nc] at *); first | done | (simp; done) | (simp (disch := (first | omega | (simp only [lnS, List.length_append, List.length_map, List.length_range, List.length_replicate]; omega))) only [nc, nct, w64_of, Int.toNat_natCast, Int.toNat_zero, List.length_map, rdS, at_agg, bofZ, bof1, bof0, List.getD_cons_zero, List.getD_cons_succ, implies_true, and_true, true_and, forall_const]; first | done | omega | (refine ⟨?_, ?_⟩ <;> omega)) | (simp (disch := (first | omega | (simp only [lnS, List.length_append, List.length_map, List.length_range, List.length_replicate]; omega))) [nc, nct, w64_of, Int.toNat_natCast, Int.toNat_zero, List.length_map, rdS, at_agg, bofZ, bof1, bof0, List.getD_cons_zero, List.getD_cons_succ]; done))); cbv)
    | (refine E.q (QCalls.of_le (s1) ?_ ?_); (· (cbv; (try simp only [nc] at *); first | done | (simp; done) | (simp (disch := (first | omega | (simp only [lnS, List.length_append, List.length_map, List.length_range, List.length_replicate]; omega))) only [nc, nct, w64_of, Int.toNat_natCast, Int.toNat_zero, List.length_map, rdS, at_agg, bofZ, bof1, bof0, List.getD_cons_zero, List.getD_cons_succ, implies_true, and_true, true_and, forall_const]; first | done | omega | (refine ⟨?_, ?_⟩ <;> omega)) | (simp (disch := (first | omega | (simp only [lnS, List.length_append, List.length_map, List.length_range, List.length_replicate]; omega))) [nc, nct, w64_of, Int.toNat_natCast, Int.toNat_zero, List.length_map, rdS, at_agg, bofZ, bof1, bof0, List.getD_cons_zero, List.getD_cons_succ]; done))); cbv)
    | (refine E.c (SCalls.of_le (a2) ?_ ?_); (· (cbv; (try simp only [nc] at *); first | done | (simp; done) | (simp (disch := (first | omega | (simp only [lnS, List.length_append, List.length_map, List.length_range, List.length_replicate]; omega))) only [nc, nct, w64_of, Int.toNat_natCast, Int.toNat_zero, List.length_map, rdS, at_agg, bofZ, bof1, bof0, List.getD_cons_zero, List.getD_cons_succ, implies_true, and_true, true_and, forall_const]; first | done | omega | (refine ⟨?_, ?_⟩ <;> omega)) | (simp (disch := (first | omega | (simp only [lnS, List.length_append, List.length_map, List.length_range, List.length_replicate]; omega))) [nc, nct, w64_of, Int.toNat_natCast, Int.toNat_zero, List.length_map, rdS, at_agg, bofZ, bof1, bof0, List.getD_cons_zero, List.getD_cons_succ]; done))); cbv)
    | (refine E.c (SCalls.of_le (a1) ?_ ?_); (· (cbv; (try simp only [nc] at *); first | done | (simp; done) | (simp (disch := (first | omega | (simp only [lnS, List.length_append, List.length_map, List.length_range, List.length_replicate]; omega))) only [nc, nct, w64_of, Int.toNat_natCast, Int.toNat_zero, List.length_map, rdS, at_agg, bofZ, bof1, bof0, List.getD_cons_zero, List.getD_cons_succ, implies_true, and_true, true_and, forall_const]; first | done | omega | (refine ⟨?_, ?_⟩ <;> omega)) | (simp (disch := (first | omega | (simp only [lnS, List.length_append, List.length_map, List.length_range, List.length_replicate]; omega))) [nc, nct, w64_of, Int.toNat_natCast, Int.toNat_zero, List.length_map, rdS, at_agg, bofZ, bof1, bof0, List.getD_cons_zero, List.getD_cons_succ]; done))); cbv)
    | (refine E.c (SCalls.of_le (kL) ?_ ?_); (· (cbv; (try simp only [nc] at *); first | done | (simp; done) | (simp (disch := (first | omega | (simp only [lnS, List.length_append, List.length_map, List.length_range, List.length_replicate]; omega))) only [nc, nct, w64_of, Int.toNat_natCast, Int.toNat_zero, List.length_map, rdS, at_agg, bofZ, bof1, bof0, List.getD_cons_zero, List.getD_cons_succ, implies_true, and_true, true_and, forall_const]; first | done | omega | (refine ⟨?_, ?_⟩ <;> omega)) | (simp (disch := (first | omega | (simp only [lnS, List.length_append, List.length_map, List.length_range, List.length_replicate]; omega))) [nc, nct, w64_of, Int.toNat_natCast, Int.toNat_zero, List.length_map, rdS, at_agg, bofZ, bof1, bof0, List.getD_cons_zero, List.getD_cons_succ]; done))); cbv)
    | (refine E.c (SCalls.of_le (kv) ?_ ?_); (· (cbv; (try simp only [nc] at *); first | done | (simp; done) | (simp (disch := (first | omega | (simp only [lnS, List.length_append, List.length_map, List.length_range, List.length_replicate]; omega))) only [nc, nct, w64_of, Int.toNat_natCast, Int.toNat_zero, List.length_map, rdS, at_agg, bofZ, bof1, bof0, List.getD_cons_zero, List.getD_cons_succ, implies_true, and_true, true_and, forall_const]; first | done | omega | (refine ⟨?_, ?_⟩ <;> omega)) | (simp (disch := (first | omega | (simp only [lnS, List.length_append, List.length_map, List.length_range, List.length_replicate]; omega))) [nc, nct, w64_of, Int.toNat_natCast, Int.toNat_zero, List.length_map, rdS, at_agg, bofZ, bof1, bof0, List.getD_cons_zero, List.getD_cons_succ]; done))); cbv)
    | (refine ⟨fun _ h_s => ?_, fun _ h_s => ?_⟩ <;> (cbv; (try simp only [nc] at *); try simp (disch := (first | omega | (simp only [lnS, List.length_append, List.length_map, List.length_range, List.length_replicate]; omega))) only [nc, nct, w64_of, Int.toNat_natCast, Int.toNat_zero, List.length_map, rdS, at_agg, bofZ, bof1, bof0, List.getD_cons_zero, List.getD_cons_succ, reduceCtorEq, Bool.not_true, Bool.not_false, decide_eq_true_eq, decide_eq_false_iff_not, Bool.not_eq_true, Bool.not_eq_false, Bool.not_eq_true', Bool.not_eq_false', ne_eq, Decidable.not_not, Int.not_le, Int.not_lt, beq_iff_eq] at h_s))
    | (refine hF ?_; intro _; clear hF)
    | (refine hF ?_; cbv; clear hF)
    | (refine ⟨fun _ => ?_, ?_⟩; (· ((try simp only [nc] at *); first | done | omega | exact ⟨by omega, rfl⟩ | (simp (disch := (first | omega | (simp only [lnS, List.length_append, List.length_map, List.length_range, List.length_replicate]; omega))) only [nc, nct, w64_of, Int.toNat_natCast, Int.toNat_zero, List.length_map, rdS, at_agg, bofZ, bof1, bof0, List.getD_cons_zero, List.getD_cons_succ]; first | done | omega | rfl | exact ⟨by omega, rfl⟩ | (simp; done) | (simp; omega)) | (intros; trivial))); (try (simp only [nc] at *)); (try simp (disch := (first | omega | (simp only [lnS, List.length_append, List.length_map, List.length_range, List.length_replicate]; omega))) only [nc, nct, w64_of, Int.toNat_natCast, Int.toNat_zero, List.length_map, rdS, at_agg, bofZ, bof1, bof0, List.getD_cons_zero, List.getD_cons_succ]); (try cbv))
    | (refine E.d 44 (by decide +kernel) ?_; cbv; (fail_if_success guard_target =~ False))
    | (refine E.d 47 (by decide +kernel) ?_; cbv; (fail_if_success guard_target =~ False))
    | fail
  )
  all_goals first
    | rfl
    | (exfalso; clear kL a1 a2 s1 m1 m2 m3 m4 m5 m6 m7 m8 m9 m0 p1 p2 p3 p4 p5 p6 k1 k2 k3 k4 k5 k6 kv; simp_all; done)
end Go.AL.Rl

namespace Go.AL
open Go Go.RowKit Go.ChangeShapes Go.WideShapes

section
variable {H : Type} {enc : TypeId × Value → H} {P : Program} {w : World} {spare : Nat → Bool} {held : Bool}

abbrev Old (w : World) : Nat → Prop := fun k => k < w.heap.size

/-- Whatever reads by the type 't' is told by an 'a'. -/
def Dec (P : Program) (t : TypeId) (α : Type) (en : α → List AV) (ok : α → Prop) : Prop :=
  ∀ {H : Type} (enc : TypeId × Value → H) (w : World) (spare : Nat → Bool) (held : Bool) (fuel : Nat) (cs : List Value) (x : DataW H × List MemPlace),
    DataW.trod enc P w 0 spare held fuel t cs = some x → ∃ a, ok a ∧ Rs (Old w) w none (en a) cs

theorem Dec.int {t : TypeId} (ht : P.underlying t = some (.int .i64)) : Dec P t Int (fun n => [.i fun _ => n]) fun n => -9223372036854775808 ≤ n ∧ n ≤ 9223372036854775807 := by
  intro H enc w spare held fuel cs x h
  obtain ⟨n, rfl, _, h2⟩ := DataW.trod_int ht h
  exact ⟨n, bounds_i64 h2, _, _, rfl, rfl, rfl⟩
theorem Dec.u64 {t : TypeId} (ht : P.underlying t = some (.int .u64)) : Dec P t (BitVec 64) (fun n => [.u fun _ => n]) fun _ => True := by
  intro H enc w spare held fuel cs x h
  obtain ⟨n, rfl, _, h2⟩ := DataW.trod_int ht h
  have := bounds_u64 h2
  refine ⟨BitVec.ofInt 64 n, trivial, _, _, rfl, ?_, rfl⟩
  simp only [R]
  congr 1
  simp only [BitVec.toNat_ofInt]
  omega
theorem Dec.bool {t : TypeId} (ht : P.underlying t = some .bool) : Dec P t Bool (fun b => [.b fun _ => b]) fun _ => True := by
  intro H enc w spare held fuel cs x h
  obtain ⟨b, rfl, _⟩ := DataW.trod_bool ht h
  exact ⟨b, trivial, _, _, rfl, rfl, rfl⟩

theorem cells?_get {w : World} {a : Addr} {n : Nat} {cs : List Value} (h : w.cells? 0 a n = some cs) : cs.length = n ∧ ∀ (i : Nat) (c : Value), cs[i]? = some c → w.cell? (a.add i) = some c := by
  simp only [World.cells?, Nat.zero_le, if_true] at h
  have hl : cs.length = n := by have := mapM_some_length h; simpa using this
  refine ⟨hl, fun i c hc => ?_⟩
  have hi : i < n := by have := (List.getElem?_eq_some_iff.1 hc).1; omega
  rw [mapM_some_get h i i (by simp [hi])]; exact hc

theorem list_of_all {α β : Type} {R' : α → β → Prop} : ∀ (l : List β), (∀ b ∈ l, ∃ a, R' a b) → ∃ r : List α, r.length = l.length ∧ ∀ (i : Nat) (a : α) (b : β), r[i]? = some a → l[i]? = some b → R' a b
  | [], _ => ⟨[], rfl, fun i a b h => by simp at h⟩
  | b :: l, h => by
    obtain ⟨a, ha⟩ := h b (by simp)
    obtain ⟨r, h1, h2⟩ := list_of_all l fun b hb => h b (by simp [hb])
    refine ⟨a :: r, by simp [h1], fun i a' b' ha' hb' => ?_⟩
    cases i with
    | zero => simp at ha' hb'; subst ha'; subst hb'; exact ha
    | succ i => exact h2 i a' b' (by simpa using ha') (by simpa using hb')

/-- the elements' values: 'mk' is '.agg' or the one cell -/
structure Elem (mk : List AV → AV) (k : Nat) : Prop where
  val : ∀ {S : Nat → Prop} {w : World} {l : List AV} {cs : List Value}, cs.length = k → l.all AV.one = true → Rs S w none l cs → ∃ v, v.cells.toList = cs ∧ R S w none (mk l) v
theorem Elem.agg (k : Nat) : Elem .agg k := ⟨fun {S w l cs} _ _ h => ⟨.agg cs.toArray, by simp [Value.cells], cs, rfl, h⟩⟩
theorem Elem.one : Elem (fun l => l.headD .any) 1 := ⟨fun {S w l cs} hl h1 h => by
  match cs, hl with
  | [c], _ =>
    match l, h with
    | x :: _, ⟨v, _, e, hx, hr⟩ =>
      cases e
      simp only [List.all_cons, Bool.and_eq_true] at h1
      exact ⟨c, by rw [cells_of_one (R_one hx h1.1)], hx⟩⟩

theorem Dec.slice {t e : TypeId} (ht : P.underlying t = some (.slice e)) {k : Nat} (hk : P.cellsOf e = k) (hk0 : 0 < k) {α : Type} {en : α → List AV} {ok : α → Prop} {mk : List AV → AV} (he : Dec P e α en ok) (hone : ∀ a, (en a).all AV.one = true) (hm : Elem mk k) :
    Dec P t (List α) (fun l => [.vs k fun _ => LV.of (l.map fun a => mk (en a))]) fun l => l.length ≤ maxLen ∧ ∀ a ∈ l, ok a := by
  subst hk
  intro H enc w spare held fuel cs x h
  rcases DataW.trod_slice ht h with ⟨rfl, _⟩ | ⟨a, len, cap, elems, rest, n, rfl, rfl, rfl, _, h2, h3, h4, h5, _⟩
  · exact ⟨[], ⟨by simp, by simp⟩, _, _, rfl, ⟨none, 0, [], rfl, Nat.le_refl _, rfl, .inl rfl⟩, rfl⟩
  · have key : ∀ i : Nat, i < len → ∃ (c : List Value) (a' : α), w.cells? 0 (a.add (i * P.cellsOf e)) (P.cellsOf e) = some c ∧ ok a' ∧ Rs (Old w) w none (en a') c := by
      intro i hi
      have := h5 i hi
      rw [List.getElem?_eq_getElem (by omega)] at this
      simp only [Option.bind_eq_some_iff] at this
      obtain ⟨c, hc, hd⟩ := this
      obtain ⟨a', ha, hr⟩ := he _ _ _ _ _ _ _ hd
      exact ⟨c, a', hc, ha, hr⟩
    have hlist := list_of_all (R' := fun (q : α × Value) (i : Nat) => ok q.1 ∧ q.2.cells.size = P.cellsOf e ∧ (∀ (j : Nat) (c : Value), q.2.cells[j]? = some c → w.cell? ((a.add (i * P.cellsOf e)).add j) = some c) ∧ R (Old w) w none (mk (en q.1)) q.2) (List.range len) fun i hi => by
      obtain ⟨c, a', hc, ha, hr⟩ := key i (by simpa using hi)
      obtain ⟨hl, hg⟩ := cells?_get hc
      obtain ⟨v, hv, hr'⟩ := hm.val hl (hone a') hr
      refine ⟨(a', v), ha, by rw [← Array.length_toList, hv]; exact hl, fun j c' hj => hg j c' ?_, hr'⟩
      rw [← hv]; simpa using hj
    obtain ⟨qs, hq1, hq2⟩ := hlist
    rw [List.length_range] at hq1
    have hq : ∀ (i : Nat) (q : α × Value), qs[i]? = some q → ok q.1 ∧ q.2.cells.size = P.cellsOf e ∧ (∀ (j : Nat) (c : Value), q.2.cells[j]? = some c → w.cell? ((a.add (i * P.cellsOf e)).add j) = some c) ∧ R (Old w) w none (mk (en q.1)) q.2 := fun i q hi =>
      hq2 i q i hi (by
        have := (List.getElem?_eq_some_iff.1 hi).1
        rw [List.getElem?_range (by omega)])
    refine ⟨qs.map (·.1), ⟨by simp; omega, fun a' ha' => ?_⟩, _, _, rfl, ⟨some a, cap, qs.map (·.2), by simp [hq1], by simp; omega, ?_, ?_⟩, rfl⟩
    · obtain ⟨q, hqm, rfl⟩ := List.mem_map.1 ha'
      obtain ⟨i, hi, rfl⟩ := List.mem_iff_getElem.1 hqm
      exact (hq i _ (List.getElem?_eq_getElem hi)).1
    · rw [RL_iff, LV.l_of, Rs_iff]
      refine ⟨by simp, fun i c v hc hv => ?_⟩
      simp only [List.map_map, List.getElem?_map, Option.map_eq_some_iff] at hc hv
      obtain ⟨q, hq', rfl⟩ := hc
      obtain ⟨q', hq'', rfl⟩ := hv
      rw [hq'] at hq''; cases hq''
      exact (hq i q hq').2.2.2
    · cases hqs : qs with
      | nil => exact .inl rfl
      | cons q0 qr =>
        right
        have hlen : 0 < len := by rw [← hq1, hqs]; simp
        obtain ⟨_, hsz, hcell, _⟩ := hq 0 q0 (by rw [hqs]; rfl)
        have hc0 : ∃ c, q0.2.cells[0]? = some c := ⟨_, Array.getElem?_eq_getElem (by omega)⟩
        obtain ⟨c, hc⟩ := hc0
        have hw := hcell 0 c hc
        have ha0 : a.spot = none ∧ a.block < w.heap.size := by
          simp only [Nat.zero_mul, Addr.add, if_true] at hw
          unfold World.cell? at hw
          split at hw
          · rename_i hb
            split at hw
            · cases hw
            · rename_i hs
              exact ⟨by simpa using hs, (Array.getElem?_eq_some_iff.1 hb).1⟩
          · cases hw
        refine ⟨a, rfl, ha0.1, ha0.2, fun i ev hi => ?_⟩
        rw [← hqs] at hi
        simp only [List.getElem?_map, Option.map_eq_some_iff] at hi
        obtain ⟨q, hq', rfl⟩ := hi
        obtain ⟨_, h1, h2, _⟩ := hq i q hq'
        refine ⟨h1, fun j c hj => ?_⟩
        have := h2 j c hj
        have ea : (a.add (i * P.cellsOf e)).add j = ⟨a.block, a.off + (i * P.cellsOf e + j), none⟩ := by
          obtain ⟨b, o, s⟩ := a
          simp only at ha0
          obtain ⟨rfl, _⟩ := ha0
          simp only [Addr.add]
          by_cases h0 : i * P.cellsOf e = 0 <;> by_cases h1 : j = 0 <;> simp [h0, h1] <;> omega
        rw [← ea]; exact this

/-- fields, one behind the other -/
theorem Dec.fields {t : TypeId} {fs : List Field} {a : Array Field} (ht : P.underlying t = some (.struct a)) (hfs : a.toList = fs) {α : Type} {en : α → List AV} {ok : α → Prop}
    (h : ∀ {H : Type} (enc : TypeId × Value → H) (w : World) (spare : Nat → Bool) (held : Bool) (n : Nat) (cs : List Value), cs.length = P.cellsOf t →
      (∀ f ∈ fs, ∃ x, DataW.trod enc P w 0 spare held n f.type ((cs.drop f.offset).take (P.cellsOf f.type)) = some x) → ∃ a, ok a ∧ Rs (Old w) w none (en a) cs) : Dec P t α en ok := by
  intro H enc w spare held fuel cs x hx
  obtain ⟨xs, n, rfl, rfl, h1, h2, h3⟩ := DataW.trod_struct ht hx
  refine h enc w spare held n cs h1 fun f hf => ?_
  rw [← hfs] at hf
  obtain ⟨i, hi, rfl⟩ := List.mem_iff_getElem.1 hf
  have hi' : i < a.size := by simpa using hi
  have := h3 i a[i] (Array.getElem?_eq_getElem hi')
  rw [List.getElem?_eq_getElem (by omega)] at this
  exact ⟨_, by simpa using this⟩
theorem cut3 (cs : List Value) (o s n : Nat) (h : cs.length = n) (ho : o + s = n) : cs = cs.take o ++ (cs.drop o).take s := by
  have : (cs.drop o).take s = cs.drop o := List.take_of_length_le (by simp; omega)
  rw [this, List.take_append_drop]

theorem Dec.struct2 {t : TypeId} {a : Array Field} (ht : P.underlying t = some (.struct a)) {t0 t1 : TypeId} {s0 s1 : Nat} (hfs : a.toList.map (fun f => (f.type, f.offset)) = [(t0, 0), (t1, s0)]) (h0 : P.cellsOf t0 = s0) (h1 : P.cellsOf t1 = s1) (hs : P.cellsOf t = s0 + s1)
    {α β : Type} {e0 : α → List AV} {e1 : β → List AV} {k0 : α → Prop} {k1 : β → Prop} (d0 : Dec P t0 α e0 k0) (d1 : Dec P t1 β e1 k1) : Dec P t (α × β) (fun p => e0 p.1 ++ e1 p.2) fun p => k0 p.1 ∧ k1 p.2 := by
  refine Dec.fields ht rfl fun {H} enc w spare held n cs hl hf => ?_
  have get : ∀ t o, (t, o) ∈ a.toList.map (fun f => (f.type, f.offset)) → ∃ x, DataW.trod enc P w 0 spare held n t ((cs.drop o).take (P.cellsOf t)) = some x := fun t o hm => by
    obtain ⟨f, hf1, hf2⟩ := List.mem_map.1 hm
    cases hf2
    exact hf f hf1
  rw [hfs] at get
  obtain ⟨x0, g0⟩ := get t0 0 (by simp)
  obtain ⟨x1, g1⟩ := get t1 s0 (by simp)
  obtain ⟨a0, o0, r0⟩ := d0 _ _ _ _ _ _ _ g0
  obtain ⟨a1, o1, r1⟩ := d1 _ _ _ _ _ _ _ g1
  refine ⟨(a0, a1), ⟨o0, o1⟩, ?_⟩
  rw [cut3 cs s0 s1 _ (hl.trans hs) rfl]
  rw [h0] at r0; rw [h1] at r1
  exact Rs_append (by simpa using r0) r1

theorem trodAll_len {W : World} {b : Nat} : ∀ {ts : List TypeId} {vs : List Value} {ds : List (DataW H)} {p : List MemPlace}, DataW.TrodAll enc P W b spare held ts vs ds p → ds.length = ts.length
  | [], [], [], _, _ => rfl
  | _ :: _, _ :: _, _ :: _, _, ⟨_, _, _, h, _⟩ => by simp [trodAll_len h]
  | [], [], _ :: _, _, h => h.elim
  | [], _ :: _, _, _, h => h.elim
  | _ :: _, [], _, _, h => h.elim
  | _ :: _, _ :: _, [], _, h => h.elim
theorem trodAll_carry {W W' : World} (hq : ∀ k, k < W.heap.size → W'.heap[k]? = W.heap[k]?) : ∀ {ts : List TypeId} {vs : List Value} {ds : List (DataW H)} {p : List MemPlace},
    DataW.TrodAll enc P W 0 spare held ts vs ds p → (∀ p' ∈ p, p'.block < W.heap.size) → DataW.TrodAll enc P W' 0 spare held ts vs ds p
  | [], [], [], _, h, _ => h
  | _ :: _, _ :: _, _ :: _, _, ⟨p0, q0, ⟨n, h1⟩, h2, e⟩, lt => by
    subst e
    refine ⟨p0, q0, ⟨n, DataW.trod_carry _ _ _ _ h1 fun pl hpl => ?_⟩, trodAll_carry hq h2 fun p' hp => lt p' (List.mem_append_right _ hp), rfl⟩
    have hlt := lt pl (List.mem_append_left _ hpl)
    cases pl with
    | cell b off => exact World.cell?_of_block (hq b hlt)
    | map b => exact hq b hlt
  | [], [], _ :: _, _, h, _ => h.elim
  | [], _ :: _, _, _, h, _ => h.elim
  | _ :: _, [], _, _, h, _ => h.elim
  | _ :: _, _ :: _, [], _, h, _ => h.elim
theorem post_true {H : Type} {enc : TypeId × Value → H} {f : Func} {s : ChangeSpec} {W W' : World} {args : Array Value} {ds gs : List (DataW H)} {before : List MemPlace} {tb : TypeId}
    (hW : DataW.Whole enc P f.params.toList s.vars false W args.toList ds gs before) (hv : s.vars = []) (hres : f.resultTypes = #[tb]) (htb : P.underlying tb = some .bool)
    (hs : ∀ ds' : List (DataW H), ds'.length = f.params.size → s.fn H ds' = { results := [.lit (.bool true)], args := ds' })
    (hl : laidOutB P = true) (hm : mapsRowed P = true) (hz : ((List.range P.types.size).all fun t => match P.underlying t with | some (.slice e) => decide (0 < P.cellsOf e) | _ => true) = true) (hT : ∀ t ∈ f.params.toList, t < P.types.size)
    (hq : ∀ k, k < W.heap.size → W'.heap[k]? = W.heap[k]?) (fr : Fr W W') : s.post enc P f false true false false W args (.bool true) W' := by
  have hW' := hW
  obtain ⟨p, q, hA, hV, rfl, hfz, hnd⟩ := hW
  rw [hv] at hV
  obtain ⟨rfl, rfl⟩ := trodVars_none hV
  have hlen : ds.length = f.params.size := by have := trodAll_len hA; simpa using this
  have hsd := hs (ds ++ []) (by simpa using hlen)
  have hall : ∀ (b : Nat) (sp : Nat → Bool) (hd : Bool), DataW.TrodAll enc P W' b sp hd [tb] [.bool true] [.lit (.bool true)] [] := fun b sp hd => ⟨[], [], ⟨1, by simp [DataW.trod, htb, Value.cells]⟩, rfl, rfl⟩
  refine post_of_same (pa := p) (pv := []) hW' (fun b sp hd => ?_) (fun sp hsp => ?_) (fun sp _ => ?_) (by simp) ?_ fr.frozen ?_
  · rw [hsd, hres]; exact hall b sp hd
  · rw [hsd]
    simp only [List.append_nil]
    have carry : DataW.TrodAll enc P W' 0 (fun _ => true) true f.params.toList args.toList ds p := trodAll_carry hq hA fun p' hp => hW'.lt p' (by simpa using hp)
    exact carry.respare (kids_rows hl hm) (fun t e ht hu => slices_full_of P hz t e ht hu) hT fun p' hp => hsp p' (by simpa using hp)
  · rw [hsd, hv]; rfl
  · refine ⟨fr.os, fr.output, fun i hi => ?_⟩
    rw [hq i hi]
    cases h : W.heap[i]? with
    | none => trivial
    | some o => cases o <;> simp
  · exact ok_one hres rfl (okWide_bool_mk htb _)

def Arg (P : Program) (t : TypeId) (α : Type) (en : α → AV) (ok : α → Prop) : Prop :=
  ∀ {H : Type} (enc : TypeId × Value → H) (W : World) (base : Nat) (v : Value) (d : DataW H) (p : List MemPlace), Value.okWide P W .any base t v → DataW.Trod enc P W 0 (fun _ => true) true t v d p → ∃ a, ok a ∧ R (Old W) W none (en a) v
theorem Arg.agg {t : TypeId} {a : Array Field} (ht : P.underlying t = some (.struct a)) {α : Type} {en : α → List AV} {ok : α → Prop} (h : Dec P t α en ok) : Arg P t α (fun a => .agg (en a)) ok := by
  intro H enc W base v d p hok ⟨n, hn⟩
  simp only [Value.okWide, ht] at hok
  obtain ⟨cs, rfl, _⟩ := hok
  obtain ⟨x, h1, h2⟩ := h _ _ _ _ _ _ _ hn
  exact ⟨x, h1, cs.toList, by simp, by simpa [Value.cells] using h2⟩
theorem Arg.one {t : TypeId} {k : TypeDesc} (ht : P.underlying t = some k) (hk : match k with | .int _ | .bool | .slice _ => True | _ => False) {α : Type} {en : α → AV} {ok : α → Prop} (h : Dec P t α (fun a => [en a]) ok) : Arg P t α en ok := by
  intro H enc W base v d p hok ⟨n, hn⟩
  obtain ⟨x, h1, y, ys, h2, h3, h4⟩ := h _ _ _ _ _ _ _ hn
  have h4 : ys = [] := h4
  subst h4
  have hv : v = y := by
    cases v
    case agg cs => cases k <;> first | exact hk.elim | simp [Value.okWide, ht, Cell.okWide, Cell.ok] at hok
    all_goals (simp [Value.cells] at h2; exact h2)
  subst hv
  exact ⟨x, h1, h3⟩

/-- A LAW, from its contract. -/
theorem law_true {γ : Nat → Option AV} {f : FuncId} {fn : Func} {s : ChangeSpec} {W : World} {args : Array Value} {ds gs : List (DataW H)} {before : List MemPlace} {tb : TypeId} {avs : List AV} (hp : Pure P γ false f avs (.b fun _ => true)) (hr : Rs (Old W) W none avs args.toList)
    (hγ : ∀ g x, γ g = some x → R (Old W) W none (.vp (fun _ => x) 0) (.pointer (some ⟨g, 0, none⟩)))
    (hW : DataW.Whole enc P fn.params.toList s.vars false W args.toList ds gs before) (hv : s.vars = []) (hres : fn.resultTypes = #[tb]) (htb : P.underlying tb = some .bool)
    (hs : ∀ ds' : List (DataW H), ds'.length = fn.params.size → s.fn H ds' = { results := [.lit (.bool true)], args := ds' })
    (hl : laidOutB P = true) (hm : mapsRowed P = true) (hz : ((List.range P.types.size).all fun t => match P.underlying t with | some (.slice e) => decide (0 < P.cellsOf e) | _ => true) = true) (hT : ∀ t ∈ fn.params.toList, t < P.types.size) :
    Calls P f args W fun e W' => ∃ v, e = .returned v ∧ s.post enc P fn false true false false W args v W' := by
  have := hp.2 (Old W) W args.toList (fun k hk => hk) hγ hr
  refine (this.mono fun e w' ⟨v', S', h1, h2, h3⟩ => ?_)
  have h2 : v' = .bool true := h2
  subst h2
  exact ⟨_, h1, post_true hW hv hres htb hs hl hm hz hT h3.same h3.fr⟩
end
end Go.AL

namespace Go.AL
open Go Go.RowKit Go.ChangeShapes Go.WideShapes
section
variable {P : Program}
theorem Dec.imap {t : TypeId} {α β : Type} {en : α → List AV} {ok : α → Prop} {en' : β → List AV} {ok' : β → Prop} (d : Dec P t α en ok) (f : α → β) (he : ∀ a, en a = en' (f a)) (hk : ∀ a, ok a → ok' (f a)) : Dec P t β en' ok' := by
  intro H enc w spare held fuel cs x h
  obtain ⟨a, h1, h2⟩ := d _ _ _ _ _ _ _ h
  exact ⟨f a, hk a h1, by rw [← he]; exact h2⟩
theorem Dec.struct4 {t : TypeId} {a : Array Field} (ht : P.underlying t = some (.struct a)) {t0 t1 t2 t3 : TypeId} (hfs : a.toList.map (fun f => (f.type, f.offset)) = [(t0, 0), (t1, 1), (t2, 2), (t3, 3)])
    (h0 : P.cellsOf t0 = 1) (h1 : P.cellsOf t1 = 1) (h2 : P.cellsOf t2 = 1) (h3 : P.cellsOf t3 = 1) (hs : P.cellsOf t = 4)
    {A0 A1 A2 A3 : Type} {e0 : A0 → List AV} {e1 : A1 → List AV} {e2 : A2 → List AV} {e3 : A3 → List AV} {k0 : A0 → Prop} {k1 : A1 → Prop} {k2 : A2 → Prop} {k3 : A3 → Prop}
    (d0 : Dec P t0 A0 e0 k0) (d1 : Dec P t1 A1 e1 k1) (d2 : Dec P t2 A2 e2 k2) (d3 : Dec P t3 A3 e3 k3) :
    Dec P t (A0 × A1 × A2 × A3) (fun p => e0 p.1 ++ (e1 p.2.1 ++ (e2 p.2.2.1 ++ e3 p.2.2.2))) fun p => k0 p.1 ∧ k1 p.2.1 ∧ k2 p.2.2.1 ∧ k3 p.2.2.2 := by
  refine Dec.fields ht rfl fun {H} enc w spare held n cs hl hf => ?_
  have get : ∀ t o, (t, o) ∈ a.toList.map (fun f => (f.type, f.offset)) → ∃ x, DataW.trod enc P w 0 spare held n t ((cs.drop o).take (P.cellsOf t)) = some x := fun t o hm => by
    obtain ⟨f, hf1, hf2⟩ := List.mem_map.1 hm
    cases hf2
    exact hf f hf1
  rw [hfs] at get
  rw [hs] at hl
  match cs, hl with
  | [c0, c1, c2, c3], _ =>
    obtain ⟨x0, g0⟩ := get t0 0 (by simp)
    obtain ⟨x1, g1⟩ := get t1 1 (by simp)
    obtain ⟨x2, g2⟩ := get t2 2 (by simp)
    obtain ⟨x3, g3⟩ := get t3 3 (by simp)
    obtain ⟨a0, o0, r0⟩ := d0 _ _ _ _ _ _ _ g0
    obtain ⟨a1, o1, r1⟩ := d1 _ _ _ _ _ _ _ g1
    obtain ⟨a2, o2, r2⟩ := d2 _ _ _ _ _ _ _ g2
    obtain ⟨a3, o3, r3⟩ := d3 _ _ _ _ _ _ _ g3
    rw [h0] at r0; rw [h1] at r1; rw [h2] at r2; rw [h3] at r3
    exact ⟨(a0, a1, a2, a3), ⟨o0, o1, o2, o3⟩, Rs_append (vals := [c0]) r0 (Rs_append (vals := [c1]) r1 (Rs_append (vals := [c2]) r2 r3))⟩
theorem Dec.struct5 {t : TypeId} {a : Array Field} (ht : P.underlying t = some (.struct a)) {e f : TypeId} (hfs : a.toList.map (fun f => (f.type, f.offset)) = [(e, 0), (e, 1), (e, 2), (f, 3), (f, 4)])
    (h0 : P.cellsOf e = 1) (h1 : P.cellsOf f = 1) (hs : P.cellsOf t = 5) {A0 : Type} {e0 : A0 → List AV} {k0 : A0 → Prop} (d0 : Dec P e A0 e0 k0) (d1 : Dec P f A0 e0 k0) :
    Dec P t (A0 × A0 × A0 × A0 × A0) (fun p => e0 p.1 ++ (e0 p.2.1 ++ (e0 p.2.2.1 ++ (e0 p.2.2.2.1 ++ e0 p.2.2.2.2)))) fun p => k0 p.1 ∧ k0 p.2.1 ∧ k0 p.2.2.1 ∧ k0 p.2.2.2.1 ∧ k0 p.2.2.2.2 := by
  refine Dec.fields ht rfl fun {H} enc w spare held n cs hl hf => ?_
  have get : ∀ t o, (t, o) ∈ a.toList.map (fun f => (f.type, f.offset)) → ∃ x, DataW.trod enc P w 0 spare held n t ((cs.drop o).take (P.cellsOf t)) = some x := fun t o hm => by
    obtain ⟨f, hf1, hf2⟩ := List.mem_map.1 hm
    cases hf2
    exact hf f hf1
  rw [hfs] at get
  rw [hs] at hl
  match cs, hl with
  | [c0, c1, c2, c3, c4], _ =>
    obtain ⟨x0, g0⟩ := get e 0 (by simp)
    obtain ⟨x1, g1⟩ := get e 1 (by simp)
    obtain ⟨x2, g2⟩ := get e 2 (by simp)
    obtain ⟨x3, g3⟩ := get f 3 (by simp)
    obtain ⟨x4, g4⟩ := get f 4 (by simp)
    obtain ⟨a0, o0, r0⟩ := d0 _ _ _ _ _ _ _ g0
    obtain ⟨a1, o1, r1⟩ := d0 _ _ _ _ _ _ _ g1
    obtain ⟨a2, o2, r2⟩ := d0 _ _ _ _ _ _ _ g2
    obtain ⟨a3, o3, r3⟩ := d1 _ _ _ _ _ _ _ g3
    obtain ⟨a4, o4, r4⟩ := d1 _ _ _ _ _ _ _ g4
    rw [h0] at r0 r1 r2; rw [h1] at r3 r4
    exact ⟨(a0, a1, a2, a3, a4), ⟨o0, o1, o2, o3, o4⟩, Rs_append (vals := [c0]) r0 (Rs_append (vals := [c1]) r1 (Rs_append (vals := [c2]) r2 (Rs_append (vals := [c3]) r3 r4)))⟩
end
end Go.AL

namespace Go.AL.Rl
open Go Go.AL Go.Proofs Go.RowKit Go.ChangeShapes Go.WideShapes Go.ChangeAt Go.Proofs.Ytljjjeehpiaglaa
set_option maxRecDepth 100000

theorem laidOut : laidOutB Try.prog = true := by kernel_rfl
theorem mapsOk : mapsRowed Try.prog = true := by kernel_rfl
theorem slicesOk : ((List.range Try.prog.types.size).all fun t => match Try.prog.underlying t with | some (.slice e) => decide (0 < Try.prog.cellsOf e) | _ => true) = true := by kernel_rfl
theorem own : ownKnob Try.prog.godebug = none := by kernel_rfl
def γ0 : Nat → Option AV := fun _ => none
theorem gok0 {W : World} : ∀ g x, γ0 g = some x → R (Old W) W none (.vp (fun _ => x) 0) (.pointer (some ⟨g, 0, none⟩)) := fun g x h => by cases h
theorem aInt : Arg Try.prog 3 Int (fun n => .i fun _ => n) (fun n => -9223372036854775808 ≤ n ∧ n ≤ 9223372036854775807) := Arg.one Try.underlying3 trivial (Dec.int Try.underlying3)
theorem dInts : Dec Try.prog 22 (List Int) (fun l => [.vs 1 fun _ => is l]) fun l => l.length ≤ maxLen :=
  Dec.imap (Dec.slice Try.underlying22 (k := 1) (by kernel_rfl) (by omega) (Dec.int Try.underlying2) (fun _ => rfl) Elem.one) id (fun _ => rfl) fun _ h => h.1
theorem dEv : Dec Try.prog 72 Ev (fun e => [.i fun _ => e.kind, .i fun _ => e.loc, .i fun _ => e.order, .i fun _ => e.rd, .i fun _ => e.wr]) fun _ => True :=
  Dec.imap (Dec.struct5 Try.underlying72 (e := 3) (f := 2) (by kernel_rfl) (by kernel_rfl) (by kernel_rfl) (by kernel_rfl) (Dec.int Try.underlying3) (Dec.int Try.underlying2)) (fun p => ⟨p.1, p.2.1, p.2.2.1, p.2.2.2.1, p.2.2.2.2⟩) (fun _ => rfl) fun _ _ => trivial
theorem dId : Dec Try.prog 78 EId (fun e => [.i fun _ => e.t, .i fun _ => e.i]) fun _ => True :=
  Dec.imap (Dec.struct2 Try.underlying78 (t0 := 3) (t1 := 3) (s0 := 1) (s1 := 1) (by kernel_rfl) (by kernel_rfl) (by kernel_rfl) (by kernel_rfl) (Dec.int Try.underlying3) (Dec.int Try.underlying3)) (fun p => ⟨p.1, p.2⟩) (fun _ => rfl) fun _ _ => trivial
theorem dEvs : Dec Try.prog 51 (List Ev) (fun l => [.vs 5 fun _ => evs l]) fun l => l.length ≤ maxLen :=
  Dec.imap (Dec.slice Try.underlying51 (k := 5) (by kernel_rfl) (by omega) dEv (fun _ => rfl) (Elem.agg 5)) id (fun _ => rfl) fun _ h => h.1
theorem dIds : Dec Try.prog 52 (List EId) (fun l => [.vs 2 fun _ => ids l]) fun l => l.length ≤ maxLen :=
  Dec.imap (Dec.slice Try.underlying52 (k := 2) (by kernel_rfl) (by omega) dId (fun _ => rfl) (Elem.agg 2)) id (fun _ => rfl) fun _ h => h.1
theorem dEvss : Dec Try.prog 23 (List (List Ev)) (fun l => [.vs 1 fun _ => evss l]) fun l => l.length ≤ maxLen ∧ ∀ a ∈ l, a.length ≤ maxLen :=
  Dec.imap (Dec.slice Try.underlying23 (k := 1) (by kernel_rfl) (by omega) dEvs (fun _ => rfl) Elem.one) id (fun _ => rfl) fun _ h => h
theorem dIdss : Dec Try.prog 24 (List (List EId)) (fun l => [.vs 1 fun _ => idss l]) fun l => l.length ≤ maxLen ∧ ∀ a ∈ l, a.length ≤ maxLen :=
  Dec.imap (Dec.slice Try.underlying24 (k := 1) (by kernel_rfl) (by omega) dIds (fun _ => rfl) Elem.one) id (fun _ => rfl) fun _ h => h
theorem dGr : Dec Try.prog 26 Gr (fun g => [.vs 1 fun _ => is g.init, .vs 1 fun _ => evss g.th, .vs 1 fun _ => idss g.fr, .vs 1 fun _ => idss g.ord]) Rd :=
  Dec.imap (Dec.struct4 Try.underlying26 (t0 := 22) (t1 := 23) (t2 := 24) (t3 := 24) (by kernel_rfl) (by kernel_rfl) (by kernel_rfl) (by kernel_rfl) (by kernel_rfl) (by kernel_rfl) dInts dEvss dIdss dIdss)
    (fun p => ⟨p.1, p.2.1, p.2.2.1, p.2.2.2⟩) (fun _ => rfl) fun p h => by
      have e : maxLen = 9223372036854775807 := by decide +kernel
      obtain ⟨h0, ⟨h1, h1'⟩, ⟨h2, h2'⟩, h3, h3'⟩ := h
      rw [e] at *
      exact ⟨by dsimp only; omega, by dsimp only; omega, by dsimp only; omega, by dsimp only; omega, fun l hl => by have := h1' l hl; omega, fun l hl => by have := h2' l hl; omega, fun l hl => by have := h3' l hl; omega⟩
theorem aGraph : Arg Try.prog 26 Gr aGr Rd := Arg.agg Try.underlying26 dGr
end Go.AL.Rl

namespace Go.AL.Rl
open Go Go.AL Go.Proofs
set_option maxRecDepth 100000
open Go.RowKit Go.ChangeShapes Go.WideShapes Go.ChangeAt Go.Proofs.Ytljjjeehpiaglaa
namespace DeriveCalls
theorem contract (H : Type) (enc : TypeId × Value → H) (W : World) (base : Nat) (args : Array Value) (ds gs : List (DataW H)) (before : List MemPlace)
    (hval : ∀ (j : Nat) t v, Try.f3.params[j]? = some t → args[j]? = some v → Value.okWide Try.prog W .any base t v)
    (hW : DataW.Whole enc Try.prog Try.f3.params.toList Rows.deriveCallsSpec.vars false W args.toList ds gs before) (hL : laidMet Try.prog Rows.deriveCallsRow.laid W) :
    Calls Try.prog 3 args W fun e W' => ∃ v, e = .returned v ∧ Rows.deriveCallsSpec.post enc Try.prog Try.f3 false true false false W args v W' := by
  have hW' := hW
  obtain ⟨p, q, hA, hV, rfl, hfz, hnd⟩ := hW
  rw [Try.params3] at hA hval
  obtain ⟨v0, vs0, d0, ds0, p0, q0, hargs, rfl, rfl, h0, r0⟩ := trodAll_cons hA
  obtain ⟨v1, vs1, d1, ds1, p1, q1, rfl, rfl, rfl, h1, r1⟩ := trodAll_cons r0
  obtain ⟨v2, vs2, d2, ds2, p2, q2, rfl, rfl, rfl, h2, r2⟩ := trodAll_cons r1
  obtain ⟨v3, vs3, d3, ds3, p3, q3, rfl, rfl, rfl, h3, r3⟩ := trodAll_cons r2
  obtain ⟨rfl, rfl, rfl⟩ := trodAll_nil r3
  obtain rfl : args = #[v0, v1, v2, v3] := by cases args; simp_all
  obtain ⟨x0, k0, a0⟩ := aGraph enc W base v0 d0 p0 (hval 0 _ v0 rfl rfl) h0
  obtain ⟨x1, k1, a1⟩ := aInt enc W base v1 d1 p1 (hval 1 _ v1 rfl rfl) h1
  obtain ⟨x2, k2, a2⟩ := aInt enc W base v2 d2 p2 (hval 2 _ v2 rfl rfl) h2
  obtain ⟨x3, k3, a3⟩ := aInt enc W base v3 d3 p3 (hval 3 _ v3 rfl rfl) h3
  exact law_true (deriveCalls_ok (γ := γ0) x0 k0 x1 x2 x3) ⟨_, _, rfl, a0, _, _, rfl, a1, _, _, rfl, a2, _, _, rfl, a3, rfl⟩ gok0 hW' rfl (tb := 4) (by kernel_rfl) Try.underlying4
    (fun ds' h => by match ds', h with | [a, b, c, d], _ => rfl) laidOut mapsOk slicesOk (by rw [Try.params3]; decide +kernel)
theorem laid_met (os : Os) : laidMet Try.prog Rows.deriveCallsRow.laid ((World.holding Try.prog os ⟨#[], #[], []⟩).forCall (fun _ _ => 0) ⟨#[], #[.agg #[.slice none 0 0, .slice none 0 0, .slice none 0 0, .slice none 0 0], .int .i64 0, .int .i64 0, .int .i64 0], []⟩).memory :=
  laidMet_of_run' 8 (by kernel_rfl) (by kernel_rfl)
theorem reads (os : Os) {H : Type} (enc : TypeId × Value → H) : ∃ places, DataW.whole enc Try.prog ((World.holding Try.prog os ⟨#[], #[], []⟩).forCall (fun _ _ => 0) ⟨#[], #[.agg #[.slice none 0 0, .slice none 0 0, .slice none 0 0, .slice none 0 0], .int .i64 0, .int .i64 0, .int .i64 0], []⟩).memory Try.f3.params.toList Rows.deriveCallsSpec.vars false (#[.agg #[.slice none 0 0, .slice none 0 0, .slice none 0 0, .slice none 0 0], .int .i64 0, .int .i64 0, .int .i64 0] : Array Value).toList 8 = some ([.agg [.nil, .nil, .nil, .nil], .lit (.int .i64 0), .lit (.int .i64 0), .lit (.int .i64 0)], [], places) :=
  ⟨[], by kernel_rfl⟩
theorem lifted (os : Os) (started : os.Started) (H : Type) (enc : TypeId × Value → H) (F : Stop.Interp) :
    ReturnsInHanded {} Try.checked os 3 .any ((OpenSpec.ofChange Rows.deriveCallsSpec).preRow enc Try.prog Try.f3 Rows.deriveCallsRow.domain false Rows.deriveCallsRow.laid) (((OpenSpec.ofChange Rows.deriveCallsSpec).at F).post enc Try.prog Try.f3 false true false false) := by
  obtain ⟨places, hx⟩ := reads os enc
  refine returnsInHanded_of_row (C := Try.checked) (s := OpenSpec.ofChange Rows.deriveCallsSpec) own started (by kernel_rfl) Try.func3
    (witness_row_at (enc := enc) (C := Try.checked) false (World.holding Try.prog os ⟨#[], #[], []⟩) #[.agg #[.slice none 0 0, .slice none 0 0, .slice none 0 0, .slice none 0 0], .int .i64 0, .int .i64 0, .int .i64 0] rfl (by kernel_rfl) (by kernel_rfl) (by kernel_rfl)
      (OpenSpec.preRow_of_cond 8 hx (by kernel_rfl) (fun k hk => by cases hk) (by kernel_rfl) (laid_met os))) ?_
  intro W base args ds gs before hval hW _ _ _ hL _ _
  exact contract H enc W base args ds gs before hval hW hL
theorem said : Rows.DeriveCallsSaid :=
  OpenClaim.holds_of_cond 3 Try.f3 rfl rfl rfl rfl rfl rfl rfl ⟨rfl, rfl, rfl, rfl, rfl⟩ rfl rfl rfl rfl rfl (by kernel_rfl) Try.func3 (by kernel_rfl)
    (of_decide_eq_true (by kernel_rfl)) (by unfold Func.isWrapper; first | (rw [if_pos (by decide +kernel)]; kernel_rfl) | (rw [if_neg (by decide +kernel)]; exact ⟨rfl, rfl⟩))
    (fun os started H enc _ F => by rw [OpenClaim.pre_eq_preRow]; exact lifted os started H enc F)
end DeriveCalls
end Go.AL.Rl
