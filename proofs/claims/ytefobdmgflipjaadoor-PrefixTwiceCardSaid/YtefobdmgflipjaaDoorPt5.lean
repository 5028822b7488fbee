import Derived.Test.YtefobdmgflipjaaDoorPt4
set_option linter.unusedVariables false
set_option linter.unusedSimpArgs false
namespace Go.AL.Rl
open Go Go.AL Go.Proofs
set_option maxRecDepth 100000
set_option maxHeartbeats 1600000
variable {γ : Nat → Option AV}

noncomputable def tgtM (V : Vw) (n w : Nat) : BitVec 64 := maskTo (fun a => acqM (V.ev.getD a ev0) && behM V n (maskTo (rdrM V (seqM V n w)) n) a) n
def swR (V : Vw) (w r : Nat) : Bool := writesM (V.ev.getD w ev0) && decide ((V.ev.getD w ev0).order ≠ 1) && relM (V.ev.getD r ev0) && (decide (r = w) || fenceM (V.ev.getD r ev0) && poM V r w)
noncomputable def rowT (V : Vw) (n : Nat) : Nat → Nat → BitVec 64
  | 0, _ => 0#64
  | w + 1, r => if swR V w r = true then rowT V n w r ||| tgtM V n w else rowT V n w r
theorem tgt_zero (V : Vw) (n w : Nat) (h : maskTo (rdrM V (seqM V n w)) n = 0#64) : tgtM V n w = 0#64 := by
  unfold tgtM
  rw [h]
  have : ∀ k, maskTo (fun a => acqM (V.ev.getD a ev0) && behM V n 0#64 a) k = 0#64 := by
    intro k
    induction k with
    | zero => rfl
    | succ k ih => unfold maskTo; rw [ih]; simp [behM]
  exact this n
theorem rowT_same (V : Vw) (n w : Nat) (r : Nat) (h : swR V w r = false ∨ tgtM V n w = 0#64) : rowT V n (w + 1) r = rowT V n w r := by
  unfold rowT
  rcases h with h | h
  · rw [if_neg (by simp [h])]; cases w <;> rfl
  · rw [h]; simp; cases w <;> rfl
noncomputable def swRows (V : Vw) (n : Nat) : List (BitVec 64) := tab n (rowT V n n)
theorem row0 (V : Vw) (n : Nat) : us (tab n (rowT V n 0)) = LV.of (List.replicate n (.u fun _ => 0#64)) := by
  rw [show rowT V n 0 = fun _ => 0#64 from rfl, tab_zero]; simp [us]
theorem ustab_get (n : Nat) (f : Nat → BitVec 64) (r : Nat) (h : r < n) : (us (tab n f)).l.getD r .any = .u fun _ => f r := by
  rw [us_get _ r (by rw [tab_len]; exact h), tab_get n f r h]
theorem dsw_ok (V : Vw) {n : Nat} (hV : Wf V n) : Pure Tryd.prog γ false 55 [pVw V] (encRel n (relRows n (bit (swRows V n)))) := by
  have h1 := hV.ids
  have h1e := hV.ev
  have h5 := hV.small
  have hlr : (swRows V n).length = n := by simp [swRows]
  have hrel := drel2_ok V hV 80 (fun _ => .vs 1 fun _ => us (swRows V n)) (bit (swRows V n)) fun a ha b hb => sw3_ok (γ := γ) (swRows V n) n hlr (by omega) a b ha hb
  refine Pure.goL (ty := ty) ty_eq mo Tryd.func55 rfl Tryd.ntmps55 Tryd.results55 Tryd.call55 (by simp) fun P C CQ D W F E hF => ?_
  refine E.cut 4 (told 88 [(1, .ptr 0 0), (2, .ptr 1 0), (3, .vp (fun _ => .vs 1 fun _ => us (swRows V n)) 0)] [.box (pVw V), .box (.agg [.lit 0, .nils])]) (by kernel_rfl) (Nat.zero_le _) (fun I hI => ?_) (E.bl ?_)
  · cbv
    repeat' (first
      | (refine ⟨fun _ h_s => ?_, fun _ h_s => ?_⟩ <;> (cbv; (try simp only [nc] at *); try simp (disch := (first | omega | (simp only [lnS, zA, zM, zG, zP]; omega))) only [nc, nct, w64_of, zT, zZ, zM, rdS, at_agg, bofZ, bof1, bof0, zC, zS, reduceCtorEq, Bool.not_true, Bool.not_false, zD, zE, zB, zF, zN, zO, ne_eq, zQ, zL, zR, beq_iff_eq] at h_s))
      | (refine hF ?_; intro _; clear hF)
      | (refine hF ?_; cbv; clear hF)
      | (refine ⟨fun _ => ?_, ?_⟩; (· ((try simp only [nc] at *); first | done | omega | exact ⟨by omega, rfl⟩ | (simp (disch := (first | omega | (simp only [lnS, zA, zM, zG, zP]; omega))) only [nc, nct, w64_of, zT, zZ, zM, rdS, at_agg, bofZ, bof1, bof0, zC, zS]; first | done | omega | rfl | exact ⟨by omega, rfl⟩ | (simp; done) | (simp; omega)) | (intros; trivial))); (try (simp only [nc] at *)); (try simp (disch := (first | omega | (simp only [lnS, zA, zM, zG, zP]; omega))) only [nc, nct, w64_of, zT, zZ, zM, rdS, at_agg, bofZ, bof1, bof0, zC, zS]); (try cbv))
      | fail
    )
    refine E.loopS (ι := Nat) (fun w => w ≤ n) (fun w => n - w) (fun w => [(20, .i fun _ => ((w : Nat) : Int))]) (fun w h => h.set 2 (.run 0 1 fun _ => us (tab n (rowT V n w)))) 0 (fun _ => by first | rfl | simp) (Nat.zero_le _) ?_ fun w hw I hI' => ?_
    · cbv
      (try simp only [nc] at *)
      refine ⟨by simp, ⟨by simp, by simp, ⟨fun _ => ⟨trivial, ?_⟩, by simp⟩⟩⟩
      rw [h1, row0]; rfl
    cbv
    have hsq := sequence_ok (γ := γ) V hV w
    have hm1 := dmask3_ok V hV 74 (fun _ => pVw V) (fun _ => .u fun _ => seqM V n w) (rdrM V (seqM V n w)) fun k hk => sw1_ok (γ := γ) V hV (seqM V n w) k hk
    have hm2 := dmask3_ok V hV 75 (fun _ => pVw V) (fun _ => .u fun _ => maskTo (rdrM V (seqM V n w)) n) (fun a => acqM (V.ev.getD a ev0) && behM V n (maskTo (rdrM V (seqM V n w)) n) a) fun k hk => sw2_ok (γ := γ) V hV _ k hk
    repeat' (first
      | (refine hI' (w + 1) ?_ ?_ ?_; rotate_left 1; (· ((try simp only [nc] at *); omega)); (cbv; clear hI'; (try clear hF); (try simp only [nc] at *); (try simp (disch := (first | omega | (simp only [lnS, zA, zM, zG, zP]; omega))) only [nc, nct, w64_of, zT, zZ, zM, rdS, at_agg, bofZ, bof1, bof0, zC, zS, implies_true, and_true, true_and, forall_const])); rotate_left 1; (try ((try simp only [nc] at *); omega)))
      | (refine E.c (SCalls.of_bare (hm2) rfl ?_ ?_); (· (cbv; (try simp only [nc] at *); first | done | (simp; done) | (simp (disch := (first | omega | (simp only [lnS, zA, zM, zG, zP]; omega))) only [nc, nct, w64_of, zT, zZ, zM, rdS, at_agg, bofZ, bof1, bof0, zC, zS, implies_true, and_true, true_and, forall_const]; first | done | omega | (refine ⟨?_, ?_⟩ <;> omega)) | (simp (disch := (first | omega | (simp only [lnS, zA, zM, zG, zP]; omega))) [nc, nct, w64_of, zT, zZ, zM, rdS, at_agg, bofZ, bof1, bof0, zC, zS]; done))); cbv)
      | (refine E.q (QCalls.of_bare (hm2) rfl ?_ ?_); (· (cbv; (try simp only [nc] at *); first | done | (simp; done) | (simp (disch := (first | omega | (simp only [lnS, zA, zM, zG, zP]; omega))) only [nc, nct, w64_of, zT, zZ, zM, rdS, at_agg, bofZ, bof1, bof0, zC, zS, implies_true, and_true, true_and, forall_const]; first | done | omega | (refine ⟨?_, ?_⟩ <;> omega)) | (simp (disch := (first | omega | (simp only [lnS, zA, zM, zG, zP]; omega))) [nc, nct, w64_of, zT, zZ, zM, rdS, at_agg, bofZ, bof1, bof0, zC, zS]; done))); cbv)
      | (refine E.c (SCalls.of_bare (hm1) rfl ?_ ?_); (· (cbv; (try simp only [nc] at *); first | done | (simp; done) | (simp (disch := (first | omega | (simp only [lnS, zA, zM, zG, zP]; omega))) only [nc, nct, w64_of, zT, zZ, zM, rdS, at_agg, bofZ, bof1, bof0, zC, zS, implies_true, and_true, true_and, forall_const]; first | done | omega | (refine ⟨?_, ?_⟩ <;> omega)) | (simp (disch := (first | omega | (simp only [lnS, zA, zM, zG, zP]; omega))) [nc, nct, w64_of, zT, zZ, zM, rdS, at_agg, bofZ, bof1, bof0, zC, zS]; done))); cbv)
      | (refine E.q (QCalls.of_bare (hm1) rfl ?_ ?_); (· (cbv; (try simp only [nc] at *); first | done | (simp; done) | (simp (disch := (first | omega | (simp only [lnS, zA, zM, zG, zP]; omega))) only [nc, nct, w64_of, zT, zZ, zM, rdS, at_agg, bofZ, bof1, bof0, zC, zS, implies_true, and_true, true_and, forall_const]; first | done | omega | (refine ⟨?_, ?_⟩ <;> omega)) | (simp (disch := (first | omega | (simp only [lnS, zA, zM, zG, zP]; omega))) [nc, nct, w64_of, zT, zZ, zM, rdS, at_agg, bofZ, bof1, bof0, zC, zS]; done))); cbv)
      | (refine E.c (SCalls.of_le (hsq (by ((try simp only [nc] at *); omega))) ?_ ?_); (· (cbv; (try simp only [nc] at *); first | done | (simp; done) | (simp (disch := (first | omega | (simp only [lnS, zA, zM, zG, zP]; omega))) only [nc, nct, w64_of, zT, zZ, zM, rdS, at_agg, bofZ, bof1, bof0, zC, zS, implies_true, and_true, true_and, forall_const]; first | done | omega | (refine ⟨?_, ?_⟩ <;> omega)) | (simp (disch := (first | omega | (simp only [lnS, zA, zM, zG, zP]; omega))) [nc, nct, w64_of, zT, zZ, zM, rdS, at_agg, bofZ, bof1, bof0, zC, zS]; done))); cbv)
      | (refine E.c (SCalls.of_le (dwrites_ok V hV w (by ((try simp only [nc] at *); omega))) ?_ ?_); (· (cbv; (try simp only [nc] at *); first | done | (simp; done) | (simp (disch := (first | omega | (simp only [lnS, zA, zM, zG, zP]; omega))) only [nc, nct, w64_of, zT, zZ, zM, rdS, at_agg, bofZ, bof1, bof0, zC, zS, implies_true, and_true, true_and, forall_const]; first | done | omega | (refine ⟨?_, ?_⟩ <;> omega)) | (simp (disch := (first | omega | (simp only [lnS, zA, zM, zG, zP]; omega))) [nc, nct, w64_of, zT, zZ, zM, rdS, at_agg, bofZ, bof1, bof0, zC, zS]; done))); cbv)
      | (refine ⟨fun _ h_s => ?_, fun _ h_s => ?_⟩ <;> (cbv; (try simp only [nc] at *); try simp (disch := (first | omega | (simp only [lnS, zA, zM, zG, zP]; omega))) only [nc, nct, w64_of, zT, zZ, zM, rdS, at_agg, bofZ, bof1, bof0, zC, zS, reduceCtorEq, Bool.not_true, Bool.not_false, zD, zE, zB, zF, zN, zO, ne_eq, zQ, zL, zR, beq_iff_eq] at h_s))
      | (refine hF ?_; intro _; clear hF)
      | (refine hF ?_; cbv; clear hF)
      | (refine ⟨fun _ => ?_, ?_⟩; (· ((try simp only [nc] at *); first | done | omega | exact ⟨by omega, rfl⟩ | (simp (disch := (first | omega | (simp only [lnS, zA, zM, zG, zP]; omega))) only [nc, nct, w64_of, zT, zZ, zM, rdS, at_agg, bofZ, bof1, bof0, zC, zS]; first | done | omega | rfl | exact ⟨by omega, rfl⟩ | (simp; done) | (simp; omega)) | (intros; trivial))); (try (simp only [nc] at *)); (try simp (disch := (first | omega | (simp only [lnS, zA, zM, zG, zP]; omega))) only [nc, nct, w64_of, zT, zZ, zM, rdS, at_agg, bofZ, bof1, bof0, zC, zS]); (try cbv))
      | fail
    )
    · refine ⟨by omega, congrArg us (tab_congr fun r _ => (rowT_same V n w r (.inl ?_)).symm)⟩
      simp_all [swR]
    · refine ⟨by omega, congrArg us (tab_congr fun r _ => (rowT_same V n w r (.inl ?_)).symm)⟩
      simp_all [swR]
    · refine ⟨by omega, congrArg us (tab_congr fun r _ => (rowT_same V n w r (.inr (tgt_zero V n w ?_))).symm)⟩
      simp_all
    · have hwm : writesM (V.ev.getD w ev0) = true := by assumption
      have hwo : ¬ (V.ev.getD w ev0).order = 1 := by assumption
      refine E.loopS (ι := Nat) (fun r => r ≤ n) (fun r => n - r) (fun r => [(54, .i fun _ => ((r : Nat) : Int))]) (fun r h => h.set 2 (.run 0 1 fun _ => us (tab n fun k => if k < r then rowT V n (w + 1) k else rowT V n w k))) 0 (fun _ => by first | rfl | simp) (Nat.zero_le _) ?_ fun r hr I2 hI2 => ?_
      · cbv
        (try simp only [nc] at *)
        simp [h1]
      cbv
      skip
      repeat' (first
        | (refine hI' (w + 1) ?_ ?_ ?_; rotate_left 1; (· ((try simp only [nc] at *); omega)); (cbv; clear hI'; (try clear hF); (try simp only [nc] at *); (try simp (disch := (first | omega | (simp only [lnS, zA, zM, zG, zP, tab_len]; omega))) only [nc, nct, w64_of, zT, zZ, zM, rdS, at_agg, bofZ, bof1, bof0, zC, zS, Nat.zero_add, tab_len, tab_get, true_and, implies_true, and_true, true_and, forall_const])); rotate_left 1; (try ((try simp only [nc] at *); omega)))
        | (refine hI2 (r + 1) ?_ ?_ ?_; rotate_left 1; (· ((try simp only [nc] at *); omega)); (cbv; clear hI2; (try clear hF); (try simp only [nc] at *); (try simp (disch := (first | omega | (simp only [lnS, zA, zM, zG, zP, tab_len]; omega))) only [nc, nct, w64_of, zT, zZ, zM, rdS, at_agg, bofZ, bof1, bof0, zC, zS, Nat.zero_add, tab_len, tab_get, true_and, implies_true, and_true, true_and, forall_const])); rotate_left 1; (try ((try simp only [nc] at *); omega)))
        | (refine E.c (SCalls.of_le (dpo_ok V hV r w (by ((try simp only [nc] at *); omega)) (by ((try simp only [nc] at *); omega))) ?_ ?_); (· (cbv; (try simp only [nc] at *); first | done | (simp; done) | (simp (disch := (first | omega | (simp only [lnS, zA, zM, zG, zP, tab_len]; omega))) only [nc, nct, w64_of, zT, zZ, zM, rdS, at_agg, bofZ, bof1, bof0, zC, zS, Nat.zero_add, tab_len, tab_get, true_and, implies_true, and_true, true_and, forall_const]; first | done | omega | (refine ⟨?_, ?_⟩ <;> omega)) | (simp (disch := (first | omega | (simp only [lnS, zA, zM, zG, zP, tab_len]; omega))) [nc, nct, w64_of, zT, zZ, zM, rdS, at_agg, bofZ, bof1, bof0, zC, zS, Nat.zero_add, tab_len, tab_get, true_and]; done))); cbv)
        | (refine E.q (QCalls.of_le (dpo_ok V hV r w (by ((try simp only [nc] at *); omega)) (by ((try simp only [nc] at *); omega))) ?_ ?_); (· (cbv; (try simp only [nc] at *); first | done | (simp; done) | (simp (disch := (first | omega | (simp only [lnS, zA, zM, zG, zP, tab_len]; omega))) only [nc, nct, w64_of, zT, zZ, zM, rdS, at_agg, bofZ, bof1, bof0, zC, zS, Nat.zero_add, tab_len, tab_get, true_and, implies_true, and_true, true_and, forall_const]; first | done | omega | (refine ⟨?_, ?_⟩ <;> omega)) | (simp (disch := (first | omega | (simp only [lnS, zA, zM, zG, zP, tab_len]; omega))) [nc, nct, w64_of, zT, zZ, zM, rdS, at_agg, bofZ, bof1, bof0, zC, zS, Nat.zero_add, tab_len, tab_get, true_and]; done))); cbv)
        | (refine E.c (SCalls.of_le (dfence_ok V hV r (by ((try simp only [nc] at *); omega))) ?_ ?_); (· (cbv; (try simp only [nc] at *); first | done | (simp; done) | (simp (disch := (first | omega | (simp only [lnS, zA, zM, zG, zP, tab_len]; omega))) only [nc, nct, w64_of, zT, zZ, zM, rdS, at_agg, bofZ, bof1, bof0, zC, zS, Nat.zero_add, tab_len, tab_get, true_and, implies_true, and_true, true_and, forall_const]; first | done | omega | (refine ⟨?_, ?_⟩ <;> omega)) | (simp (disch := (first | omega | (simp only [lnS, zA, zM, zG, zP, tab_len]; omega))) [nc, nct, w64_of, zT, zZ, zM, rdS, at_agg, bofZ, bof1, bof0, zC, zS, Nat.zero_add, tab_len, tab_get, true_and]; done))); cbv)
        | (refine E.q (QCalls.of_le (dfence_ok V hV r (by ((try simp only [nc] at *); omega))) ?_ ?_); (· (cbv; (try simp only [nc] at *); first | done | (simp; done) | (simp (disch := (first | omega | (simp only [lnS, zA, zM, zG, zP, tab_len]; omega))) only [nc, nct, w64_of, zT, zZ, zM, rdS, at_agg, bofZ, bof1, bof0, zC, zS, Nat.zero_add, tab_len, tab_get, true_and, implies_true, and_true, true_and, forall_const]; first | done | omega | (refine ⟨?_, ?_⟩ <;> omega)) | (simp (disch := (first | omega | (simp only [lnS, zA, zM, zG, zP, tab_len]; omega))) [nc, nct, w64_of, zT, zZ, zM, rdS, at_agg, bofZ, bof1, bof0, zC, zS, Nat.zero_add, tab_len, tab_get, true_and]; done))); cbv)
        | (refine E.c (SCalls.of_le (drel_ok V hV r (by ((try simp only [nc] at *); omega))) ?_ ?_); (· (cbv; (try simp only [nc] at *); first | done | (simp; done) | (simp (disch := (first | omega | (simp only [lnS, zA, zM, zG, zP, tab_len]; omega))) only [nc, nct, w64_of, zT, zZ, zM, rdS, at_agg, bofZ, bof1, bof0, zC, zS, Nat.zero_add, tab_len, tab_get, true_and, implies_true, and_true, true_and, forall_const]; first | done | omega | (refine ⟨?_, ?_⟩ <;> omega)) | (simp (disch := (first | omega | (simp only [lnS, zA, zM, zG, zP, tab_len]; omega))) [nc, nct, w64_of, zT, zZ, zM, rdS, at_agg, bofZ, bof1, bof0, zC, zS, Nat.zero_add, tab_len, tab_get, true_and]; done))); cbv)
        | (refine ⟨fun _ h_s => ?_, fun _ h_s => ?_⟩ <;> (cbv; (try simp only [nc] at *); try simp (disch := (first | omega | (simp only [lnS, zA, zM, zG, zP, tab_len]; omega))) only [nc, nct, w64_of, zT, zZ, zM, rdS, at_agg, bofZ, bof1, bof0, zC, zS, Nat.zero_add, tab_len, tab_get, true_and, reduceCtorEq, Bool.not_true, Bool.not_false, zD, zE, zB, zF, zN, zO, ne_eq, zQ, zL, zR, beq_iff_eq] at h_s))
        | (refine hF ?_; intro _; clear hF)
        | (refine hF ?_; cbv; clear hF)
        | (refine ⟨fun _ => ?_, ?_⟩; (· ((try simp only [nc] at *); first | done | omega | exact ⟨by omega, rfl⟩ | (simp (disch := (first | omega | (simp only [lnS, zA, zM, zG, zP, tab_len]; omega))) only [nc, nct, w64_of, zT, zZ, zM, rdS, at_agg, bofZ, bof1, bof0, zC, zS, Nat.zero_add, tab_len, tab_get, true_and]; first | done | omega | rfl | exact ⟨by omega, rfl⟩ | (simp; done) | (simp; omega)) | (intros; trivial))); (try (simp only [nc] at *)); (try simp (disch := (first | omega | (simp only [lnS, zA, zM, zG, zP, tab_len]; omega))) only [nc, nct, w64_of, zT, zZ, zM, rdS, at_agg, bofZ, bof1, bof0, zC, zS, Nat.zero_add, tab_len, tab_get, true_and]); (try cbv))
        | fail
      )
      all_goals (try (clear hI hF))
      iterate 2
        · refine ⟨by omega, ?_⟩
          have e : ((r : Int) = w) ↔ r = w := Int.ofNat_inj
          have hsw : swR V w r = true := by simp_all [swR]
          simp only [Nat.zero_add, ustab_get n _ r (show r < n by omega), at_u, upd_u, us_set, us_of]
          refine congrArg us (tab_set r _ (by omega) ?_ fun k hk hne => ?_)
          · rw [if_pos (by omega), if_neg (by omega)]
            show rowT V n (w + 1) r = _
            unfold rowT
            rw [if_pos hsw]
            cases w <;> rfl
          · by_cases h : k < r
            · rw [if_pos h, if_pos (by omega)]
            · rw [if_neg h, if_neg (by omega)]
      iterate 3
        · refine ⟨by omega, congrArg us (tab_congr fun k hk => ?_)⟩
          have e : ((r : Int) = w) ↔ r = w := Int.ofNat_inj
          have hsw : swR V w r = false := by simp_all [swR]
          by_cases h : k < r
          · rw [if_pos h, if_pos (by omega)]
          · rw [if_neg h]
            by_cases h2 : k < r + 1
            · rw [if_pos h2]
              obtain rfl : k = r := by omega
              exact (rowT_same V n w k (.inl hsw)).symm
            · rw [if_neg h2]
      · refine ⟨by omega, congrArg us (tab_congr fun k hk => ?_)⟩
        rw [if_pos (by omega)]
    · refine hI ?_
      cbv
      clear hI hI' hF
      have e : w = n := by ((try simp only [nc] at *); omega)
      subst e
      (try simp only [nc] at *)
      (try simp (disch := (first | omega | (simp only [lnS, zA, zM, zG, zP, tab_len]; omega))) only [nc, nct, w64_of, zT, zZ, zM, rdS, at_agg, bofZ, bof1, bof0, zC, zS, Nat.zero_add, tab_len, tab_get, true_and, implies_true, and_true, true_and, forall_const])
      refine ⟨by omega, ?_⟩
      rw [h1, List.drop_zero, List.take_of_length_le (by simp)]; rfl
  · cbv
    repeat' (first
      | (refine E.c (SCalls.of_le (hrel) ?_ ?_); (· (cbv; (try simp only [nc] at *); first | done | (simp; done) | (simp (disch := (first | omega | (simp only [lnS, zA, zM, zG, zP, tab_len]; omega))) only [nc, nct, w64_of, zT, zZ, zM, rdS, at_agg, bofZ, bof1, bof0, zC, zS, Nat.zero_add, tab_len, tab_get, true_and, implies_true, and_true, true_and, forall_const]; first | done | omega | (refine ⟨?_, ?_⟩ <;> omega)) | (simp (disch := (first | omega | (simp only [lnS, zA, zM, zG, zP, tab_len]; omega))) [nc, nct, w64_of, zT, zZ, zM, rdS, at_agg, bofZ, bof1, bof0, zC, zS, Nat.zero_add, tab_len, tab_get, true_and]; done))); cbv)
      | (refine ⟨fun _ h_s => ?_, fun _ h_s => ?_⟩ <;> (cbv; (try simp only [nc] at *); try simp (disch := (first | omega | (simp only [lnS, zA, zM, zG, zP, tab_len]; omega))) only [nc, nct, w64_of, zT, zZ, zM, rdS, at_agg, bofZ, bof1, bof0, zC, zS, Nat.zero_add, tab_len, tab_get, true_and, reduceCtorEq, Bool.not_true, Bool.not_false, zD, zE, zB, zF, zN, zO, ne_eq, zQ, zL, zR, beq_iff_eq] at h_s))
      | (refine hF ?_; intro _; clear hF)
      | (refine hF ?_; cbv; clear hF)
      | (refine ⟨fun _ => ?_, ?_⟩; (· ((try simp only [nc] at *); first | done | omega | exact ⟨by omega, rfl⟩ | (simp (disch := (first | omega | (simp only [lnS, zA, zM, zG, zP, tab_len]; omega))) only [nc, nct, w64_of, zT, zZ, zM, rdS, at_agg, bofZ, bof1, bof0, zC, zS, Nat.zero_add, tab_len, tab_get, true_and]; first | done | omega | rfl | exact ⟨by omega, rfl⟩ | (simp; done) | (simp; omega)) | (intros; trivial))); (try (simp only [nc] at *)); (try simp (disch := (first | omega | (simp only [lnS, zA, zM, zG, zP, tab_len]; omega))) only [nc, nct, w64_of, zT, zZ, zM, rdS, at_agg, bofZ, bof1, bof0, zC, zS, Nat.zero_add, tab_len, tab_get, true_and]); (try cbv))
      | fail
    )
    all_goals (try simp only [nc] at *)
    all_goals (try simp (disch := (first | omega | (simp only [lnS, zA, zM, zG, zP, tab_len]; omega))) only [nc, nct, w64_of, zT, zZ, zM, rdS, at_agg, bofZ, bof1, bof0, zC, zS, Nat.zero_add, tab_len, tab_get, true_and])
end Go.AL.Rl

namespace Go.AL.Rl
open Go Go.AL Go.Proofs
set_option maxRecDepth 100000
variable {γ : Nat → Option AV}

def idsI (x : Nat) : List EId := (List.range x).map fun k => ⟨0, (k : Nat)⟩
def idsE (t i : Nat) : List EId := (List.range i).map fun k => ⟨t + 1, (k : Nat)⟩
def idsT (g : Gr) (t : Nat) : List EId := (List.range t).flatMap fun k => idsE k (g.th.getD k []).length
def idsG (g : Gr) : List EId := idsI g.init.length ++ idsT g g.th.length
def evsI (g : Gr) (x : Nat) : List Ev := (List.range x).map fun k => ⟨2, (k : Nat), 1, 0, g.init.getD k 0⟩
def evsT (g : Gr) (t : Nat) : List Ev := (List.range t).flatMap fun k => g.th.getD k []
def evsG (g : Gr) : List Ev := evsI g g.init.length ++ evsT g g.th.length
theorem idsI_succ (x : Nat) : idsI (x + 1) = idsI x ++ [⟨0, x⟩] := by simp [idsI, List.range_succ]
theorem idsE_succ (t i : Nat) : idsE t (i + 1) = idsE t i ++ [⟨t + 1, i⟩] := by simp [idsE, List.range_succ]
theorem idsT_succ (g : Gr) (t : Nat) : idsT g (t + 1) = idsT g t ++ idsE t (g.th.getD t []).length := by simp [idsT, List.range_succ, List.flatMap_append]
theorem evsI_succ (g : Gr) (x : Nat) : evsI g (x + 1) = evsI g x ++ [⟨2, x, 1, 0, g.init.getD x 0⟩] := by simp [evsI, List.range_succ]
theorem evsT_succ (g : Gr) (t : Nat) : evsT g (t + 1) = evsT g t ++ g.th.getD t [] := by simp [evsT, List.range_succ, List.flatMap_append]
theorem idsI_len (x : Nat) : (idsI x).length = x := by simp [idsI]
theorem idsE_len (t i : Nat) : (idsE t i).length = i := by simp [idsE]
theorem evsI_len (g : Gr) (x : Nat) : (evsI g x).length = x := by simp [evsI]
theorem idsT_len (g : Gr) : ∀ t, (idsT g t).length = (evsT g t).length
  | 0 => rfl
  | t + 1 => by rw [idsT_succ, evsT_succ, List.length_append, List.length_append, idsT_len g t, idsE_len]
theorem evsT_len {g : Gr} (h : Short g) : ∀ t, (evsT g t).length ≤ 14 * t
  | 0 => by simp [evsT]
  | t + 1 => by rw [evsT_succ, List.length_append]; have := evsT_len h t; have := h.at t; omega
theorem idsG_len (g : Gr) : (idsG g).length = (evsG g).length := by simp [idsG, evsG, idsI_len, evsI_len, idsT_len]
theorem evsG_len {g : Gr} (h : Short g) : (evsG g).length ≤ 62 := by
  have := evsT_len h g.th.length
  have := h.th; have := h.init
  simp only [evsG, List.length_append, evsI_len]; omega
theorem idsI_mem {x : Nat} {d : EId} : d ∈ idsI x ↔ d.t = 0 ∧ 0 ≤ d.i ∧ d.i < x := by
  simp only [idsI, List.mem_map, List.mem_range]
  constructor
  · rintro ⟨k, hk, rfl⟩; exact ⟨rfl, by simp only; omega, by simp only; omega⟩
  · rintro ⟨h1, h2, h3⟩; exact ⟨d.i.toNat, by omega, EId.ext' (by simp only; omega) (by simp only; omega)⟩
theorem idsE_mem {t i : Nat} {d : EId} : d ∈ idsE t i ↔ d.t = t + 1 ∧ 0 ≤ d.i ∧ d.i < i := by
  simp only [idsE, List.mem_map, List.mem_range]
  constructor
  · rintro ⟨k, hk, rfl⟩; exact ⟨rfl, by simp only; omega, by simp only; omega⟩
  · rintro ⟨h1, h2, h3⟩; exact ⟨d.i.toNat, by omega, EId.ext' (by simp only; omega) (by simp only; omega)⟩
theorem idsT_mem {g : Gr} {t : Nat} {d : EId} : d ∈ idsT g t ↔ 1 ≤ d.t ∧ d.t ≤ t ∧ 0 ≤ d.i ∧ d.i < (g.th.getD (d.t - 1).toNat []).length := by
  simp only [idsT, List.mem_flatMap, List.mem_range, idsE_mem]
  constructor
  · rintro ⟨k, hk, h1, h2, h3⟩
    have : (d.t - 1).toNat = k := by omega
    rw [this]; exact ⟨by omega, by omega, h2, h3⟩
  · rintro ⟨h1, h2, h3, h4⟩
    exact ⟨(d.t - 1).toNat, by omega, by omega, h3, h4⟩
theorem idsG_mem {g : Gr} {d : EId} : d ∈ idsG g ↔ (eventM g d).isSome = true := by
  rw [idsG, List.mem_append, idsI_mem, idsT_mem]
  unfold eventM
  by_cases h0 : d.t = 0
  · rw [if_pos h0]
    by_cases h1 : 0 ≤ d.i ∧ d.i < g.init.length
    · rw [if_pos h1]; simp [h0, h1]
    · rw [if_neg h1]; simp [h0]; omega
  · rw [if_neg h0]
    by_cases h1 : 0 < d.t ∧ d.t ≤ g.th.length ∧ 0 ≤ d.i ∧ d.i < (g.th.getD (d.t - 1).toNat []).length
    · rw [if_pos h1]; simp only [Option.isSome_some, iff_true]; right; omega
    · rw [if_neg h1]; simp only [Option.isSome_none, Bool.false_eq_true, iff_false]; omega
theorem nodup_map_range {α : Type} (f : Nat → α) (hf : ∀ a b, f a = f b → a = b) (n : Nat) : ((List.range n).map f).Nodup := by
  unfold List.Nodup
  rw [List.pairwise_map]
  exact (List.nodup_range (n := n)).imp fun hab he => hab (hf _ _ he)
theorem idsI_nodup (x : Nat) : (idsI x).Nodup := nodup_map_range _ (fun a b h => by have := congrArg EId.i h; simp at this; omega) x
theorem idsE_nodup (t i : Nat) : (idsE t i).Nodup := nodup_map_range _ (fun a b h => by have := congrArg EId.i h; simp at this; omega) i
theorem idsT_nodup (g : Gr) : ∀ t, (idsT g t).Nodup
  | 0 => by simp [idsT]
  | t + 1 => by
    rw [idsT_succ, List.nodup_append]
    refine ⟨idsT_nodup g t, idsE_nodup _ _, fun a ha b hb => ?_⟩
    rw [idsT_mem] at ha
    rw [idsE_mem] at hb
    rintro rfl
    omega
theorem idsG_nodup (g : Gr) : (idsG g).Nodup := by
  rw [idsG, List.nodup_append]
  refine ⟨idsI_nodup _, idsT_nodup _ _, fun a ha b hb => ?_⟩
  rw [idsI_mem] at ha
  rw [idsT_mem] at hb
  rintro rfl
  omega
/-- each number's event -/
theorem evsT_get (g : Gr) : ∀ (t k : Nat), t ≤ g.th.length → k < (idsT g t).length → eventM g ((idsT g t).getD k id0) = some ((evsT g t).getD k ev0)
  | 0, k, _, h => by simp [idsT] at h
  | t + 1, k, ht, h => by
    have hl := idsT_len g t
    rw [idsT_succ] at h ⊢
    rw [evsT_succ]
    rcases Nat.lt_or_ge k (idsT g t).length with hk | hk
    · have ih := evsT_get g t k (by omega) hk
      rw [List.getD_eq_getElem?_getD, List.getElem?_append_left hk, ← List.getD_eq_getElem?_getD, ih, List.getD_eq_getElem?_getD, List.getD_eq_getElem?_getD, List.getElem?_append_left (by omega)]
    · rw [List.length_append, idsE_len] at h
      have hj : k - (idsT g t).length < (g.th.getD t []).length := by omega
      have e : (idsE t (g.th.getD t []).length)[k - (idsT g t).length]?.getD id0 = ⟨t + 1, ((k - (idsT g t).length : Nat) : Int)⟩ := by
        simp only [idsE, List.getElem?_map, List.getElem?_range hj, Option.map_some, Option.getD_some]
      have e2 : (idsT g t ++ idsE t (g.th.getD t []).length).getD k id0 = ⟨t + 1, ((k - (idsT g t).length : Nat) : Int)⟩ := by
        rw [List.getD_eq_getElem?_getD, List.getElem?_append_right hk]; exact e
      have e3 : (evsT g t ++ g.th.getD t []).getD k ev0 = (g.th.getD t []).getD (k - (idsT g t).length) ev0 := by
        rw [List.getD_eq_getElem?_getD, List.getElem?_append_right (by omega), ← hl, ← List.getD_eq_getElem?_getD]
      rw [e2, e3, event_thread (by omega) hj]
theorem evsG_get (g : Gr) (k : Nat) (h : k < (idsG g).length) : eventM g ((idsG g).getD k id0) = some ((evsG g).getD k ev0) := by
  unfold idsG evsG at *
  rcases Nat.lt_or_ge k g.init.length with hk | hk
  · rw [List.getD_eq_getElem?_getD, List.getElem?_append_left (by rw [idsI_len]; exact hk), List.getD_eq_getElem?_getD, List.getElem?_append_left (by rw [evsI_len]; exact hk)]
    simp only [idsI, evsI, List.getElem?_map, List.getElem?_range hk, Option.map_some, Option.getD_some]
    unfold eventM
    rw [if_pos rfl, if_pos ⟨by simp only; omega, by simp only; omega⟩]
    simp
  · rw [List.length_append, idsI_len] at h
    rw [List.getD_eq_getElem?_getD, List.getElem?_append_right (by rw [idsI_len]; exact hk), List.getD_eq_getElem?_getD, List.getElem?_append_right (by rw [evsI_len]; exact hk), idsI_len, evsI_len, ← List.getD_eq_getElem?_getD, ← List.getD_eq_getElem?_getD]
    exact evsT_get g _ _ (Nat.le_refl _) (by omega)
theorem getD_inj {l : List EId} (h : l.Nodup) {i j : Nat} (hi : i < l.length) (hj : j < l.length) (he : l.getD i id0 = l.getD j id0) : i = j := by
  unfold List.Nodup at h
  rw [List.pairwise_iff_getElem] at h
  simp only [List.getD_eq_getElem?_getD, List.getElem?_eq_getElem hi, List.getElem?_eq_getElem hj, Option.getD_some] at he
  rcases Nat.lt_trichotomy i j with h1 | h1 | h1
  · exact absurd he (h i j hi hj h1)
  · exact h1
  · exact absurd he.symm (h j i hj hi h1)
/-- the number of an Id -/
def numOf (l : List EId) (d : EId) : Nat := (l.findIdx? fun x => decide (x = d)).getD 0
theorem numOf_find {l : List EId} {d : EId} (h : d ∈ l) : (l.findIdx? fun x => decide (x = d)) = some (numOf l d) := by
  unfold numOf
  cases hf : l.findIdx? fun x => decide (x = d) with
  | some i => rfl
  | none =>
    rw [List.findIdx?_eq_none_iff] at hf
    have := hf d h
    simp at this
theorem numOf_spec {l : List EId} {d : EId} (h : d ∈ l) : ∃ hl : numOf l d < l.length, l[numOf l d] = d := by
  have := numOf_find h
  rw [List.findIdx?_eq_some_iff_getElem] at this
  obtain ⟨h1, h2, _⟩ := this
  exact ⟨h1, by simpa using h2⟩
theorem numOf_lt {l : List EId} {d : EId} (h : d ∈ l) : numOf l d < l.length := (numOf_spec h).1
theorem numOf_get {l : List EId} {d : EId} (h : d ∈ l) : l.getD (numOf l d) id0 = d := by
  obtain ⟨h1, h2⟩ := numOf_spec h
  rw [List.getD_eq_getElem?_getD, List.getElem?_eq_getElem h1]
  exact h2
theorem numOf_at {l : List EId} (h : l.Nodup) {k : Nat} (hk : k < l.length) : numOf l (l.getD k id0) = k :=
  getD_inj h (numOf_lt (getD_mem hk)) hk (numOf_get (getD_mem hk))

def tabI (n : Nat) (f : Nat → Int) : List Int := (List.range n).map f
@[simp] theorem tabI_len (n : Nat) (f : Nat → Int) : (tabI n f).length = n := by simp [tabI]
theorem tabI_get (n : Nat) (f : Nat → Int) (i : Nat) (h : i < n) : (tabI n f).getD i 0 = f i := by simp [tabI, h]
theorem tabI_congr {n : Nat} {f g : Nat → Int} (h : ∀ i < n, f i = g i) : tabI n f = tabI n g := List.map_congr_left fun i hi => h i (by simpa using hi)
theorem tabI_zero (n : Nat) : tabI n (fun _ => 0) = List.replicate n 0 := by
  apply List.ext_getElem <;> simp [tabI]
theorem istab_get (n : Nat) (f : Nat → Int) (r : Nat) (h : r < n) : (is (tabI n f)).l.getD r .any = .i fun _ => f r := by
  rw [is_get _ r (by rw [tabI_len]; exact h), tabI_get n f r h]
def srcOf (g : Gr) (d : EId) : EId := (g.fr.getD (d.t - 1).toNat []).getD d.i.toNat id0
def frOf (g : Gr) (d : EId) : Int := if d.t = 0 then -1 else if readsM ((eventM g d).getD ev0) = true then (numOf (idsG g) (srcOf g d) : Nat) else -1
def plOf (g : Gr) (d : EId) : Int := if d.t = 0 then 0 else match (g.ord.getD ((eventM g d).getD ev0).loc.toNat []).findIdx? (fun x => decide (x = d)) with | some k => (k : Nat) + 1 | none => -1
def nG (g : Gr) : Nat := (idsG g).length
def viewG (g : Gr) : Vw := ⟨idsG g, evsG g, tabI (nG g) fun m => frOf g ((idsG g).getD m id0), tabI (nG g) fun m => plOf g ((idsG g).getD m id0)⟩
theorem source_mem {g : Gr} {d f : EId} (h : sourceM g d f = true) (hr : readsM ((eventM g d).getD ev0) = true) : ∃ w, eventM g f = some w ∧ f ≠ d ∧ writesM w = true ∧ w.loc = ((eventM g d).getD ev0).loc ∧ w.wr = ((eventM g d).getD ev0).rd := by
  unfold sourceM at h
  rw [if_pos hr] at h
  split at h
  · rename_i w hw
    simp only [Bool.and_eq_true, decide_eq_true_eq] at h
    exact ⟨w, hw, h.1.1.1, h.1.1.2, h.1.2, h.2⟩
  · cases h
theorem src_ok {g : Gr} (hg : GOk g) {d : EId} (hd : d ∈ idsG g) (h0 : d.t ≠ 0) : sourceM g d (srcOf g d) = true := by
  rw [idsG, List.mem_append, idsI_mem, idsT_mem] at hd
  rcases hd with hd | hd
  · exact absurd hd.1 h0
  · have := hg.sources (d.t - 1).toNat (by omega) d.i.toNat (by omega)
    have e : (⟨((d.t - 1).toNat : Nat) + 1, (d.i.toNat : Nat)⟩ : EId) = d := EId.ext' (by simp only; omega) (by simp only; omega)
    rw [e] at this
    exact this
theorem viewG_wf {g : Gr} (hg : GOk g) : Wf (viewG g) (nG g) := by
  have hn : nG g ≤ 62 := by unfold nG; rw [idsG_len]; exact evsG_len hg.short
  refine ⟨rfl, (idsG_len g).symm, by simp [viewG], by simp [viewG], hn, fun i hi => ?_, fun i hi hr => ?_⟩
  · simp only [viewG]
    rw [tabI_get _ _ _ hi]
    have hm : (idsG g).getD i id0 ∈ idsG g := getD_mem hi
    unfold frOf
    split
    · omega
    · rename_i h0
      split
      · rename_i hr
        obtain ⟨w, hw, _⟩ := source_mem (src_ok hg hm h0) hr
        have := numOf_lt (idsG_mem.2 (by rw [hw]; rfl))
        unfold nG; omega
      · omega
  · simp only [viewG] at hr ⊢
    rw [tabI_get _ _ _ hi]
    have he := evsG_get g i hi
    unfold frOf
    rw [he, Option.getD_some, if_pos hr]
    split
    · rename_i h0
      exfalso
      unfold eventM at he
      rw [if_pos h0] at he
      split at he
      · have := Option.some.inj he
        rw [← this] at hr
        simp [readsM] at hr
      · cases he
    · omega
end Go.AL.Rl

namespace Go.AL.Rl
open Go Go.AL Go.Proofs
set_option maxRecDepth 100000
set_option maxHeartbeats 1600000
variable {γ : Nat → Option AV}

def iota (m : Nat) : List Int := (List.range m).map fun k => ((k : Nat) : Int)
theorem iota_succ (m : Nat) : iota (m + 1) = iota m ++ [(m : Int)] := by simp [iota, List.range_succ]
theorem iota_len (m : Nat) : (iota m).length = m := by simp [iota]
theorem ids_of (a : List EId) : LV.of (ids a).l = ids a := by simp [ids]
theorem evs_of (a : List Ev) : LV.of (evs a).l = evs a := by simp [evs]
theorem ids_app (a b : List EId) : (ids a).l ++ (ids b).l = (ids (a ++ b)).l := by simp [ids]
theorem evs_app (a b : List Ev) : (evs a).l ++ (evs b).l = (evs (a ++ b)).l := by simp [evs]
/-- the heap of viewOf, while events are put -/
def vhp (g : Gr) (L : List EId) (E : List Ev) (m : Nat) : List Blk :=
  [.box (aGr g), .box (.agg [.sl 5 m 2 (fun _ => 0) fun _ => L.length, .sl 6 m 5 (fun _ => 0) fun _ => E.length, .nils, .nils]), .box (.ptr 1 0), .map (fun _ => ids L) (fun _ => is (iota L.length)), .box (.mp 3), .run m 2 fun _ => ids L, .run m 5 fun _ => evs E]
theorem put0_ok (g : Gr)  (L : List EId) (Es : List Ev) (m : Nat) (hl : L.length = Es.length) (hm : L.length ≤ 100) (d : EId) (e : Ev) (hd : d ∉ L) (L' : List EId) (Es' : List Ev) (m' : Nat) (hL' : L' = L ++ [d]) (hE' : Es' = Es ++ [e]) (hm' : m' = m + 1) :
    SCalls Tryd.prog γ 66 [aId d, aEv e, .ptr 2 0, .ptr 4 0] (vhp g L Es m ++ []) (Post (.tup []) (vhp g L' Es' m' ++ [])) := by
  refine SCalls.go (ty := ty) ty_eq mo Tryd.func66 rfl Tryd.ntmps66 Tryd.results66 Tryd.call66 (by simp) fun P C CQ D W F E hF => ?_
  cbv
  skip
  skip
  repeat' (first
    | (refine E.de 8 [3, 5, 6] [] (by decide +kernel) ?_; cbv; (fail_if_success guard_target =~ False))
    | (refine ⟨fun _ h_s => ?_, fun _ h_s => ?_⟩ <;> (cbv; (try simp only [nc] at *); try simp (disch := (first | omega | (simp only [lnS, zA, zM, zG, zP]; omega))) only [nc, nct, w64_of, zT, zZ, zM, rdS, at_agg, bofZ, bof1, bof0, zC, zS, reduceCtorEq, Bool.not_true, Bool.not_false, zD, zE, zB, zF, zN, zO, ne_eq, zQ, zL, zR, beq_iff_eq] at h_s))
    | (refine hF ?_; intro _; clear hF)
    | (refine hF ?_; cbv; clear hF)
    | (refine ⟨fun _ => ?_, ?_⟩; (· ((try simp only [nc] at *); first | done | omega | exact ⟨by omega, rfl⟩ | (simp (disch := (first | omega | (simp only [lnS, zA, zM, zG, zP]; omega))) only [nc, nct, w64_of, zT, zZ, zM, rdS, at_agg, bofZ, bof1, bof0, zC, zS]; first | done | omega | rfl | exact ⟨by omega, rfl⟩ | (simp; done) | (simp; omega)) | (intros; trivial) | exact mok_ids _ | exact ⟨by first | trivial | rfl, by first | trivial | rfl | simp, by first | trivial | simp, by simp; omega, by simp; omega, by simp [AV.flat, AV.cells, AV.one]⟩)); try cbv)
    | (refine E.d 7 (by decide +kernel) ?_; cbv; (fail_if_success guard_target =~ False))
    | fail
  )
  have k1 := mput_new L d hd _ (knums_id d) _ rfl
  have k2 := mputV_new L d hd _ (knums_id d) (iota L.length) L.length _ rfl
  refine ⟨by simp, ⟨⟨fun _ => ⟨by omega, rfl, by simp [hL']⟩, fun _ => ⟨by omega, rfl, by simp [hE']⟩, trivial⟩, by simp⟩, ?_⟩
  refine ⟨fun _ => ⟨k1.trans (by rw [hL']), k2.trans (by rw [hL', List.length_append, List.length_singleton, iota_succ])⟩, fun _ => ⟨by omega, ?_⟩, fun _ => ⟨by omega, ?_⟩, by trivial⟩
  · show LV.of ((ids L).l ++ (ids [d]).l) = ids L'
    rw [ids_app, ids_of, hL']
  · show LV.of ((evs Es).l ++ (evs [e]).l) = evs Es'
    rw [evs_app, evs_of, hE']
theorem put1_ok (g : Gr) (X : Blk) (L : List EId) (Es : List Ev) (m : Nat) (hl : L.length = Es.length) (hm : L.length ≤ 100) (d : EId) (e : Ev) (hd : d ∉ L) (L' : List EId) (Es' : List Ev) (m' : Nat) (hL' : L' = L ++ [d]) (hE' : Es' = Es ++ [e]) (hm' : m' = m + 1) :
    SCalls Tryd.prog γ 66 [aId d, aEv e, .ptr 2 0, .ptr 4 0] (vhp g L Es m ++ [X]) (Post (.tup []) (vhp g L' Es' m' ++ [.any])) := by
  refine SCalls.go (ty := ty) ty_eq mo Tryd.func66 rfl Tryd.ntmps66 Tryd.results66 Tryd.call66 (by simp) fun P C CQ D W F E hF => ?_
  cbv
  skip
  skip
  repeat' (first
    | (refine E.de 8 [3, 5, 6] [] (by decide +kernel) ?_; cbv; (fail_if_success guard_target =~ False))
    | (refine ⟨fun _ h_s => ?_, fun _ h_s => ?_⟩ <;> (cbv; (try simp only [nc] at *); try simp (disch := (first | omega | (simp only [lnS, zA, zM, zG, zP]; omega))) only [nc, nct, w64_of, zT, zZ, zM, rdS, at_agg, bofZ, bof1, bof0, zC, zS, reduceCtorEq, Bool.not_true, Bool.not_false, zD, zE, zB, zF, zN, zO, ne_eq, zQ, zL, zR, beq_iff_eq] at h_s))
    | (refine hF ?_; intro _; clear hF)
    | (refine hF ?_; cbv; clear hF)
    | (refine ⟨fun _ => ?_, ?_⟩; (· ((try simp only [nc] at *); first | done | omega | exact ⟨by omega, rfl⟩ | (simp (disch := (first | omega | (simp only [lnS, zA, zM, zG, zP]; omega))) only [nc, nct, w64_of, zT, zZ, zM, rdS, at_agg, bofZ, bof1, bof0, zC, zS]; first | done | omega | rfl | exact ⟨by omega, rfl⟩ | (simp; done) | (simp; omega)) | (intros; trivial) | exact mok_ids _ | exact ⟨by first | trivial | rfl, by first | trivial | rfl | simp, by first | trivial | simp, by simp; omega, by simp; omega, by simp [AV.flat, AV.cells, AV.one]⟩ | exact mok_ids _ | exact ⟨by first | trivial | rfl, by first | trivial | rfl | simp, by first | trivial | simp, by simp; omega, by simp; omega, by simp [AV.flat, AV.cells, AV.one]⟩)); try cbv)
    | (refine E.d 7 (by decide +kernel) ?_; cbv; (fail_if_success guard_target =~ False))
    | fail
  )
  have k1 := mput_new L d hd _ (knums_id d) _ rfl
  have k2 := mputV_new L d hd _ (knums_id d) (iota L.length) L.length _ rfl
  refine ⟨by simp, ⟨⟨fun _ => ⟨by omega, rfl, by simp [hL']⟩, fun _ => ⟨by omega, rfl, by simp [hE']⟩, trivial⟩, by simp⟩, ?_⟩
  refine ⟨fun _ => ⟨k1.trans (by rw [hL']), k2.trans (by rw [hL', List.length_append, List.length_singleton, iota_succ])⟩, fun _ => ⟨by omega, ?_⟩, fun _ => ⟨by omega, ?_⟩, by trivial⟩
  · show LV.of ((ids L).l ++ (ids [d]).l) = ids L'
    rw [ids_app, ids_of, hL']
  · show LV.of ((evs Es).l ++ (evs [e]).l) = evs Es'
    rw [evs_app, evs_of, hE']
theorem lk_num (L : List EId) (s : EId) (hs : s ∈ L) (k : List Int) (hk : k = [s.t, s.i]) (z : AV) : ((mval (mfind [.i, .i] (ids L) k) (is (iota L.length)) z).at 0).asI = (numOf L s : Nat) := by
  subst hk
  rw [mfind_ids, numOf_find hs]
  simp only [mval]
  have := numOf_lt hs
  rw [is_get _ _ (by rw [iota_len]; exact this)]
  simp only [at_i]
  simp [iota, this]
def plInit (d : EId) : Int := if d.t = 0 then 0 else -1
def plTo (g : Gr) (q : List (EId × Int)) (d : EId) : Int := if d ∈ q.map (·.1) then plOf g d else plInit d
theorem qsT_keys {g : Gr} {n : Nat} {d : EId} : d ∈ (qsT g n).map (·.1) ↔ ∃ x < n, d ∈ g.ord.getD x [] := by
  simp only [qsT, List.mem_map, List.mem_flatMap, List.mem_range]
  constructor
  · rintro ⟨p, ⟨x, hx, d', hd', rfl⟩, rfl⟩; exact ⟨x, hx, hd'⟩
  · rintro ⟨x, hx, hd⟩; exact ⟨_, ⟨x, hx, d, hd, rfl⟩, rfl⟩
theorem isW_event {g : Gr} {x : Int} {d : EId} (h : isW g x d = true) : ∃ e, eventM g d = some e ∧ d.t ≠ 0 ∧ writesM e = true ∧ e.loc = x := by
  unfold isW at h
  split at h
  · rename_i e he
    simp only [Bool.and_eq_true, decide_eq_true_eq] at h
    exact ⟨e, he, h.1.1, h.1.2, h.2⟩
  · cases h
theorem plTo_all {g : Gr} (hg : GOk g) (d : EId) : plTo g (qsT g g.ord.length) d = plOf g d := by
  unfold plTo
  split
  · rfl
  · rename_i h
    rw [qsT_keys] at h
    unfold plInit plOf
    split
    · rfl
    · split
      · rename_i k hk
        exfalso
        rw [List.findIdx?_eq_some_iff_getElem] at hk
        obtain ⟨h1, h2, _⟩ := hk
        refine h ⟨((eventM g d).getD ev0).loc.toNat, ?_, ?_⟩
        · rcases Nat.lt_or_ge ((eventM g d).getD ev0).loc.toNat g.ord.length with hc | hc
          · exact hc
          · exfalso
            rw [List.getD_eq_getElem?_getD, List.getElem?_eq_none hc] at h1
            simp at h1
        · have := List.getElem_mem h1
          simp only [decide_eq_true_eq] at h2
          rw [h2] at this
          exact this
      · rfl
theorem plOf_at {g : Gr} (hg : GOk g) {x i : Nat} (hx : x < g.ord.length) (hi : i < (g.ord.getD x []).length) : plOf g ((g.ord.getD x []).getD i id0) = i + 1 := by
  obtain ⟨h1, h2, h3⟩ := (ordered_iff g x).1 (hg.orders x (by have := hg.lord; omega))
  obtain ⟨e, he, h0, hw, hl⟩ := isW_event (h2 _ (getD_mem hi))
  unfold plOf
  rw [if_neg h0, he, Option.getD_some, hl, Int.toNat_natCast]
  have : (g.ord.getD x []).findIdx? (fun z => decide (z = (g.ord.getD x []).getD i id0)) = some i := by
    have hm : (g.ord.getD x []).getD i id0 ∈ g.ord.getD x [] := getD_mem hi
    have := numOf_find hm
    rw [this, numOf_at h1 hi]
  rw [this]
theorem ord_mem {g : Gr} (hg : GOk g) {x i : Nat} (hx : x < g.ord.length) (hi : i < (g.ord.getD x []).length) : (g.ord.getD x []).getD i id0 ∈ idsG g := by
  obtain ⟨h1, h2, h3⟩ := (ordered_iff g x).1 (hg.orders x (by have := hg.lord; omega))
  obtain ⟨e, he, h0, hw, hl⟩ := isW_event (h2 _ (getD_mem hi))
  rw [idsG_mem, he]; rfl
/-- an event of a thread, where it lies -/
theorem ids_where {g : Gr} (hg : GOk g) {k : Nat} (hk : k < (idsG g).length) (h0 : ((idsG g).getD k id0).t ≠ 0) :
    0 ≤ ((idsG g).getD k id0).t - 1 ∧ (((idsG g).getD k id0).t - 1).toNat < g.fr.length ∧ ((idsG g).getD k id0).t ≤ 4 ∧ 0 ≤ ((idsG g).getD k id0).i ∧ ((idsG g).getD k id0).i.toNat < (g.fr.getD (((idsG g).getD k id0).t - 1).toNat []).length := by
  have hm : (idsG g).getD k id0 ∈ idsG g := getD_mem hk
  rw [idsG, List.mem_append, idsI_mem, idsT_mem, ← idsG] at hm
  rcases hm with hm | hm
  · exact absurd hm.1 h0
  · have h1 := hg.lfr
    have h2 := hg.short.th
    have h3 := (hg.events (((idsG g).getD k id0).t - 1).toNat (by omega)).1
    refine ⟨by omega, by omega, by omega, hm.2.2.1, by omega⟩
end Go.AL.Rl

namespace Go.AL.Rl
open Go Go.AL Go.Proofs
set_option maxRecDepth 100000
set_option maxHeartbeats 3200000
variable {γ : Nat → Option AV}

theorem viewOf_no (g : Gr) (hg : Rd g) (h : ¬ GOk g) : Pure Tryd.prog γ false 47 [aGr g] (.tup [.np, .b fun _ => false]) := by
  have hc : gcheckM g ≠ 0 := by unfold gcheckM; split <;> simp [h]
  refine Pure.go (ty := ty) ty_eq mo Tryd.func47 rfl Tryd.ntmps47 Tryd.results47 Tryd.call47 (by simp) fun P C CQ D W F E hF => ?_
  cbv
  refine E.c (SCalls.of_le (gcheck_ok g hg) ?_ ?_)
  · (cbv; (try simp only [nc] at *); first | done | (simp; done) | (simp (disch := (first | omega | (simp only [lnS, zA, zM, zG, zP]; omega))) only [nc, nct, w64_of, zT, zZ, zM, rdS, at_agg, bofZ, bof1, bof0, zC, zS, implies_true, and_true, true_and, forall_const]; first | done | omega | (refine ⟨?_, ?_⟩ <;> omega)) | (simp (disch := (first | omega | (simp only [lnS, zA, zM, zG, zP]; omega))) [nc, nct, w64_of, zT, zZ, zM, rdS, at_agg, bofZ, bof1, bof0, zC, zS]; done))
  cbv
  refine br_t (by simpa using hc) ?_
  cbv
  refine hF ?_
  cbv
  simp
theorem stI (n : Nat) (f : Nat → Int) (i : Nat) (y x : Int) (hi : i < n) : LV.of ((is (tabI n f)).l.set i ((AV.i fun _ => y).upd 0 (.i fun _ => x))) = is (tabI n fun j => if j = i then x else f j) := by
  simp only [is, LV.l_of]
  show LV.of (List.set _ _ (.i fun _ => x)) = _
  congr 1
  apply List.ext_getElem (by simp)
  intro j h1 h2
  simp only [List.getElem_set, tabI, List.getElem_map, List.getElem_range]
  split
  · rename_i e; subst e; simp
  · rename_i e; simp [Ne.symm e]
/-- the heap of viewOf, all sources told -/
def vhpF (g : Gr) (L : List EId) (E : List Ev) (n : Nat) (pl : Nat → Int) : List Blk :=
  [.box (aGr g), .box (.agg [.sl 5 n 2 (fun _ => 0) fun _ => L.length, .sl 6 n 5 (fun _ => 0) fun _ => E.length, .sl 7 1 1 (fun _ => 0) fun _ => L.length, .sl 8 1 1 (fun _ => 0) fun _ => L.length]), .box (.ptr 1 0), .map (fun _ => ids L) (fun _ => is (iota L.length)), .box (.mp 3), .run n 2 fun _ => ids L, .run n 5 fun _ => evs E, .run 1 1 fun _ => is (tabI n fun m => frOf g (L.getD m id0)), .run 1 1 fun _ => is (tabI n pl)]
theorem ordsAt {g : Gr} (hg : Rd g) (x : Nat) : ((g.ord.getD x []).length : Int) ≤ 9223372036854775807 := by
  rcases Nat.lt_or_ge x g.ord.length with h1 | h1
  · exact hg.ords _ (getD_mem h1)
  · simp [List.getElem?_eq_none h1]
theorem plTo_step {g : Gr} (hg : GOk g) {x i : Nat} (hx : x < g.ord.length) (hi : i < (g.ord.getD x []).length) {m : Nat} (hm : m < (idsG g).length) :
    (if m = numOf (idsG g) ((g.ord.getD x []).getD i id0) then ((i : Int) + 1) else plTo g (qsT g x ++ qsE g x i) ((idsG g).getD m id0)) = plTo g (qsT g x ++ qsE g x (i + 1)) ((idsG g).getD m id0) := by
  have hd := ord_mem hg hx hi
  rw [qsE_succ g x i hi, ← List.append_assoc]
  by_cases e : m = numOf (idsG g) ((g.ord.getD x []).getD i id0)
  · rw [if_pos e, e, numOf_get hd, plTo, if_pos (by simp), plOf_at hg hx hi]
  · rw [if_neg e]
    have e2 : (idsG g).getD m id0 ≠ (g.ord.getD x []).getD i id0 := fun e3 => e (by rw [← e3, numOf_at (idsG_nodup g) hm])
    unfold plTo
    have : ((idsG g).getD m id0 ∈ ((qsT g x ++ qsE g x i) ++ [((g.ord.getD x []).getD i id0, (x : Int))]).map (·.1)) ↔ ((idsG g).getD m id0 ∈ (qsT g x ++ qsE g x i).map (·.1)) := by
      rw [List.map_append, List.mem_append]
      simp only [List.map_cons, List.map_nil, List.mem_singleton, e2, or_false]
    simp only [this]
theorem viewOf_yes (g : Gr) (hg : Rd g) (h : GOk g) : Pure Tryd.prog γ false 47 [aGr g] (.tup [pVw (viewG g), .b fun _ => true]) := by
  have hc := gcheck0 h
  have hsh := h.short
  have hin := hsh.init
  have hth := hsh.th
  have hwf := viewG_wf h
  have hn := hwf.small
  obtain ⟨Lf, hLf⟩ : ∃ L, L = idsG g := ⟨_, rfl⟩
  obtain ⟨Mf, hMf⟩ : ∃ L, L = evsG g := ⟨_, rfl⟩
  obtain ⟨n, hnn⟩ : ∃ n, n = nG g := ⟨_, rfl⟩
  have hLn : Lf.length = n := by rw [hLf, hnn]; rfl
  have hMn : Mf.length = n := by rw [hMf, hnn]; exact hwf.ev
  refine Pure.goL (ty := ty) ty_eq mo Tryd.func47 rfl Tryd.ntmps47 Tryd.results47 Tryd.call47 (by simp) fun P C CQ D W F E hF => ?_
  refine E.cut 10 (told 165 [(1, .ptr 0 0), (4, .ptr 2 0), (5, .ptr 4 0)] (vhp g Lf Mf n)) (by kernel_rfl) (Nat.zero_le _) (fun I hI => ?_) ?_
  · cbv
    refine E.c (SCalls.of_le (gcheck_ok g hg) ?_ ?_)
    · (cbv; (try simp only [nc] at *); first | done | (simp; done) | (simp (disch := (first | omega | (simp only [lnS, zA, zM, zG, zP]; omega))) only [nc, nct, w64_of, zT, zZ, zM, rdS, at_agg, bofZ, bof1, bof0, zC, zS, implies_true, and_true, true_and, forall_const]; first | done | omega | (refine ⟨?_, ?_⟩ <;> omega)) | (simp (disch := (first | omega | (simp only [lnS, zA, zM, zG, zP]; omega))) [nc, nct, w64_of, zT, zZ, zM, rdS, at_agg, bofZ, bof1, bof0, zC, zS]; done))
    cbv
    refine br_f (by simp [hc]) ?_
    cbv
    refine E.w (AWP.ghostField 1 0 2 rfl rfl ?_)
    refine AWP.ghostField 1 1 5 rfl rfl ?_
    obtain ⟨G, hG⟩ : ∃ G : Nat → Nat, ∀ x, G x = x := ⟨_, fun _ => rfl⟩
    obtain ⟨L, hL⟩ : ∃ L : Nat → List EId, ∀ x, L x = idsI x := ⟨_, fun _ => rfl⟩
    obtain ⟨M, hM⟩ : ∃ M : Nat → List Ev, ∀ x, M x = evsI g x := ⟨_, fun _ => rfl⟩
    have hL0 : L 0 = [] := by rw [hL]; rfl
    have hM0 : M 0 = [] := by rw [hM]; rfl
    refine E.loopSA (ι := Nat) (fun x => x ≤ g.init.length) (fun x => g.init.length - x) (fun x => [(29, .i fun _ => ((x : Nat) : Int))]) (fun x h => vhp g (L x) (M x) (G x)) 0 (fun _ => by first | rfl | simp) (Nat.zero_le _) ?_ fun x hx I0 hI0 => ?_
    · cbv
      simp [hL0, hM0, hG, ids, evs, LV.of, is, iota]
    cbv
    have hput := put0_ok (γ := γ) g (L x) (M x) (G x) (by rw [hL, hM, idsI_len, evsI_len]) (by rw [hL, idsI_len]; omega) ⟨0, x⟩ ⟨2, x, 1, 0, g.init.getD x 0⟩ (by rw [hL, idsI_mem]; simp only; omega) (L (x + 1)) (M (x + 1)) (G (x + 1)) (by rw [hL, hL, idsI_succ]) (by rw [hM, hM, evsI_succ]) (by rw [hG, hG])
    repeat' (first
      | (refine hI0 (x + 1) ?_ ?_ ?_; rotate_left 1; (· ((try simp only [nc] at *); omega)); (cbv; clear hI0; (try clear hF); (try simp only [nc] at *); (try simp (disch := (first | omega | (simp only [lnS, zA, zM, zG, zP]; omega))) only [nc, nct, w64_of, zT, zZ, zM, rdS, at_agg, bofZ, bof1, bof0, zC, zS, implies_true, and_true, true_and, forall_const])); rotate_left 1; (try ((try simp only [nc] at *); omega)))
      | (refine E.c (SCalls.to (hput) rfl (Nat.le_of_ble_eq_true rfl) ?_ ?_ ?_); (· (cbv; (try simp only [nc] at *); first | done | (simp; done) | (simp (disch := (first | omega | (simp only [lnS, zA, zM, zG, zP]; omega))) only [nc, nct, w64_of, zT, zZ, zM, rdS, at_agg, bofZ, bof1, bof0, zC, zS, implies_true, and_true, true_and, forall_const]; first | done | omega | (refine ⟨?_, ?_⟩ <;> omega)) | (simp (disch := (first | omega | (simp only [lnS, zA, zM, zG, zP]; omega))) [nc, nct, w64_of, zT, zZ, zM, rdS, at_agg, bofZ, bof1, bof0, zC, zS]; done))); (· (cbv; (try simp only [nc] at *); first | done | (simp; done) | (simp (disch := (first | omega | (simp only [lnS, zA, zM, zG, zP]; omega))) only [nc, nct, w64_of, zT, zZ, zM, rdS, at_agg, bofZ, bof1, bof0, zC, zS, implies_true, and_true, true_and, forall_const]; first | done | omega | (refine ⟨?_, ?_⟩ <;> omega)) | (simp (disch := (first | omega | (simp only [lnS, zA, zM, zG, zP]; omega))) [nc, nct, w64_of, zT, zZ, zM, rdS, at_agg, bofZ, bof1, bof0, zC, zS]; done))); cbv)
      | (refine ⟨fun _ h_s => ?_, fun _ h_s => ?_⟩ <;> (cbv; (try simp only [nc] at *); try simp (disch := (first | omega | (simp only [lnS, zA, zM, zG, zP]; omega))) only [nc, nct, w64_of, zT, zZ, zM, rdS, at_agg, bofZ, bof1, bof0, zC, zS, reduceCtorEq, Bool.not_true, Bool.not_false, zD, zE, zB, zF, zN, zO, ne_eq, zQ, zL, zR, beq_iff_eq] at h_s))
      | (refine hF ?_; intro _; clear hF)
      | (refine hF ?_; cbv; clear hF)
      | (refine ⟨fun _ => ?_, ?_⟩; (· ((try simp only [nc] at *); first | done | omega | exact ⟨by omega, rfl⟩ | (simp (disch := (first | omega | (simp only [lnS, zA, zM, zG, zP]; omega))) only [nc, nct, w64_of, zT, zZ, zM, rdS, at_agg, bofZ, bof1, bof0, zC, zS]; first | done | omega | rfl | exact ⟨by omega, rfl⟩ | (simp; done) | (simp; omega)) | (intros; trivial))); (try (simp only [nc] at *)); (try simp (disch := (first | omega | (simp only [lnS, zA, zM, zG, zP]; omega))) only [nc, nct, w64_of, zT, zZ, zM, rdS, at_agg, bofZ, bof1, bof0, zC, zS]); (try cbv))
      | (refine E.d 9 (by decide +kernel) ?_; cbv; (fail_if_success guard_target =~ False))
      | (refine E.d 18 (by decide +kernel) ?_; cbv; (fail_if_success guard_target =~ False))
      | fail
    )
    · omega
    clear hI0
    (try simp only [nc] at *)
    have e : x = g.init.length := by omega
    subst e
    have e1 : L g.init.length = idsI g.init.length ++ idsT g 0 := by rw [hL]; simp [idsT]
    have e2 : M g.init.length = evsI g g.init.length ++ evsT g 0 := by rw [hM]; simp [evsT]
    obtain ⟨L2, hL2⟩ : ∃ L2 : Nat → Nat → List EId, ∀ t i, L2 t i = idsI g.init.length ++ idsT g t ++ idsE t i := ⟨_, fun _ _ => rfl⟩
    obtain ⟨M2, hM2⟩ : ∃ M2 : Nat → Nat → List Ev, ∀ t i, M2 t i = evsI g g.init.length ++ evsT g t ++ (g.th.getD t []).take i := ⟨_, fun _ _ => rfl⟩
    obtain ⟨G2, hG2⟩ : ∃ G2 : Nat → Nat → Nat, ∀ t i, G2 t i = (L2 t i).length := ⟨_, fun _ _ => rfl⟩
    have f1 : L g.init.length = L2 0 0 := by rw [e1, hL2]; simp [idsE]
    have f2 : M g.init.length = M2 0 0 := by rw [e2, hM2]; simp
    have f3 : G g.init.length = G2 0 0 := by rw [hG, hG2, ← f1, hL, idsI_len]
    refine E.loopS (ι := Nat) (fun t => t ≤ g.th.length) (fun t => g.th.length - t) (fun t => [(45, .i fun _ => ((t : Nat) : Int))]) (fun t h => vhp g (L2 t 0) (M2 t 0) (G2 t 0)) 0 (fun _ => by first | rfl | simp) (Nat.zero_le _) ?_ fun t ht I1 hI1 => ?_
    · cbv
      simp [f1, f2, f3]
    cbv
    have hht := hsh.at t
    repeat' (first
      | (refine ⟨fun _ h_s => ?_, fun _ h_s => ?_⟩ <;> (cbv; (try simp only [nc] at *); try simp (disch := (first | omega | (simp only [lnS, zA, zM, zG, zP]; omega))) only [nc, nct, w64_of, zT, zZ, zM, rdS, at_agg, bofZ, bof1, bof0, zC, zS, reduceCtorEq, Bool.not_true, Bool.not_false, zD, zE, zB, zF, zN, zO, ne_eq, zQ, zL, zR, beq_iff_eq] at h_s))
      | (refine hF ?_; intro _; clear hF)
      | (refine hF ?_; cbv; clear hF)
      | (refine ⟨fun _ => ?_, ?_⟩; (· ((try simp only [nc] at *); first | done | omega | exact ⟨by omega, rfl⟩ | (simp (disch := (first | omega | (simp only [lnS, zA, zM, zG, zP]; omega))) only [nc, nct, w64_of, zT, zZ, zM, rdS, at_agg, bofZ, bof1, bof0, zC, zS]; first | done | omega | rfl | exact ⟨by omega, rfl⟩ | (simp; done) | (simp; omega)) | (intros; trivial))); (try (simp only [nc] at *)); (try simp (disch := (first | omega | (simp only [lnS, zA, zM, zG, zP]; omega))) only [nc, nct, w64_of, zT, zZ, zM, rdS, at_agg, bofZ, bof1, bof0, zC, zS]); (try cbv))
      | (refine E.d 9 (by decide +kernel) ?_; cbv; (fail_if_success guard_target =~ False))
      | (refine E.d 18 (by decide +kernel) ?_; cbv; (fail_if_success guard_target =~ False))
      | fail
    )
    · refine E.loopS (ι := Nat) (fun i => i ≤ (g.th.getD t []).length) (fun i => (g.th.getD t []).length - i) (fun i => [(52, .i fun _ => ((i : Nat) : Int))]) (fun i h => vhp g (L2 t i) (M2 t i) (G2 t i)) 0 (fun _ => by first | rfl | simp) (Nat.zero_le _) ?_ fun i hi I2 hI2 => ?_
      · cbv
        simp
      cbv
      have hLl : (L2 t i).length = (M2 t i).length := by
        rw [hL2, hM2]; simp only [List.length_append, idsI_len, evsI_len, idsE_len, idsT_len, List.length_take]; omega
      have hLm : (L2 t i).length ≤ 100 := by
        have := evsT_len hsh t
        rw [hL2]; simp only [List.length_append, idsI_len, idsE_len, idsT_len]; omega
      have hLnot : (⟨t + 1, i⟩ : EId) ∉ L2 t i := by
        rw [hL2, List.mem_append, List.mem_append, idsI_mem, idsT_mem, idsE_mem]; simp only; omega
      have hLs : L2 t (i + 1) = L2 t i ++ [⟨t + 1, i⟩] := by rw [hL2, hL2, idsE_succ]; simp only [List.append_assoc]
      have hMs : i < (g.th.getD t []).length → M2 t (i + 1) = M2 t i ++ [(g.th.getD t []).getD i ev0] := fun hi => by rw [hM2, hM2, take_succ' _ i ev0 hi]; simp only [List.append_assoc]
      have hGs : G2 t (i + 1) = G2 t i + 1 := by rw [hG2, hG2, hLs]; simp
      have hput := put1_ok (γ := γ) g .any (L2 t i) (M2 t i) (G2 t i) hLl hLm ⟨t + 1, i⟩ ((g.th.getD t []).getD i ev0) hLnot (L2 t (i + 1)) (M2 t (i + 1)) (G2 t (i + 1)) hLs
      repeat' (first
        | (refine hI1 (t + 1) ?_ ?_ ?_; rotate_left 1; (· ((try simp only [nc] at *); omega)); (cbv; clear hI1; (try clear hF); (try simp only [nc] at *); (try simp (disch := (first | omega | (simp only [lnS, zA, zM, zG, zP]; omega))) only [nc, nct, w64_of, zT, zZ, zM, rdS, at_agg, bofZ, bof1, bof0, zC, zS, implies_true, and_true, true_and, forall_const])); rotate_left 1; (try ((try simp only [nc] at *); omega)))
        | (refine hI2 (i + 1) ?_ ?_ ?_; rotate_left 1; (· ((try simp only [nc] at *); omega)); (cbv; clear hI2; (try clear hF); (try simp only [nc] at *); (try simp (disch := (first | omega | (simp only [lnS, zA, zM, zG, zP]; omega))) only [nc, nct, w64_of, zT, zZ, zM, rdS, at_agg, bofZ, bof1, bof0, zC, zS, implies_true, and_true, true_and, forall_const])); rotate_left 1; (try ((try simp only [nc] at *); omega)))
        | (refine E.c (SCalls.to (hput (hMs (by ((try simp only [nc] at *); omega))) hGs) rfl (Nat.le_of_ble_eq_true rfl) ?_ ?_ ?_); (· (cbv; (try simp only [nc] at *); first | done | (simp; done) | (simp (disch := (first | omega | (simp only [lnS, zA, zM, zG, zP]; omega))) only [nc, nct, w64_of, zT, zZ, zM, rdS, at_agg, bofZ, bof1, bof0, zC, zS, implies_true, and_true, true_and, forall_const]; first | done | omega | (refine ⟨?_, ?_⟩ <;> omega)) | (simp (disch := (first | omega | (simp only [lnS, zA, zM, zG, zP]; omega))) [nc, nct, w64_of, zT, zZ, zM, rdS, at_agg, bofZ, bof1, bof0, zC, zS]; done))); (· (cbv; (try simp only [nc] at *); first | done | (simp; done) | (simp (disch := (first | omega | (simp only [lnS, zA, zM, zG, zP]; omega))) only [nc, nct, w64_of, zT, zZ, zM, rdS, at_agg, bofZ, bof1, bof0, zC, zS, implies_true, and_true, true_and, forall_const]; first | done | omega | (refine ⟨?_, ?_⟩ <;> omega)) | (simp (disch := (first | omega | (simp only [lnS, zA, zM, zG, zP]; omega))) [nc, nct, w64_of, zT, zZ, zM, rdS, at_agg, bofZ, bof1, bof0, zC, zS]; done))); cbv)
        | (refine ⟨fun _ h_s => ?_, fun _ h_s => ?_⟩ <;> (cbv; (try simp only [nc] at *); try simp (disch := (first | omega | (simp only [lnS, zA, zM, zG, zP]; omega))) only [nc, nct, w64_of, zT, zZ, zM, rdS, at_agg, bofZ, bof1, bof0, zC, zS, reduceCtorEq, Bool.not_true, Bool.not_false, zD, zE, zB, zF, zN, zO, ne_eq, zQ, zL, zR, beq_iff_eq] at h_s))
        | (refine hF ?_; intro _; clear hF)
        | (refine hF ?_; cbv; clear hF)
        | (refine ⟨fun _ => ?_, ?_⟩; (· ((try simp only [nc] at *); first | done | omega | exact ⟨by omega, rfl⟩ | (simp (disch := (first | omega | (simp only [lnS, zA, zM, zG, zP]; omega))) only [nc, nct, w64_of, zT, zZ, zM, rdS, at_agg, bofZ, bof1, bof0, zC, zS]; first | done | omega | rfl | exact ⟨by omega, rfl⟩ | (simp; done) | (simp; omega)) | (intros; trivial))); (try (simp only [nc] at *)); (try simp (disch := (first | omega | (simp only [lnS, zA, zM, zG, zP]; omega))) only [nc, nct, w64_of, zT, zZ, zM, rdS, at_agg, bofZ, bof1, bof0, zC, zS]); (try cbv))
        | (refine E.d 9 (by decide +kernel) ?_; cbv; (fail_if_success guard_target =~ False))
        | (refine E.d 18 (by decide +kernel) ?_; cbv; (fail_if_success guard_target =~ False))
        | fail
      )
      · omega
      · clear hput
        have e : i = (g.th.getD t []).length := by omega
        subst e
        have q1 : L2 t (g.th.getD t []).length = L2 (t + 1) 0 := by rw [hL2, hL2, idsT_succ]; simp [idsE]
        have q2 : M2 t (g.th.getD t []).length = M2 (t + 1) 0 := by rw [hM2, hM2, evsT_succ, List.take_length]; simp
        have q3 : G2 t (g.th.getD t []).length = G2 (t + 1) 0 := by rw [hG2, hG2, q1]
        simp only [q1, q2, q3, and_self, and_true]
        omega
    · refine hI ?_
      cbv
      clear hI hI1 hF
      have e : t = g.th.length := by ((try simp only [nc] at *); omega)
      subst e
      (try simp only [nc] at *)
      (try simp (disch := (first | omega | (simp only [lnS, zA, zM, zG, zP]; omega))) only [nc, nct, w64_of, zT, zZ, zM, rdS, at_agg, bofZ, bof1, bof0, zC, zS, implies_true, and_true, true_and, forall_const])
      have q1 : L2 g.th.length 0 = Lf := by rw [hL2, hLf]; simp [idsE, idsG]
      have q2 : M2 g.th.length 0 = Mf := by rw [hM2, hMf]; simp [evsG]
      have q3 : G2 g.th.length 0 = n := by rw [hG2, q1, hLn]
      simp only [q1, q2, q3, and_self]
  refine E.cut 3 (told 165 [(1, .ptr 0 0), (4, .ptr 2 0), (5, .ptr 4 0)] (vhpF g Lf Mf n (fun m => plInit (Lf.getD m id0)))) (by kernel_rfl) (Nat.zero_le _) (fun I hI => ?_) (E.bl ?_)
  · cbv
    refine E.de 17 [1] [some 1, some 1] (by decide +kernel) ?_
    cbv
    refine ⟨fun _ => ?_, ?_⟩
    · ((try simp only [nc] at *); first | done | omega | exact ⟨by omega, rfl⟩ | (simp (disch := (first | omega | (simp only [lnS, zA, zM, zG, zP]; omega))) only [nc, nct, w64_of, zT, zZ, zM, rdS, at_agg, bofZ, bof1, bof0, zC, zS]; first | done | omega | rfl | exact ⟨by omega, rfl⟩ | (simp; done) | (simp; omega)) | (intros; trivial))
    try cbv
    refine ⟨fun _ => ?_, ?_⟩
    · ((try simp only [nc] at *); first | done | omega | exact ⟨by omega, rfl⟩ | (simp (disch := (first | omega | (simp only [lnS, zA, zM, zG, zP]; omega))) only [nc, nct, w64_of, zT, zZ, zM, rdS, at_agg, bofZ, bof1, bof0, zC, zS]; first | done | omega | rfl | exact ⟨by omega, rfl⟩ | (simp; done) | (simp; omega)) | (intros; trivial))
    try cbv
    obtain ⟨fr, hfr⟩ : ∃ fr : Nat → Nat → Int, ∀ k m, fr k m = if m < k then frOf g (Lf.getD m id0) else 0 := ⟨_, fun _ _ => rfl⟩
    obtain ⟨pl, hpl⟩ : ∃ pl : Nat → Nat → Int, ∀ k m, pl k m = if m < k then plInit (Lf.getD m id0) else 0 := ⟨_, fun _ _ => rfl⟩
    have hfr0 : fr 0 = fun _ => 0 := funext fun m => by rw [hfr, if_neg (Nat.not_lt_zero m)]
    have hpl0 : pl 0 = fun _ => 0 := funext fun m => by rw [hpl, if_neg (Nat.not_lt_zero m)]
    clear hF
    refine E.loopS (ι := Nat) (fun k => k ≤ n) (fun k => n - k) (fun k => [(89, .i fun _ => ((k : Nat) : Int))]) (fun k h => (h.set 7 (.run 1 1 fun _ => is (tabI n (fr k)))).set 8 (.run 1 1 fun _ => is (tabI n (pl k)))) 0 (fun _ => by first | rfl | simp) (Nat.zero_le _) ?_ fun k hk I2 hI2 => ?_
    · cbv
      simp only [hfr0, hpl0, tabI_zero, hLn, Int.toNat_natCast, implies_true, and_self, true_and, and_true]
      exact ⟨fun _ => by simp [is], fun _ => by simp [is]⟩
    cbv
    have hkn : 0 + k = k := Nat.zero_add k
    have hrd := fun hk : k < n => dreads0_ok (γ := γ) ⟨Lf, Mf, tabI n fun j => if j = k then -1 else fr k j, tabI n fun j => if j = k then -1 else pl k j⟩ k (by rw [hMn]; exact hk)
    skip
    skip
    skip
    repeat' (first
      | (refine hI2 (k + 1) ?_ ?_ ?_; rotate_left 1; (· ((try simp only [nc] at *); omega)); (cbv; clear hI2; (try clear hF); (try simp only [nc] at *); (try simp (disch := (first | omega | (simp only [lnS, zA, zM, zG, zP, tabI_len]; omega))) only [nc, nct, w64_of, zT, zZ, zM, rdS, at_agg, bofZ, bof1, bof0, zC, zS, Nat.zero_add, true_and, tabI_len, stI, List.drop_zero, List.take_of_length_le, implies_true, and_true, true_and, forall_const])); rotate_left 1; (try ((try simp only [nc] at *); omega)))
      | (refine E.c (SCalls.of_bare (hrd (by ((try simp only [nc] at *); omega))) rfl ?_ ?_); (· (cbv; (try simp only [nc] at *); first | done | (simp; done) | (simp (disch := (first | omega | (simp only [lnS, zA, zM, zG, zP, tabI_len]; omega))) only [nc, nct, w64_of, zT, zZ, zM, rdS, at_agg, bofZ, bof1, bof0, zC, zS, Nat.zero_add, true_and, tabI_len, stI, List.drop_zero, List.take_of_length_le, implies_true, and_true, true_and, forall_const]; first | done | omega | (refine ⟨?_, ?_⟩ <;> omega)) | (simp (disch := (first | omega | (simp only [lnS, zA, zM, zG, zP, tabI_len]; omega))) [nc, nct, w64_of, zT, zZ, zM, rdS, at_agg, bofZ, bof1, bof0, zC, zS, Nat.zero_add, true_and, tabI_len, stI, List.drop_zero, List.take_of_length_le]; done))); cbv)
      | (refine E.q (QCalls.of_bare (hrd (by ((try simp only [nc] at *); omega))) rfl ?_ ?_); (· (cbv; (try simp only [nc] at *); first | done | (simp; done) | (simp (disch := (first | omega | (simp only [lnS, zA, zM, zG, zP, tabI_len]; omega))) only [nc, nct, w64_of, zT, zZ, zM, rdS, at_agg, bofZ, bof1, bof0, zC, zS, Nat.zero_add, true_and, tabI_len, stI, List.drop_zero, List.take_of_length_le, implies_true, and_true, true_and, forall_const]; first | done | omega | (refine ⟨?_, ?_⟩ <;> omega)) | (simp (disch := (first | omega | (simp only [lnS, zA, zM, zG, zP, tabI_len]; omega))) [nc, nct, w64_of, zT, zZ, zM, rdS, at_agg, bofZ, bof1, bof0, zC, zS, Nat.zero_add, true_and, tabI_len, stI, List.drop_zero, List.take_of_length_le]; done))); cbv)
      | (refine E.de 12 [7, 8] [] (by decide +kernel) ?_; cbv; (fail_if_success guard_target =~ False))
      | (refine ⟨fun _ h_s => ?_, fun _ h_s => ?_⟩ <;> (cbv; (try simp only [nc] at *); try simp (disch := (first | omega | (simp only [lnS, zA, zM, zG, zP, tabI_len]; omega))) only [nc, nct, w64_of, zT, zZ, zM, rdS, at_agg, bofZ, bof1, bof0, zC, zS, Nat.zero_add, true_and, tabI_len, stI, List.drop_zero, List.take_of_length_le, reduceCtorEq, Bool.not_true, Bool.not_false, zD, zE, zB, zF, zN, zO, ne_eq, zQ, zL, zR, beq_iff_eq] at h_s))
      | (refine hF ?_; intro _; clear hF)
      | (refine hF ?_; cbv; clear hF)
      | (refine ⟨fun _ => ?_, ?_⟩; (· ((try simp only [nc] at *); first | done | omega | exact ⟨by omega, rfl⟩ | (simp (disch := (first | omega | (simp only [lnS, zA, zM, zG, zP, tabI_len]; omega))) only [nc, nct, w64_of, zT, zZ, zM, rdS, at_agg, bofZ, bof1, bof0, zC, zS, Nat.zero_add, true_and, tabI_len, stI, List.drop_zero, List.take_of_length_le]; first | done | omega | rfl | exact ⟨by omega, rfl⟩ | (simp; done) | (simp; omega)) | (intros; trivial) | exact rfl | exact ⟨by omega, by rw [istab_get _ _ _ (by omega)]; rfl⟩)); (try (simp only [nc] at *)); (try simp (disch := (first | omega | (simp only [lnS, zA, zM, zG, zP, tabI_len]; omega))) only [nc, nct, w64_of, zT, zZ, zM, rdS, at_agg, bofZ, bof1, bof0, zC, zS, Nat.zero_add, true_and, tabI_len, stI, List.drop_zero, List.take_of_length_le]); (try cbv))
      | (refine E.d 9 (by decide +kernel) ?_; cbv; (fail_if_success guard_target =~ False))
      | (refine E.d 18 (by decide +kernel) ?_; cbv; (fail_if_success guard_target =~ False))
      | fail
    )
    · rename_i hs0
      refine ⟨by push_cast; rfl, congrArg is (tabI_congr fun j hj => ?_), congrArg is (tabI_congr fun j hj => ?_)⟩
      · rw [hfr, hfr]
        split
        · rename_i e; subst e; rw [if_pos (by omega), frOf, if_pos h_s]
        · rename_i e; by_cases hjk : j < k
          · rw [if_pos hjk, if_pos (by omega)]
          · rw [if_neg hjk, if_neg (by omega)]
      · rw [hpl, hpl]
        split
        · rename_i e; subst e; rw [if_pos (by omega), plInit, if_pos h_s]
        · rename_i e; by_cases hjk : j < k
          · rw [if_pos hjk, if_pos (by omega)]
          · rw [if_neg hjk, if_neg (by omega)]
    · have hkl : k < Lf.length := by ((try simp only [nc] at *); omega)
      have hw : 0 ≤ (Lf.getD k ⟨0, 0⟩).t - 1 ∧ ((Lf.getD k ⟨0, 0⟩).t - 1).toNat < g.fr.length ∧ (Lf.getD k ⟨0, 0⟩).t ≤ 4 ∧ 0 ≤ (Lf.getD k ⟨0, 0⟩).i ∧ (Lf.getD k ⟨0, 0⟩).i.toNat < (g.fr.getD ((Lf.getD k ⟨0, 0⟩).t - 1).toNat []).length := by
        subst hLf
        exact ids_where h hkl (by assumption)
      obtain ⟨w1, w2, w3, w4, w5⟩ := hw
      have hev : eventM g (Lf.getD k ⟨0, 0⟩) = some (Mf.getD k ⟨0, 0, 0, 0, 0⟩) := by
        subst hLf hMf
        exact evsG_get g k hkl
      have hsm : (g.fr.getD ((Lf.getD k ⟨0, 0⟩).t - 1).toNat []).getD (Lf.getD k ⟨0, 0⟩).i.toNat ⟨0, 0⟩ ∈ Lf := by
        have hm : Lf.getD k ⟨0, 0⟩ ∈ idsG g := by rw [← hLf]; exact getD_mem hkl
        obtain ⟨w, hw, _⟩ := source_mem (src_ok h hm (by omega)) (by rw [hev]; exact h_s)
        rw [hLf]
        exact idsG_mem.2 (by rw [← hLf]; exact congrArg Option.isSome hw)
      have hfo : frOf g (Lf.getD k id0) = (numOf Lf ((g.fr.getD ((Lf.getD k ⟨0, 0⟩).t - 1).toNat []).getD (Lf.getD k ⟨0, 0⟩).i.toNat ⟨0, 0⟩) : Nat) := by
        unfold frOf
        rw [if_neg (by assumption), show eventM g (Lf.getD k id0) = _ from hev, Option.getD_some, if_pos h_s, ← hLf]; rfl
      have hv := fun z => lk_num Lf _ hsm _ rfl z
      (try simp only [nc] at *)
      simp (disch := first | omega) only [w64_of]
      simp (disch := first | omega) only [idss_len, Int.toNat_of_nonneg, idss_get, at_l, asL_vs, ids_len, ids_get, at_d0, at_d1, asI_i, Int.toNat_natCast, knums_id, hv]
      skip
      repeat' (first
        | (refine hI2 (k + 1) ?_ ?_ ?_; rotate_left 1; (· ((try simp only [nc] at *); omega)); (cbv; clear hI2; (try clear hF); (try simp only [nc] at *); (try simp (disch := (first | omega | (simp only [lnS, zA, zM, zG, zP, tabI_len]; omega))) only [nc, nct, w64_of, zT, zZ, zM, rdS, at_agg, bofZ, bof1, bof0, zC, zS, Nat.zero_add, true_and, tabI_len, stI, List.drop_zero, List.take_of_length_le, implies_true, and_true, true_and, forall_const])); rotate_left 1; (try ((try simp only [nc] at *); omega)))
        | (refine ⟨fun _ h_s => ?_, fun _ h_s => ?_⟩ <;> (cbv; (try simp only [nc] at *); try simp (disch := (first | omega | (simp only [lnS, zA, zM, zG, zP, tabI_len]; omega))) only [nc, nct, w64_of, zT, zZ, zM, rdS, at_agg, bofZ, bof1, bof0, zC, zS, Nat.zero_add, true_and, tabI_len, stI, List.drop_zero, List.take_of_length_le, reduceCtorEq, Bool.not_true, Bool.not_false, zD, zE, zB, zF, zN, zO, ne_eq, zQ, zL, zR, beq_iff_eq] at h_s))
        | (refine hF ?_; intro _; clear hF)
        | (refine hF ?_; cbv; clear hF)
        | (refine ⟨fun _ => ?_, ?_⟩; (· ((try simp only [nc] at *); first | done | omega | exact ⟨by omega, rfl⟩ | (simp (disch := (first | omega | (simp only [lnS, zA, zM, zG, zP, tabI_len]; omega))) only [nc, nct, w64_of, zT, zZ, zM, rdS, at_agg, bofZ, bof1, bof0, zC, zS, Nat.zero_add, true_and, tabI_len, stI, List.drop_zero, List.take_of_length_le]; first | done | omega | rfl | exact ⟨by omega, rfl⟩ | (simp; done) | (simp; omega)) | (intros; trivial) | exact rfl | exact ⟨by omega, by rw [istab_get _ _ _ (by omega)]; rfl⟩ | exact ⟨mok_ids _, is_vals _⟩)); (try (simp only [nc] at *)); (try simp (disch := (first | omega | (simp only [lnS, zA, zM, zG, zP, tabI_len]; omega))) only [nc, nct, w64_of, zT, zZ, zM, rdS, at_agg, bofZ, bof1, bof0, zC, zS, Nat.zero_add, true_and, tabI_len, stI, List.drop_zero, List.take_of_length_le]); (try cbv))
        | (refine E.d 9 (by decide +kernel) ?_; cbv; (fail_if_success guard_target =~ False))
        | (refine E.d 18 (by decide +kernel) ?_; cbv; (fail_if_success guard_target =~ False))
        | fail
      )
      refine ⟨by push_cast; rfl, congrArg is (tabI_congr fun j hj => ?_), congrArg is (tabI_congr fun j hj => ?_)⟩
      · rw [hfr, hfr]
        split
        · rename_i e; subst e; rw [if_pos (by omega)]; exact hfo.symm
        · rename_i e; by_cases hjk : j < k
          · rw [if_pos hjk, if_pos (by omega)]
          · rw [if_neg hjk, if_neg (by omega)]
      · rw [hpl, hpl]
        split
        · rename_i e; subst e; rw [if_pos (by omega), plInit, if_neg (by assumption)]
        · rename_i e; by_cases hjk : j < k
          · rw [if_pos hjk, if_pos (by omega)]
          · rw [if_neg hjk, if_neg (by omega)]
    · have hkl : k < Lf.length := by ((try simp only [nc] at *); omega)
      have hev : eventM g (Lf.getD k ⟨0, 0⟩) = some (Mf.getD k ⟨0, 0, 0, 0, 0⟩) := by
        subst hLf hMf
        exact evsG_get g k hkl
      refine ⟨by push_cast; rfl, congrArg is (tabI_congr fun j hj => ?_), congrArg is (tabI_congr fun j hj => ?_)⟩
      · rw [hfr, hfr]
        split
        · rename_i e; subst e; rw [if_pos (by omega), frOf, if_neg (by assumption), show eventM g (Lf.getD j id0) = _ from hev, Option.getD_some, h_s, if_neg (by simp)]
        · rename_i e; by_cases hjk : j < k
          · rw [if_pos hjk, if_pos (by omega)]
          · rw [if_neg hjk, if_neg (by omega)]
      · rw [hpl, hpl]
        split
        · rename_i e; subst e; rw [if_pos (by omega), plInit, if_neg (by assumption)]
        · rename_i e; by_cases hjk : j < k
          · rw [if_pos hjk, if_pos (by omega)]
          · rw [if_neg hjk, if_neg (by omega)]
    · refine hI ?_
      cbv
      clear hI hI2
      have e : k = n := by ((try simp only [nc] at *); omega)
      have q1 : is (tabI n (fr k)) = is (tabI n fun m => frOf g (Lf.getD m ⟨0, 0⟩)) := congrArg is (tabI_congr fun m hm => by rw [hfr, if_pos (by omega)])
      have q2 : is (tabI n (pl k)) = is (tabI n fun m => plInit (Lf.getD m ⟨0, 0⟩)) := congrArg is (tabI_congr fun m hm => by rw [hpl, if_pos (by omega)])
      simp only [q1, q2, Int.toNat_natCast, implies_true, and_self]
  · obtain ⟨plx, hplx⟩ : ∃ plx : Nat → Nat → Nat → Int, ∀ x i m, plx x i m = plTo g (qsT g x ++ qsE g x i) (Lf.getD m id0) := ⟨_, fun _ _ _ => rfl⟩
    have hp0 : (fun m => plInit (Lf.getD m id0)) = plx 0 0 := funext fun m => by rw [hplx]; rfl
    have hpE : plx g.ord.length 0 = fun m => plOf g (Lf.getD m id0) := funext fun m => by
      rw [hplx, show qsE g g.ord.length 0 = [] by simp [qsE], List.append_nil, plTo_all h]
    have hpS : ∀ x, plx x (g.ord.getD x []).length = plx (x + 1) 0 := fun x => funext fun m => by
      rw [hplx, hplx, qsT_succ, show qsE g (x + 1) 0 = [] by simp [qsE], List.append_nil]
    rw [hp0]
    have hord := hg.ord
    cbv
    refine E.loopS (ι := Nat) (fun x => x ≤ g.ord.length) (fun x => g.ord.length - x) (fun x => [(141, .i fun _ => ((x : Nat) : Int))]) (fun x h => h.set 8 (.run 1 1 fun _ => is (tabI n (plx x 0)))) 0 (fun _ => by first | rfl | simp) (Nat.zero_le _) ?_ fun x hx I3 hI3 => ?_
    · cbv
      simp
    cbv
    have hol : ((g.ord.getD x []).length : Int) ≤ 9223372036854775807 := ordsAt hg x
    skip
    repeat' (first
      | (refine ⟨fun _ h_s => ?_, fun _ h_s => ?_⟩ <;> (cbv; (try simp only [nc] at *); try simp (disch := (first | omega | (simp only [lnS, zA, zM, zG, zP, tabI_len, tabI_len]; omega))) only [nc, nct, w64_of, zT, zZ, zM, rdS, at_agg, bofZ, bof1, bof0, zC, zS, Nat.zero_add, true_and, tabI_len, stI, List.drop_zero, List.take_of_length_le, tabI_len, stI, reduceCtorEq, Bool.not_true, Bool.not_false, zD, zE, zB, zF, zN, zO, ne_eq, zQ, zL, zR, beq_iff_eq] at h_s))
      | (refine hF ?_; intro _; clear hF)
      | (refine hF ?_; cbv; clear hF)
      | (refine ⟨fun _ => ?_, ?_⟩; (· ((try simp only [nc] at *); first | done | omega | exact ⟨by omega, rfl⟩ | (simp (disch := (first | omega | (simp only [lnS, zA, zM, zG, zP, tabI_len, tabI_len]; omega))) only [nc, nct, w64_of, zT, zZ, zM, rdS, at_agg, bofZ, bof1, bof0, zC, zS, Nat.zero_add, true_and, tabI_len, stI, List.drop_zero, List.take_of_length_le, tabI_len, stI]; first | done | omega | rfl | exact ⟨by omega, rfl⟩ | (simp; done) | (simp; omega)) | (intros; trivial) | exact rfl | exact ⟨by omega, by rw [istab_get _ _ _ (by omega)]; rfl⟩ | exact ⟨mok_ids _, is_vals _⟩)); (try (simp only [nc] at *)); (try simp (disch := (first | omega | (simp only [lnS, zA, zM, zG, zP, tabI_len, tabI_len]; omega))) only [nc, nct, w64_of, zT, zZ, zM, rdS, at_agg, bofZ, bof1, bof0, zC, zS, Nat.zero_add, true_and, tabI_len, stI, List.drop_zero, List.take_of_length_le, tabI_len, stI]); (try cbv))
      | (refine E.d 9 (by decide +kernel) ?_; cbv; (fail_if_success guard_target =~ False))
      | (refine E.d 18 (by decide +kernel) ?_; cbv; (fail_if_success guard_target =~ False))
      | fail
    )
    · have hxx : x < g.ord.length := by ((try simp only [nc] at *); omega)
      refine E.loopS (ι := Nat) (fun i => i ≤ (g.ord.getD x []).length) (fun i => (g.ord.getD x []).length - i) (fun i => [(147, .i fun _ => ((i : Nat) : Int))]) (fun i h => h.set 8 (.run 1 1 fun _ => is (tabI n (plx x i)))) 0 (fun _ => by first | rfl | simp) (Nat.zero_le _) ?_ fun i hi I4 hI4 => ?_
      · cbv
        simp
      cbv
      have hnum : i < (g.ord.getD x []).length → numOf Lf ((g.ord.getD x []).getD i ⟨0, 0⟩) < n ∧ ∀ z, ((mval (mfind [.i, .i] (ids Lf) [((g.ord.getD x []).getD i ⟨0, 0⟩).t, ((g.ord.getD x []).getD i ⟨0, 0⟩).i]) (is (iota Lf.length)) z).at 0).asI = (numOf Lf ((g.ord.getD x []).getD i ⟨0, 0⟩) : Nat) := fun hi => by
        have hm : (g.ord.getD x []).getD i ⟨0, 0⟩ ∈ Lf := by rw [hLf]; exact ord_mem h hxx hi
        exact ⟨by rw [← hLn]; exact numOf_lt hm, fun z => lk_num Lf _ hm _ rfl z⟩
      skip
      skip
      repeat' (first
        | (refine ⟨fun _ h_s => ?_, fun _ h_s => ?_⟩ <;> (cbv; (try simp only [nc] at *); try simp (disch := (first | omega | (simp only [lnS, zA, zM, zG, zP, tabI_len, tabI_len]; omega))) only [nc, nct, w64_of, zT, zZ, zM, rdS, at_agg, bofZ, bof1, bof0, zC, zS, Nat.zero_add, true_and, tabI_len, stI, List.drop_zero, List.take_of_length_le, tabI_len, stI, Nat.zero_add, reduceCtorEq, Bool.not_true, Bool.not_false, zD, zE, zB, zF, zN, zO, ne_eq, zQ, zL, zR, beq_iff_eq] at h_s))
        | (refine hF ?_; intro _; clear hF)
        | (refine hF ?_; cbv; clear hF)
        | (refine ⟨fun _ => ?_, ?_⟩; (· ((try simp only [nc] at *); first | done | omega | exact ⟨by omega, rfl⟩ | (simp (disch := (first | omega | (simp only [lnS, zA, zM, zG, zP, tabI_len, tabI_len]; omega))) only [nc, nct, w64_of, zT, zZ, zM, rdS, at_agg, bofZ, bof1, bof0, zC, zS, Nat.zero_add, true_and, tabI_len, stI, List.drop_zero, List.take_of_length_le, tabI_len, stI, Nat.zero_add]; first | done | omega | rfl | exact ⟨by omega, rfl⟩ | (simp; done) | (simp; omega)) | (intros; trivial) | exact rfl | exact ⟨by omega, by rw [istab_get _ _ _ (by omega)]; rfl⟩ | exact ⟨mok_ids _, is_vals _⟩ | exact rfl)); (try (simp only [nc] at *)); (try simp (disch := (first | omega | (simp only [lnS, zA, zM, zG, zP, tabI_len, tabI_len]; omega))) only [nc, nct, w64_of, zT, zZ, zM, rdS, at_agg, bofZ, bof1, bof0, zC, zS, Nat.zero_add, true_and, tabI_len, stI, List.drop_zero, List.take_of_length_le, tabI_len, stI, Nat.zero_add]); (try cbv))
        | (refine E.d 9 (by decide +kernel) ?_; cbv; (fail_if_success guard_target =~ False))
        | (refine E.d 18 (by decide +kernel) ?_; cbv; (fail_if_success guard_target =~ False))
        | fail
      )
      · obtain ⟨hn1, hn2⟩ := hnum (by ((try simp only [nc] at *); omega))
        simp only [knums_id, hn2]
        skip
        have hii : i < (g.ord.getD x []).length := by ((try simp only [nc] at *); omega)
        repeat' (first
          | (refine hI4 (i + 1) ?_ ?_ ?_; rotate_left 1; (· ((try simp only [nc] at *); omega)); (cbv; clear hI4; (try clear hF); (try simp only [nc] at *); (try simp (disch := (first | omega | (simp only [lnS, zA, zM, zG, zP, tabI_len, tabI_len]; omega))) only [nc, nct, w64_of, zT, zZ, zM, rdS, at_agg, bofZ, bof1, bof0, zC, zS, Nat.zero_add, true_and, tabI_len, stI, List.drop_zero, List.take_of_length_le, tabI_len, stI, Nat.zero_add, implies_true, and_true, true_and, forall_const])); rotate_left 1; (try ((try simp only [nc] at *); omega)))
          | (refine ⟨fun _ h_s => ?_, fun _ h_s => ?_⟩ <;> (cbv; (try simp only [nc] at *); try simp (disch := (first | omega | (simp only [lnS, zA, zM, zG, zP, tabI_len, tabI_len]; omega))) only [nc, nct, w64_of, zT, zZ, zM, rdS, at_agg, bofZ, bof1, bof0, zC, zS, Nat.zero_add, true_and, tabI_len, stI, List.drop_zero, List.take_of_length_le, tabI_len, stI, Nat.zero_add, reduceCtorEq, Bool.not_true, Bool.not_false, zD, zE, zB, zF, zN, zO, ne_eq, zQ, zL, zR, beq_iff_eq] at h_s))
          | (refine hF ?_; intro _; clear hF)
          | (refine hF ?_; cbv; clear hF)
          | (refine ⟨fun _ => ?_, ?_⟩; (· ((try simp only [nc] at *); first | done | omega | exact ⟨by omega, rfl⟩ | (simp (disch := (first | omega | (simp only [lnS, zA, zM, zG, zP, tabI_len, tabI_len]; omega))) only [nc, nct, w64_of, zT, zZ, zM, rdS, at_agg, bofZ, bof1, bof0, zC, zS, Nat.zero_add, true_and, tabI_len, stI, List.drop_zero, List.take_of_length_le, tabI_len, stI, Nat.zero_add]; first | done | omega | rfl | exact ⟨by omega, rfl⟩ | (simp; done) | (simp; omega)) | (intros; trivial) | exact rfl | exact ⟨by omega, by rw [istab_get _ _ _ (by omega)]; rfl⟩ | exact ⟨mok_ids _, is_vals _⟩ | exact rfl | exact ⟨mok_ids _, is_vals _⟩)); (try (simp only [nc] at *)); (try simp (disch := (first | omega | (simp only [lnS, zA, zM, zG, zP, tabI_len, tabI_len]; omega))) only [nc, nct, w64_of, zT, zZ, zM, rdS, at_agg, bofZ, bof1, bof0, zC, zS, Nat.zero_add, true_and, tabI_len, stI, List.drop_zero, List.take_of_length_le, tabI_len, stI, Nat.zero_add]); (try cbv))
          | (refine E.d 9 (by decide +kernel) ?_; cbv; (fail_if_success guard_target =~ False))
          | (refine E.d 18 (by decide +kernel) ?_; cbv; (fail_if_success guard_target =~ False))
          | fail
        )
        refine ⟨by push_cast; rfl, congrArg is (tabI_congr fun j hj => ?_)⟩
        have := plTo_step h hxx hii (m := j) (by rw [← hLf, hLn]; exact hj)
        rw [hplx, hplx, hLf]
        rw [hLf] at hn1 hn2
        exact this
      · have e : i = (g.ord.getD x []).length := by ((try simp only [nc] at *); omega)
        subst e
        rw [hpS]
        repeat' (first
          | (refine hI3 (x + 1) ?_ ?_ ?_; rotate_left 1; (· ((try simp only [nc] at *); omega)); (cbv; clear hI3; (try clear hF); (try simp only [nc] at *); (try simp (disch := (first | omega | (simp only [lnS, zA, zM, zG, zP, tabI_len, tabI_len]; omega))) only [nc, nct, w64_of, zT, zZ, zM, rdS, at_agg, bofZ, bof1, bof0, zC, zS, Nat.zero_add, true_and, tabI_len, stI, List.drop_zero, List.take_of_length_le, tabI_len, stI, Nat.zero_add, implies_true, and_true, true_and, forall_const])); rotate_left 1; (try ((try simp only [nc] at *); omega)))
          | (refine ⟨fun _ h_s => ?_, fun _ h_s => ?_⟩ <;> (cbv; (try simp only [nc] at *); try simp (disch := (first | omega | (simp only [lnS, zA, zM, zG, zP, tabI_len, tabI_len]; omega))) only [nc, nct, w64_of, zT, zZ, zM, rdS, at_agg, bofZ, bof1, bof0, zC, zS, Nat.zero_add, true_and, tabI_len, stI, List.drop_zero, List.take_of_length_le, tabI_len, stI, Nat.zero_add, reduceCtorEq, Bool.not_true, Bool.not_false, zD, zE, zB, zF, zN, zO, ne_eq, zQ, zL, zR, beq_iff_eq] at h_s))
          | (refine hF ?_; intro _; clear hF)
          | (refine hF ?_; cbv; clear hF)
          | (refine ⟨fun _ => ?_, ?_⟩; (· ((try simp only [nc] at *); first | done | omega | exact ⟨by omega, rfl⟩ | (simp (disch := (first | omega | (simp only [lnS, zA, zM, zG, zP, tabI_len, tabI_len]; omega))) only [nc, nct, w64_of, zT, zZ, zM, rdS, at_agg, bofZ, bof1, bof0, zC, zS, Nat.zero_add, true_and, tabI_len, stI, List.drop_zero, List.take_of_length_le, tabI_len, stI, Nat.zero_add]; first | done | omega | rfl | exact ⟨by omega, rfl⟩ | (simp; done) | (simp; omega)) | (intros; trivial) | exact rfl | exact ⟨by omega, by rw [istab_get _ _ _ (by omega)]; rfl⟩ | exact ⟨mok_ids _, is_vals _⟩ | exact rfl | exact ⟨mok_ids _, is_vals _⟩)); try cbv)
          | (refine E.d 9 (by decide +kernel) ?_; cbv; (fail_if_success guard_target =~ False))
          | (refine E.d 18 (by decide +kernel) ?_; cbv; (fail_if_success guard_target =~ False))
          | fail
        )
        push_cast; rfl
    · have e : x = g.ord.length := by ((try simp only [nc] at *); omega)
      subst e
      rw [hpE]
      simp only [viewG, ← hLf, ← hMf, ← hnn, hLn, hMn]
      simp [List.take_of_length_le, hLn, hMn, id0]
end Go.AL.Rl

namespace Go.AL.Rl
open Go Go.AL Go.Proofs
set_option maxRecDepth 100000
set_option maxHeartbeats 1600000
variable {γ : Nat → Option AV}

def poF (V : Vw) (n : Nat) : List (BitVec 64) := relRows n (poM V)
def rfF (V : Vw) (n : Nat) : List (BitVec 64) := relRows n (rfM V)
def coF (V : Vw) (n : Nat) : List (BitVec 64) := relRows n (coM V)
def frF (V : Vw) (n : Nat) : List (BitVec 64) := relRows n (frM V)
def locF (V : Vw) (n : Nat) : List (BitVec 64) := relRows n (locM V)
noncomputable def swF (V : Vw) (n : Nat) : List (BitVec 64) := relRows n (bit (swRows V n))
def ecoF (V : Vw) (n : Nat) : List (BitVec 64) := plusM n (orM n [((n : Int), rfF V n), ((n : Int), coF V n), ((n : Int), frF V n)])
def porfF (V : Vw) (n : Nat) : List (BitVec 64) := plusM n (orM n [((n : Int), poF V n), ((n : Int), rfF V n)])
noncomputable def hbF (V : Vw) (n : Nat) : List (BitVec 64) := plusM n (orM n [((n : Int), poF V n), ((n : Int), swF V n)])
theorem viewOf_ok (g : Gr) (hg : Rd g) (h : GOk g) : Pure Tryd.prog γ false 47 [aGr g] (.tup [.vp (fun _ => aVw (viewG g)) 0, .b fun _ => true]) := viewOf_yes g hg h
theorem vpoF_ok (V : Vw) {n : Nat} (hV : Wf V n) : Pure Tryd.prog γ false 48 [pVw V, .fn 49 [.vp (fun _ => aVw V) 0] []] (encRel n (poF V n)) :=
  drel1_ok (γ := γ) V hV 49 (fun _ => aVw V) _ (fun a ha b hb => dpo_ok V hV a b ha hb)
theorem vrfF_ok (V : Vw) {n : Nat} (hV : Wf V n) : Pure Tryd.prog γ false 48 [pVw V, .fn 50 [.vp (fun _ => aVw V) 0] []] (encRel n (rfF V n)) :=
  drel1_ok (γ := γ) V hV 50 (fun _ => aVw V) _ (fun a ha b hb => drf_ok V hV a b ha hb)
theorem vcoF_ok (V : Vw) {n : Nat} (hV : Wf V n) : Pure Tryd.prog γ false 48 [pVw V, .fn 51 [.vp (fun _ => aVw V) 0] []] (encRel n (coF V n)) :=
  drel1_ok (γ := γ) V hV 51 (fun _ => aVw V) _ (fun a ha b hb => dco_ok V hV a b ha hb)
theorem vfrF_ok (V : Vw) {n : Nat} (hV : Wf V n) : Pure Tryd.prog γ false 48 [pVw V, .fn 52 [.vp (fun _ => aVw V) 0] []] (encRel n (frF V n)) :=
  drel1_ok (γ := γ) V hV 52 (fun _ => aVw V) _ (fun a ha b hb => dfr_ok V hV a b ha hb)
theorem vlocF_ok (V : Vw) {n : Nat} (hV : Wf V n) : Pure Tryd.prog γ false 48 [pVw V, .fn 54 [.vp (fun _ => aVw V) 0] []] (encRel n (locF V n)) :=
  drel1_ok (γ := γ) V hV 54 (fun _ => aVw V) _ (fun a ha b hb => dloc_ok V hV a b ha hb)
theorem vswF_ok (V : Vw) {n : Nat} (hV : Wf V n) : Pure Tryd.prog γ false 55 [pVw V] (encRel n (swF V n)) := dsw_ok V hV
theorem fits_poF (V : Vw) {n : Nat} (h : n ≤ 62) : Fits n (poF V n) := fits_rel (by omega) _
theorem fits_rfF (V : Vw) {n : Nat} (h : n ≤ 62) : Fits n (rfF V n) := fits_rel (by omega) _
theorem fits_coF (V : Vw) {n : Nat} (h : n ≤ 62) : Fits n (coF V n) := fits_rel (by omega) _
theorem fits_frF (V : Vw) {n : Nat} (h : n ≤ 62) : Fits n (frF V n) := fits_rel (by omega) _
theorem fits_swF (V : Vw) {n : Nat} (h : n ≤ 62) : Fits n (swF V n) := fits_rel (by omega) _
end Go.AL.Rl

namespace Go.AL.Rl
open Go Go.AL Go.Proofs
set_option maxRecDepth 100000
set_option maxHeartbeats 1600000
variable {γ : Nat → Option AV}

abbrev aDer (n : Int) (po rf co fr eco porf loc sw hb : List (BitVec 64)) : AV :=
  .agg [.i fun _ => n, .vs 1 fun _ => us po, .i fun _ => n, .vs 1 fun _ => us rf, .i fun _ => n, .vs 1 fun _ => us co, .i fun _ => n, .vs 1 fun _ => us fr, .i fun _ => n, .vs 1 fun _ => us eco, .i fun _ => n, .vs 1 fun _ => us porf, .i fun _ => n, .vs 1 fun _ => us loc, .i fun _ => n, .vs 1 fun _ => us sw, .i fun _ => n, .vs 1 fun _ => us hb]
theorem or3 (n : Nat) (a b c : List (BitVec 64)) (ha : Fits n a) (hb : Fits n b) (hc : Fits n c) : Pure Tryd.prog γ false 32 [.vs 2 fun _ => rls [((n : Int), a), ((n : Int), b), ((n : Int), c)]] (encRel n (orM n [((n : Int), a), ((n : Int), b), ((n : Int), c)])) :=
  or_yes _ (by simp) (alike3 n a b c ha hb hc) n rfl
theorem dAll_yes (g : Gr) (hg : Rd g) (h : GOk g) : Pure Tryd.prog γ false 30 [aGr g] (.tup [aDer (nG g : Nat) (poF (viewG g) (nG g)) (rfF (viewG g) (nG g)) (coF (viewG g) (nG g)) (frF (viewG g) (nG g)) (ecoF (viewG g) (nG g)) (porfF (viewG g) (nG g)) (locF (viewG g) (nG g)) (swF (viewG g) (nG g)) (hbF (viewG g) (nG g)), .i fun _ => 0]) := by
  have hV := viewG_wf h
  have a1 := vpoF_ok (γ := γ) (viewG g) hV
  have a2 := vrfF_ok (γ := γ) (viewG g) hV
  have a3 := vcoF_ok (γ := γ) (viewG g) hV
  have a4 := vfrF_ok (γ := γ) (viewG g) hV
  have a5 := vlocF_ok (γ := γ) (viewG g) hV
  have a6 := vswF_ok (γ := γ) (viewG g) hV
  have f1 := fits_poF (viewG g) hV.small
  have f2 := fits_rfF (viewG g) hV.small
  have f3 := fits_coF (viewG g) hV.small
  have f4 := fits_frF (viewG g) hV.small
  have f6 := fits_swF (viewG g) hV.small
  have o1 := or3 (γ := γ) (nG g) _ _ _ f2 f3 f4
  have o2 := or2 (γ := γ) (nG g) _ _ f1 f2
  have o3 := or2 (γ := γ) (nG g) _ _ f1 f6
  have p1 := plus_ok (γ := γ) (nG g) _ (fits_or (by have := hV.small; omega) (l := [((nG g : Int), rfF (viewG g) (nG g)), ((nG g : Int), coF (viewG g) (nG g)), ((nG g : Int), frF (viewG g) (nG g))]) (by simp [f2, f3, f4]))
  have p2 := plus_ok (γ := γ) (nG g) _ (fits_or2 f1 f2)
  have p3 := plus_ok (γ := γ) (nG g) _ (fits_or2 f1 f6)
  refine Pure.go (ty := ty) ty_eq mo Tryd.func30 rfl Tryd.ntmps30 Tryd.results30 Tryd.call30 (by simp) fun P C CQ D W F E hF => ?_
  cbv
  repeat' (first
    | (refine E.c (SCalls.of_le (p3) ?_ ?_); (· (cbv; (try simp only [nc] at *); first | done | (simp; done) | (simp (disch := (first | omega | (simp only [lnS, zA, zM, zG, zP]; omega))) only [nc, nct, w64_of, zT, zZ, zM, rdS, at_agg, bofZ, bof1, bof0, zC, zS, implies_true, and_true, true_and, forall_const]; first | done | omega | (refine ⟨?_, ?_⟩ <;> omega)) | (simp (disch := (first | omega | (simp only [lnS, zA, zM, zG, zP]; omega))) [nc, nct, w64_of, zT, zZ, zM, rdS, at_agg, bofZ, bof1, bof0, zC, zS]; done))); cbv)
    | (refine E.c (SCalls.of_le (p2) ?_ ?_); (· (cbv; (try simp only [nc] at *); first | done | (simp; done) | (simp (disch := (first | omega | (simp only [lnS, zA, zM, zG, zP]; omega))) only [nc, nct, w64_of, zT, zZ, zM, rdS, at_agg, bofZ, bof1, bof0, zC, zS, implies_true, and_true, true_and, forall_const]; first | done | omega | (refine ⟨?_, ?_⟩ <;> omega)) | (simp (disch := (first | omega | (simp only [lnS, zA, zM, zG, zP]; omega))) [nc, nct, w64_of, zT, zZ, zM, rdS, at_agg, bofZ, bof1, bof0, zC, zS]; done))); cbv)
    | (refine E.c (SCalls.of_le (p1) ?_ ?_); (· (cbv; (try simp only [nc] at *); first | done | (simp; done) | (simp (disch := (first | omega | (simp only [lnS, zA, zM, zG, zP]; omega))) only [nc, nct, w64_of, zT, zZ, zM, rdS, at_agg, bofZ, bof1, bof0, zC, zS, implies_true, and_true, true_and, forall_const]; first | done | omega | (refine ⟨?_, ?_⟩ <;> omega)) | (simp (disch := (first | omega | (simp only [lnS, zA, zM, zG, zP]; omega))) [nc, nct, w64_of, zT, zZ, zM, rdS, at_agg, bofZ, bof1, bof0, zC, zS]; done))); cbv)
    | (refine E.c (SCalls.of_bare (o3) rfl ?_ ?_); (· (cbv; simp [rls, ps, us, is, LV.of]; done)); cbv)
    | (refine E.c (SCalls.of_le (o3) ?_ ?_); (· (cbv; simp [rls, ps, us, is, LV.of]; done)); cbv)
    | (refine E.q (QCalls.of_le (o3) ?_ ?_); (· (cbv; simp [rls, ps, us, is, LV.of]; done)); cbv)
    | (refine E.c (SCalls.of_bare (o2) rfl ?_ ?_); (· (cbv; simp [rls, ps, us, is, LV.of]; done)); cbv)
    | (refine E.c (SCalls.of_le (o2) ?_ ?_); (· (cbv; simp [rls, ps, us, is, LV.of]; done)); cbv)
    | (refine E.q (QCalls.of_le (o2) ?_ ?_); (· (cbv; simp [rls, ps, us, is, LV.of]; done)); cbv)
    | (refine E.c (SCalls.of_bare (o1) rfl ?_ ?_); (· (cbv; simp [rls, ps, us, is, LV.of]; done)); cbv)
    | (refine E.c (SCalls.of_le (o1) ?_ ?_); (· (cbv; simp [rls, ps, us, is, LV.of]; done)); cbv)
    | (refine E.q (QCalls.of_le (o1) ?_ ?_); (· (cbv; simp [rls, ps, us, is, LV.of]; done)); cbv)
    | (refine E.c (SCalls.of_le (a6) ?_ ?_); (· (cbv; (try simp only [nc] at *); first | done | (simp; done) | (simp (disch := (first | omega | (simp only [lnS, zA, zM, zG, zP]; omega))) only [nc, nct, w64_of, zT, zZ, zM, rdS, at_agg, bofZ, bof1, bof0, zC, zS, implies_true, and_true, true_and, forall_const]; first | done | omega | (refine ⟨?_, ?_⟩ <;> omega)) | (simp (disch := (first | omega | (simp only [lnS, zA, zM, zG, zP]; omega))) [nc, nct, w64_of, zT, zZ, zM, rdS, at_agg, bofZ, bof1, bof0, zC, zS]; done))); cbv)
    | (refine E.c (SCalls.of_le (a5) ?_ ?_); (· (cbv; (try simp only [nc] at *); first | done | (simp; done) | (simp (disch := (first | omega | (simp only [lnS, zA, zM, zG, zP]; omega))) only [nc, nct, w64_of, zT, zZ, zM, rdS, at_agg, bofZ, bof1, bof0, zC, zS, implies_true, and_true, true_and, forall_const]; first | done | omega | (refine ⟨?_, ?_⟩ <;> omega)) | (simp (disch := (first | omega | (simp only [lnS, zA, zM, zG, zP]; omega))) [nc, nct, w64_of, zT, zZ, zM, rdS, at_agg, bofZ, bof1, bof0, zC, zS]; done))); cbv)
    | (refine E.c (SCalls.of_le (a4) ?_ ?_); (· (cbv; (try simp only [nc] at *); first | done | (simp; done) | (simp (disch := (first | omega | (simp only [lnS, zA, zM, zG, zP]; omega))) only [nc, nct, w64_of, zT, zZ, zM, rdS, at_agg, bofZ, bof1, bof0, zC, zS, implies_true, and_true, true_and, forall_const]; first | done | omega | (refine ⟨?_, ?_⟩ <;> omega)) | (simp (disch := (first | omega | (simp only [lnS, zA, zM, zG, zP]; omega))) [nc, nct, w64_of, zT, zZ, zM, rdS, at_agg, bofZ, bof1, bof0, zC, zS]; done))); cbv)
    | (refine E.c (SCalls.of_le (a3) ?_ ?_); (· (cbv; (try simp only [nc] at *); first | done | (simp; done) | (simp (disch := (first | omega | (simp only [lnS, zA, zM, zG, zP]; omega))) only [nc, nct, w64_of, zT, zZ, zM, rdS, at_agg, bofZ, bof1, bof0, zC, zS, implies_true, and_true, true_and, forall_const]; first | done | omega | (refine ⟨?_, ?_⟩ <;> omega)) | (simp (disch := (first | omega | (simp only [lnS, zA, zM, zG, zP]; omega))) [nc, nct, w64_of, zT, zZ, zM, rdS, at_agg, bofZ, bof1, bof0, zC, zS]; done))); cbv)
    | (refine E.c (SCalls.of_le (a2) ?_ ?_); (· (cbv; (try simp only [nc] at *); first | done | (simp; done) | (simp (disch := (first | omega | (simp only [lnS, zA, zM, zG, zP]; omega))) only [nc, nct, w64_of, zT, zZ, zM, rdS, at_agg, bofZ, bof1, bof0, zC, zS, implies_true, and_true, true_and, forall_const]; first | done | omega | (refine ⟨?_, ?_⟩ <;> omega)) | (simp (disch := (first | omega | (simp only [lnS, zA, zM, zG, zP]; omega))) [nc, nct, w64_of, zT, zZ, zM, rdS, at_agg, bofZ, bof1, bof0, zC, zS]; done))); cbv)
    | (refine E.c (SCalls.of_le (a1) ?_ ?_); (· (cbv; (try simp only [nc] at *); first | done | (simp; done) | (simp (disch := (first | omega | (simp only [lnS, zA, zM, zG, zP]; omega))) only [nc, nct, w64_of, zT, zZ, zM, rdS, at_agg, bofZ, bof1, bof0, zC, zS, implies_true, and_true, true_and, forall_const]; first | done | omega | (refine ⟨?_, ?_⟩ <;> omega)) | (simp (disch := (first | omega | (simp only [lnS, zA, zM, zG, zP]; omega))) [nc, nct, w64_of, zT, zZ, zM, rdS, at_agg, bofZ, bof1, bof0, zC, zS]; done))); cbv)
    | (refine E.c (SCalls.of_le (viewOf_ok g hg h) ?_ ?_); (· (cbv; (try simp only [nc] at *); first | done | (simp; done) | (simp (disch := (first | omega | (simp only [lnS, zA, zM, zG, zP]; omega))) only [nc, nct, w64_of, zT, zZ, zM, rdS, at_agg, bofZ, bof1, bof0, zC, zS, implies_true, and_true, true_and, forall_const]; first | done | omega | (refine ⟨?_, ?_⟩ <;> omega)) | (simp (disch := (first | omega | (simp only [lnS, zA, zM, zG, zP]; omega))) [nc, nct, w64_of, zT, zZ, zM, rdS, at_agg, bofZ, bof1, bof0, zC, zS]; done))); cbv)
    | (refine ⟨fun _ h_s => ?_, fun _ h_s => ?_⟩ <;> (cbv; (try simp only [nc] at *); try simp (disch := (first | omega | (simp only [lnS, zA, zM, zG, zP]; omega))) only [nc, nct, w64_of, zT, zZ, zM, rdS, at_agg, bofZ, bof1, bof0, zC, zS, reduceCtorEq, Bool.not_true, Bool.not_false, zD, zE, zB, zF, zN, zO, ne_eq, zQ, zL, zR, beq_iff_eq] at h_s))
    | (refine hF ?_; intro _; clear hF)
    | (refine hF ?_; cbv; clear hF)
    | (refine ⟨fun _ => ?_, ?_⟩; (· ((try simp only [nc] at *); first | done | omega | exact ⟨by omega, rfl⟩ | (simp (disch := (first | omega | (simp only [lnS, zA, zM, zG, zP]; omega))) only [nc, nct, w64_of, zT, zZ, zM, rdS, at_agg, bofZ, bof1, bof0, zC, zS]; first | done | omega | rfl | exact ⟨by omega, rfl⟩ | (simp; done) | (simp; omega)) | (intros; trivial))); try cbv)
    | fail
  )
  all_goals (try simp only [nc] at *)
  all_goals (try simp (disch := (first | omega | (simp only [lnS, zA, zM, zG, zP]; omega))) only [nc, nct, w64_of, zT, zZ, zM, rdS, at_agg, bofZ, bof1, bof0, zC, zS])
  simp [ecoF, porfF, hbF]
theorem dAll_no (g : Gr) (hg : Rd g) (h : ¬ GOk g) : Pure Tryd.prog γ false 30 [aGr g] (.tup [aDer 0 [] [] [] [] [] [] [] [] [], .i fun _ => 2]) := by
  refine Pure.go (ty := ty) ty_eq mo Tryd.func30 rfl Tryd.ntmps30 Tryd.results30 Tryd.call30 (by simp) fun P C CQ D W F E hF => ?_
  cbv
  repeat' (first
    | (refine E.c (SCalls.of_le (viewOf_no g hg h) ?_ ?_); (· (cbv; (try simp only [nc] at *); first | done | (simp; done) | (simp (disch := (first | omega | (simp only [lnS, zA, zM, zG, zP]; omega))) only [nc, nct, w64_of, zT, zZ, zM, rdS, at_agg, bofZ, bof1, bof0, zC, zS, implies_true, and_true, true_and, forall_const]; first | done | omega | (refine ⟨?_, ?_⟩ <;> omega)) | (simp (disch := (first | omega | (simp only [lnS, zA, zM, zG, zP]; omega))) [nc, nct, w64_of, zT, zZ, zM, rdS, at_agg, bofZ, bof1, bof0, zC, zS]; done))); cbv)
    | (refine ⟨fun _ h_s => ?_, fun _ h_s => ?_⟩ <;> (cbv; (try simp only [nc] at *); try simp (disch := (first | omega | (simp only [lnS, zA, zM, zG, zP]; omega))) only [nc, nct, w64_of, zT, zZ, zM, rdS, at_agg, bofZ, bof1, bof0, zC, zS, reduceCtorEq, Bool.not_true, Bool.not_false, zD, zE, zB, zF, zN, zO, ne_eq, zQ, zL, zR, beq_iff_eq] at h_s))
    | (refine hF ?_; intro _; clear hF)
    | (refine hF ?_; cbv; clear hF)
    | (refine ⟨fun _ => ?_, ?_⟩; (· ((try simp only [nc] at *); first | done | omega | exact ⟨by omega, rfl⟩ | (simp (disch := (first | omega | (simp only [lnS, zA, zM, zG, zP]; omega))) only [nc, nct, w64_of, zT, zZ, zM, rdS, at_agg, bofZ, bof1, bof0, zC, zS]; first | done | omega | rfl | exact ⟨by omega, rfl⟩ | (simp; done) | (simp; omega)) | (intros; trivial))); try cbv)
    | fail
  )
  all_goals (try simp only [nc] at *)
  all_goals (try simp (disch := (first | omega | (simp only [lnS, zA, zM, zG, zP]; omega))) only [nc, nct, w64_of, zT, zZ, zM, rdS, at_agg, bofZ, bof1, bof0, zC, zS])
  all_goals simp [us, LV.of, LV.l]
end Go.AL.Rl

namespace Go.AL.Rl
open Go Go.AL Go.Proofs
set_option maxRecDepth 100000
set_option maxHeartbeats 1600000
variable {γ : Nat → Option AV}

def runL (mx cap : Int) : List Nat → Int → Int
  | [], s => s
  | n :: r, s => if s ≤ cap then runL mx cap r (s + min (mx + 1) n) else s
def sumL (mx : Int) (l : List Nat) (s : Int) (k : Nat) : Int := (l.take k).foldl (fun (a : Int) (n : Nat) => a + min (mx + 1) (n : Int)) s
theorem sumL_zero (mx : Int) (l : List Nat) (s : Int) : sumL mx l s 0 = s := rfl
theorem sumL_succ (mx : Int) (l : List Nat) (s : Int) (k : Nat) (h : k < l.length) : sumL mx l s (k + 1) = sumL mx l s k + min (mx + 1) (l.getD k 0) := by
  simp only [sumL]
  rw [List.take_succ_eq_append_getElem h, List.foldl_append]
  simp [h]
theorem runL_step {mx cap : Int} {l : List Nat} {s : Int} {k : Nat} (h : k < l.length) (hs : sumL mx l s k ≤ cap) (hr : runL mx cap (l.drop k) (sumL mx l s k) = runL mx cap l s) :
    runL mx cap (l.drop (k + 1)) (sumL mx l s (k + 1)) = runL mx cap l s := by
  rw [← hr, List.drop_eq_getElem_cons h, runL, if_pos hs, sumL_succ _ _ _ _ h]
  simp [h]
theorem runL_end {mx cap : Int} {l : List Nat} {s : Int} {k : Nat} (h : l.length ≤ k ∨ ¬ sumL mx l s k ≤ cap) (hr : runL mx cap (l.drop k) (sumL mx l s k) = runL mx cap l s) : sumL mx l s k = runL mx cap l s := by
  rw [← hr]
  by_cases hk : l.length ≤ k
  · rw [List.drop_eq_nil_of_le hk, runL]
  · rw [List.drop_eq_getElem_cons (by omega), runL, if_neg (by rcases h with h | h; omega; exact h)]
theorem runL_bd {mx cap B : Int} (h0 : 0 ≤ mx) (hB : cap + mx + 1 ≤ B) : ∀ (l : List Nat) (s : Int), 0 ≤ s → s ≤ B → 0 ≤ runL mx cap l s ∧ runL mx cap l s ≤ B
  | [], s, h1, h2 => ⟨h1, h2⟩
  | n :: r, s, h1, h2 => by
    rw [runL]
    split
    · exact runL_bd h0 hB r _ (by omega) (by omega)
    · exact ⟨h1, h2⟩
theorem ths_le {g : Gr} (hg : Rd g) (x : Nat) : ((g.th.getD x []).length : Int) ≤ 9223372036854775807 := by
  rcases Nat.lt_or_ge x g.th.length with h1 | h1
  · exact hg.ths _ (getD_mem h1)
  · simp [List.getElem?_eq_none h1]
theorem frs_le {g : Gr} (hg : Rd g) (x : Nat) : ((g.fr.getD x []).length : Int) ≤ 9223372036854775807 := by
  rcases Nat.lt_or_ge x g.fr.length with h1 | h1
  · exact hg.frs _ (getD_mem h1)
  · simp [List.getElem?_eq_none h1]
def lensT (g : Gr) : List Nat := g.th.map (·.length)
def lensF (g : Gr) : List Nat := g.fr.map (·.length)
def lensO (g : Gr) : List Nat := g.ord.map (·.length)
def light0 (mx : Int) (g : Gr) : Int := min (mx + 1) g.init.length + min (mx + 1) g.th.length + min (mx + 1) g.fr.length + min (mx + 1) g.ord.length
def lightM (mx : Int) (g : Gr) : Bool := decide (runL mx (3 * mx) (lensO g) (runL mx (2 * mx) (lensF g) (runL mx mx (lensT g) (light0 mx g))) ≤ 3 * mx)
theorem lensT_get (g : Gr) (k : Nat) (h : k < g.th.length) : (lensT g).getD k 0 = (g.th.getD k []).length := by simp [lensT, h]
theorem lensF_get (g : Gr) (k : Nat) (h : k < g.fr.length) : (lensF g).getD k 0 = (g.fr.getD k []).length := by simp [lensF, h]
theorem lensO_get (g : Gr) (k : Nat) (h : k < g.ord.length) : (lensO g).getD k 0 = (g.ord.getD k []).length := by simp [lensO, h]
theorem light_ok (g : Gr) (hg : Rd g) (mx : Int) (h0 : 0 ≤ mx) (h1 : mx ≤ 1000) : Pure Tryd.prog γ false 24 [aGr g, .i fun _ => mx] (.b fun _ => lightM mx g) := by
  have b1 := hg.init
  have b2 := hg.th
  have b3 := hg.fr
  have b4 := hg.ord
  have hs0 : 0 ≤ light0 mx g ∧ light0 mx g ≤ 4 * mx + 4 := by unfold light0; omega
  obtain ⟨s0, hs⟩ : ∃ s, s = light0 mx g := ⟨_, rfl⟩
  rw [← hs] at hs0
  unfold lightM
  rw [← hs]
  have hlT : (lensT g).length = g.th.length := by simp [lensT]
  have hlF : (lensF g).length = g.fr.length := by simp [lensF]
  have hlO : (lensO g).length = g.ord.length := by simp [lensO]
  obtain ⟨r1, hr1⟩ : ∃ r, r = runL mx mx (lensT g) s0 := ⟨_, rfl⟩
  obtain ⟨r2, hr2⟩ : ∃ r, r = runL mx (2 * mx) (lensF g) r1 := ⟨_, rfl⟩
  obtain ⟨r3, hr3⟩ : ∃ r, r = runL mx (3 * mx) (lensO g) r2 := ⟨_, rfl⟩
  obtain ⟨S1, hS1⟩ : ∃ S : Nat → Int, ∀ k, S k = sumL mx (lensT g) s0 k := ⟨_, fun _ => rfl⟩
  obtain ⟨S2, hS2⟩ : ∃ S : Nat → Int, ∀ k, S k = sumL mx (lensF g) r1 k := ⟨_, fun _ => rfl⟩
  obtain ⟨S3, hS3⟩ : ∃ S : Nat → Int, ∀ k, S k = sumL mx (lensO g) r2 k := ⟨_, fun _ => rfl⟩
  have z1 : S1 0 = s0 := by rw [hS1, sumL_zero]
  have z2 : S2 0 = r1 := by rw [hS2, sumL_zero]
  have z3 : S3 0 = r2 := by rw [hS3, sumL_zero]
  have n1 : ∀ k, k < g.th.length → S1 (k + 1) = S1 k + min (mx + 1) (g.th.getD k []).length := fun k hk => by rw [hS1, hS1, sumL_succ _ _ _ _ (by omega), lensT_get _ _ hk]
  have n2 : ∀ k, k < g.fr.length → S2 (k + 1) = S2 k + min (mx + 1) (g.fr.getD k []).length := fun k hk => by rw [hS2, hS2, sumL_succ _ _ _ _ (by omega), lensF_get _ _ hk]
  have n3 : ∀ k, k < g.ord.length → S3 (k + 1) = S3 k + min (mx + 1) (g.ord.getD k []).length := fun k hk => by rw [hS3, hS3, sumL_succ _ _ _ _ (by omega), lensO_get _ _ hk]
  rw [← hr1, ← hr2, ← hr3]
  have q1 := runL_bd (mx := mx) (cap := mx) (B := 4 * mx + 4) h0 (by omega) (lensT g) s0 (by omega) (by omega)
  rw [← hr1] at q1
  have q2 := runL_bd (mx := mx) (cap := 2 * mx) (B := 4 * mx + 4) h0 (by omega) (lensF g) r1 (by omega) (by omega)
  rw [← hr2] at q2
  have q3 := runL_bd (mx := mx) (cap := 3 * mx) (B := 4 * mx + 4) h0 (by omega) (lensO g) r2 (by omega) (by omega)
  rw [← hr3] at q3
  refine Pure.goL (ty := ty) ty_eq mo Tryd.func24 rfl Tryd.ntmps24 Tryd.results24 Tryd.call24 (by simp) fun P C CQ D W F E hF => ?_
  refine E.cut 4 (told 111 [(1, .i fun _ => mx), (2, .ptr 0 0), (5, .i fun _ => r1)] [.box (aGr g)]) (by kernel_rfl) (Nat.zero_le _) (fun I hI => ?_) ?_
  · cbv
    repeat' (first
      | (refine ⟨fun _ h_s => ?_, fun _ h_s => ?_⟩ <;> (cbv; (try simp only [nc] at *); try simp (disch := (first | omega | (simp only [lnS, zA, zM, zG, zP]; omega))) only [nc, nct, w64_of, zT, zZ, zM, rdS, at_agg, bofZ, bof1, bof0, zC, zS, reduceCtorEq, Bool.not_true, Bool.not_false, zD, zE, zB, zF, zN, zO, ne_eq, zQ, zL, zR, beq_iff_eq] at h_s))
      | (refine hF ?_; intro _; clear hF)
      | (refine hF ?_; cbv; clear hF)
      | (refine ⟨fun _ => ?_, ?_⟩; (· ((try simp only [nc] at *); first | done | omega | exact ⟨by omega, rfl⟩ | (simp (disch := (first | omega | (simp only [lnS, zA, zM, zG, zP]; omega))) only [nc, nct, w64_of, zT, zZ, zM, rdS, at_agg, bofZ, bof1, bof0, zC, zS]; first | done | omega | rfl | exact ⟨by omega, rfl⟩ | (simp; done) | (simp; omega)) | (intros; trivial))); (try (simp only [nc] at *)); (try simp (disch := (first | omega | (simp only [lnS, zA, zM, zG, zP]; omega))) only [nc, nct, w64_of, zT, zZ, zM, rdS, at_agg, bofZ, bof1, bof0, zC, zS]); (try cbv))
      | fail
    )
    refine E.loopS (ι := Nat) (fun k => k ≤ g.th.length ∧ (runL mx mx ((lensT g).drop k) (S1 k) = r1 ∧ 0 ≤ S1 k ∧ S1 k ≤ 4 * mx + 4)) (fun k => g.th.length - k) (fun k => [(6, .i fun _ => ((k : Nat) : Int)), (5, .i fun _ => S1 k)]) (fun k h => h) 0 (fun _ => by first | rfl | simp) ⟨Nat.zero_le _, ?_⟩ ?_ fun k hk I2 hI2 => ?_
    · rw [z1, List.drop_zero]; exact ⟨hr1.symm, by omega⟩
    · cbv
      rw [z1, hs]
      simp (disch := omega) [light0, w64_of]
      repeat' split
      all_goals omega
    cbv
    have hgt := ths_le hg k
    have nk := n1 k
    have ek := fun h1 h2 => runL_step (mx := mx) (cap := mx) (l := lensT g) (s := s0) (k := k) h1 h2
    have fk := fun h1 => runL_end (mx := mx) (cap := mx) (l := lensT g) (s := s0) (k := k) h1
    rw [← hS1, ← hS1, ← hr1] at ek
    rw [← hS1, ← hr1] at fk
    repeat' (first
      | (refine hI2 (k + 1) ?_ ?_ ?_; rotate_left 1; (· ((try simp only [nc] at *); omega)); (cbv; clear hI2; (try clear hF); (try simp only [nc] at *); (try simp (disch := (first | omega | (simp only [lnS, zA, zM, zG, zP]; omega))) only [nc, nct, w64_of, zT, zZ, zM, rdS, at_agg, bofZ, bof1, bof0, zC, zS, implies_true, and_true, true_and, forall_const])); rotate_left 1; (try ((try simp only [nc] at *); omega)))
      | (refine ⟨fun _ h_s => ?_, fun _ h_s => ?_⟩ <;> (cbv; (try simp only [nc] at *); try simp (disch := (first | omega | (simp only [lnS, zA, zM, zG, zP]; omega))) only [nc, nct, w64_of, zT, zZ, zM, rdS, at_agg, bofZ, bof1, bof0, zC, zS, reduceCtorEq, Bool.not_true, Bool.not_false, zD, zE, zB, zF, zN, zO, ne_eq, zQ, zL, zR, beq_iff_eq] at h_s))
      | (refine hF ?_; intro _; clear hF)
      | (refine hF ?_; cbv; clear hF)
      | (refine ⟨fun _ => ?_, ?_⟩; (· ((try simp only [nc] at *); first | done | omega | exact ⟨by omega, rfl⟩ | (simp (disch := (first | omega | (simp only [lnS, zA, zM, zG, zP]; omega))) only [nc, nct, w64_of, zT, zZ, zM, rdS, at_agg, bofZ, bof1, bof0, zC, zS]; first | done | omega | rfl | exact ⟨by omega, rfl⟩ | (simp; done) | (simp; omega)) | (intros; trivial))); (try (simp only [nc] at *)); (try simp (disch := (first | omega | (simp only [lnS, zA, zM, zG, zP]; omega))) only [nc, nct, w64_of, zT, zZ, zM, rdS, at_agg, bofZ, bof1, bof0, zC, zS]); (try cbv))
      | fail
    )
    · refine ⟨?_, ?_⟩ <;> first | omega | (rw [nk (by ((try simp only [nc] at *); omega))]; split <;> omega)
    all_goals
      have hfk := fk (by ((try simp only [nc] at *); omega)) hk.2.1
      refine hI ?_
      cbv
      clear hI hI2 ek fk nk
      simp [hfk]
  refine E.cut 2 (told 111 [(1, .i fun _ => mx), (2, .ptr 0 0), (5, .i fun _ => r2)] [.box (aGr g)]) (by kernel_rfl) (Nat.zero_le _) (fun I hI => ?_) ?_
  · cbv
    repeat' (first
      | (refine ⟨fun _ h_s => ?_, fun _ h_s => ?_⟩ <;> (cbv; (try simp only [nc] at *); try simp (disch := (first | omega | (simp only [lnS, zA, zM, zG, zP]; omega))) only [nc, nct, w64_of, zT, zZ, zM, rdS, at_agg, bofZ, bof1, bof0, zC, zS, reduceCtorEq, Bool.not_true, Bool.not_false, zD, zE, zB, zF, zN, zO, ne_eq, zQ, zL, zR, beq_iff_eq] at h_s))
      | (refine hF ?_; intro _; clear hF)
      | (refine hF ?_; cbv; clear hF)
      | (refine ⟨fun _ => ?_, ?_⟩; (· ((try simp only [nc] at *); first | done | omega | exact ⟨by omega, rfl⟩ | (simp (disch := (first | omega | (simp only [lnS, zA, zM, zG, zP]; omega))) only [nc, nct, w64_of, zT, zZ, zM, rdS, at_agg, bofZ, bof1, bof0, zC, zS]; first | done | omega | rfl | exact ⟨by omega, rfl⟩ | (simp; done) | (simp; omega)) | (intros; trivial))); (try (simp only [nc] at *)); (try simp (disch := (first | omega | (simp only [lnS, zA, zM, zG, zP]; omega))) only [nc, nct, w64_of, zT, zZ, zM, rdS, at_agg, bofZ, bof1, bof0, zC, zS]); (try cbv))
      | fail
    )
    refine E.loopS (ι := Nat) (fun k => k ≤ g.fr.length ∧ (runL mx (2 * mx) ((lensF g).drop k) (S2 k) = r2 ∧ 0 ≤ S2 k ∧ S2 k ≤ 4 * mx + 4)) (fun k => g.fr.length - k) (fun k => [(7, .i fun _ => ((k : Nat) : Int)), (5, .i fun _ => S2 k)]) (fun k h => h) 0 (fun _ => by first | rfl | simp) ⟨Nat.zero_le _, ?_⟩ ?_ fun k hk I2 hI2 => ?_
    · rw [z2, List.drop_zero]; exact ⟨hr2.symm, by omega⟩
    · cbv
      rw [z2]
      simp
    cbv
    have hgt := frs_le hg k
    have nk := n2 k
    have ek := fun h1 h2 => runL_step (mx := mx) (cap := (2 * mx)) (l := lensF g) (s := r1) (k := k) h1 h2
    have fk := fun h1 => runL_end (mx := mx) (cap := (2 * mx)) (l := lensF g) (s := r1) (k := k) h1
    rw [← hS2, ← hS2, ← hr2] at ek
    rw [← hS2, ← hr2] at fk
    repeat' (first
      | (refine hI2 (k + 1) ?_ ?_ ?_; rotate_left 1; (· ((try simp only [nc] at *); omega)); (cbv; clear hI2; (try clear hF); (try simp only [nc] at *); (try simp (disch := (first | omega | (simp only [lnS, zA, zM, zG, zP]; omega))) only [nc, nct, w64_of, zT, zZ, zM, rdS, at_agg, bofZ, bof1, bof0, zC, zS, implies_true, and_true, true_and, forall_const])); rotate_left 1; (try ((try simp only [nc] at *); omega)))
      | (refine ⟨fun _ h_s => ?_, fun _ h_s => ?_⟩ <;> (cbv; (try simp only [nc] at *); try simp (disch := (first | omega | (simp only [lnS, zA, zM, zG, zP]; omega))) only [nc, nct, w64_of, zT, zZ, zM, rdS, at_agg, bofZ, bof1, bof0, zC, zS, reduceCtorEq, Bool.not_true, Bool.not_false, zD, zE, zB, zF, zN, zO, ne_eq, zQ, zL, zR, beq_iff_eq] at h_s))
      | (refine hF ?_; intro _; clear hF)
      | (refine hF ?_; cbv; clear hF)
      | (refine ⟨fun _ => ?_, ?_⟩; (· ((try simp only [nc] at *); first | done | omega | exact ⟨by omega, rfl⟩ | (simp (disch := (first | omega | (simp only [lnS, zA, zM, zG, zP]; omega))) only [nc, nct, w64_of, zT, zZ, zM, rdS, at_agg, bofZ, bof1, bof0, zC, zS]; first | done | omega | rfl | exact ⟨by omega, rfl⟩ | (simp; done) | (simp; omega)) | (intros; trivial))); (try (simp only [nc] at *)); (try simp (disch := (first | omega | (simp only [lnS, zA, zM, zG, zP]; omega))) only [nc, nct, w64_of, zT, zZ, zM, rdS, at_agg, bofZ, bof1, bof0, zC, zS]); (try cbv))
      | fail
    )
    · refine ⟨?_, ?_⟩ <;> first | omega | (rw [nk (by ((try simp only [nc] at *); omega))]; split <;> omega)
    all_goals
      have hfk := fk (by ((try simp only [nc] at *); omega)) hk.2.1
      refine hI ?_
      cbv
      clear hI hI2 ek fk nk
      simp [hfk]
  refine E.cut 2 (told 111 [(1, .i fun _ => mx), (2, .ptr 0 0), (5, .i fun _ => r3)] [.box (aGr g)]) (by kernel_rfl) (Nat.zero_le _) (fun I hI => ?_) (E.bl ?_)
  · cbv
    repeat' (first
      | (refine ⟨fun _ h_s => ?_, fun _ h_s => ?_⟩ <;> (cbv; (try simp only [nc] at *); try simp (disch := (first | omega | (simp only [lnS, zA, zM, zG, zP]; omega))) only [nc, nct, w64_of, zT, zZ, zM, rdS, at_agg, bofZ, bof1, bof0, zC, zS, reduceCtorEq, Bool.not_true, Bool.not_false, zD, zE, zB, zF, zN, zO, ne_eq, zQ, zL, zR, beq_iff_eq] at h_s))
      | (refine hF ?_; intro _; clear hF)
      | (refine hF ?_; cbv; clear hF)
      | (refine ⟨fun _ => ?_, ?_⟩; (· ((try simp only [nc] at *); first | done | omega | exact ⟨by omega, rfl⟩ | (simp (disch := (first | omega | (simp only [lnS, zA, zM, zG, zP]; omega))) only [nc, nct, w64_of, zT, zZ, zM, rdS, at_agg, bofZ, bof1, bof0, zC, zS]; first | done | omega | rfl | exact ⟨by omega, rfl⟩ | (simp; done) | (simp; omega)) | (intros; trivial))); (try (simp only [nc] at *)); (try simp (disch := (first | omega | (simp only [lnS, zA, zM, zG, zP]; omega))) only [nc, nct, w64_of, zT, zZ, zM, rdS, at_agg, bofZ, bof1, bof0, zC, zS]); (try cbv))
      | fail
    )
    refine E.loopS (ι := Nat) (fun k => k ≤ g.ord.length ∧ (runL mx (3 * mx) ((lensO g).drop k) (S3 k) = r3 ∧ 0 ≤ S3 k ∧ S3 k ≤ 4 * mx + 4)) (fun k => g.ord.length - k) (fun k => [(8, .i fun _ => ((k : Nat) : Int)), (5, .i fun _ => S3 k)]) (fun k h => h) 0 (fun _ => by first | rfl | simp) ⟨Nat.zero_le _, ?_⟩ ?_ fun k hk I2 hI2 => ?_
    · rw [z3, List.drop_zero]; exact ⟨hr3.symm, by omega⟩
    · cbv
      rw [z3]
      simp
    cbv
    have hgt := ordsAt hg k
    have nk := n3 k
    have ek := fun h1 h2 => runL_step (mx := mx) (cap := (3 * mx)) (l := lensO g) (s := r2) (k := k) h1 h2
    have fk := fun h1 => runL_end (mx := mx) (cap := (3 * mx)) (l := lensO g) (s := r2) (k := k) h1
    rw [← hS3, ← hS3, ← hr3] at ek
    rw [← hS3, ← hr3] at fk
    repeat' (first
      | (refine hI2 (k + 1) ?_ ?_ ?_; rotate_left 1; (· ((try simp only [nc] at *); omega)); (cbv; clear hI2; (try clear hF); (try simp only [nc] at *); (try simp (disch := (first | omega | (simp only [lnS, zA, zM, zG, zP]; omega))) only [nc, nct, w64_of, zT, zZ, zM, rdS, at_agg, bofZ, bof1, bof0, zC, zS, implies_true, and_true, true_and, forall_const])); rotate_left 1; (try ((try simp only [nc] at *); omega)))
      | (refine ⟨fun _ h_s => ?_, fun _ h_s => ?_⟩ <;> (cbv; (try simp only [nc] at *); try simp (disch := (first | omega | (simp only [lnS, zA, zM, zG, zP]; omega))) only [nc, nct, w64_of, zT, zZ, zM, rdS, at_agg, bofZ, bof1, bof0, zC, zS, reduceCtorEq, Bool.not_true, Bool.not_false, zD, zE, zB, zF, zN, zO, ne_eq, zQ, zL, zR, beq_iff_eq] at h_s))
      | (refine hF ?_; intro _; clear hF)
      | (refine hF ?_; cbv; clear hF)
      | (refine ⟨fun _ => ?_, ?_⟩; (· ((try simp only [nc] at *); first | done | omega | exact ⟨by omega, rfl⟩ | (simp (disch := (first | omega | (simp only [lnS, zA, zM, zG, zP]; omega))) only [nc, nct, w64_of, zT, zZ, zM, rdS, at_agg, bofZ, bof1, bof0, zC, zS]; first | done | omega | rfl | exact ⟨by omega, rfl⟩ | (simp; done) | (simp; omega)) | (intros; trivial))); (try (simp only [nc] at *)); (try simp (disch := (first | omega | (simp only [lnS, zA, zM, zG, zP]; omega))) only [nc, nct, w64_of, zT, zZ, zM, rdS, at_agg, bofZ, bof1, bof0, zC, zS]); (try cbv))
      | fail
    )
    · refine ⟨?_, ?_⟩ <;> first | omega | (rw [nk (by ((try simp only [nc] at *); omega))]; split <;> omega)
    all_goals
      have hfk := fk (by ((try simp only [nc] at *); omega)) hk.2.1
      refine hI ?_
      cbv
      clear hI hI2 ek fk nk
      simp [hfk]
  · cbv
    repeat' (first
      | (refine ⟨fun _ h_s => ?_, fun _ h_s => ?_⟩ <;> (cbv; (try simp only [nc] at *); try simp (disch := (first | omega | (simp only [lnS, zA, zM, zG, zP]; omega))) only [nc, nct, w64_of, zT, zZ, zM, rdS, at_agg, bofZ, bof1, bof0, zC, zS, reduceCtorEq, Bool.not_true, Bool.not_false, zD, zE, zB, zF, zN, zO, ne_eq, zQ, zL, zR, beq_iff_eq] at h_s))
      | (refine hF ?_; intro _; clear hF)
      | (refine hF ?_; cbv; clear hF)
      | (refine ⟨fun _ => ?_, ?_⟩; (· ((try simp only [nc] at *); first | done | omega | exact ⟨by omega, rfl⟩ | (simp (disch := (first | omega | (simp only [lnS, zA, zM, zG, zP]; omega))) only [nc, nct, w64_of, zT, zZ, zM, rdS, at_agg, bofZ, bof1, bof0, zC, zS]; first | done | omega | rfl | exact ⟨by omega, rfl⟩ | (simp; done) | (simp; omega)) | (intros; trivial))); (try (simp only [nc] at *)); (try simp (disch := (first | omega | (simp only [lnS, zA, zM, zG, zP]; omega))) only [nc, nct, w64_of, zT, zZ, zM, rdS, at_agg, bofZ, bof1, bof0, zC, zS]); (try cbv))
      | fail
    )
    rw [w64_of (by omega) (by omega)]
end Go.AL.Rl

namespace Go.AL.Rl
open Go Go.AL Go.Proofs
set_option maxRecDepth 100000
set_option maxHeartbeats 1600000
variable {γ : Nat → Option AV}

end Go.AL.Rl

namespace Go.AL.Rl
open Go Go.AL Go.Proofs
set_option maxRecDepth 100000

theorem bit_relI {n : Nat} (hn : n ≤ 62) (p : Nat → Nat → Bool) (i j : Nat) : bit (relRows n p) i j = true ↔ i < n ∧ j < n ∧ p i j = true := by
  rw [bit_rel (by omega)]; simp
end Go.AL.Rl

namespace Go.AL.Rl
open Go Go.AL Go.Proofs
set_option maxRecDepth 100000

section
variable {g : Gr} (hg : GOk g)
include hg
end
end Go.AL.Rl

namespace Go.AL.Rl
open Go Go.AL Go.Proofs
set_option maxRecDepth 100000
set_option maxHeartbeats 1600000

theorem low_bit (m : BitVec 64) (c : Nat) (h1 : m.getLsbD c = true) (h2 : ∀ j < c, m.getLsbD j = false) (j : Nat) : (m &&& (m - 1#64)).getLsbD j = (m.getLsbD j && decide (j ≠ c)) := by
  rw [BitVec.getLsbD_and]
  have hN : m.toNat < 2 ^ 64 := m.isLt
  have hmod : m.toNat % 2 ^ c = 0 := by
    apply Nat.eq_of_testBit_eq
    intro i
    rw [Nat.testBit_mod_two_pow, Nat.zero_testBit]
    by_cases hi : i < c
    · have := h2 i hi
      unfold BitVec.getLsbD at this
      simp [this]
    · simp [hi]
  obtain ⟨a, ha⟩ : ∃ a, m.toNat = 2 ^ c * a := ⟨m.toNat / 2 ^ c, by have := Nat.div_add_mod m.toNat (2 ^ c); omega⟩
  have hp : 0 < 2 ^ c := Nat.pos_of_ne_zero (by simp)
  have ha1 : a.testBit 0 = true := by
    have : m.toNat.testBit c = true := h1
    rw [ha, Nat.testBit_two_pow_mul] at this
    simpa using this
  have hodd : a % 2 = 1 := by simpa using ha1
  have hpos : 1 ≤ a := by omega
  have hm1 : (m - 1#64).toNat = 2 ^ c * (a - 1) + (2 ^ c - 1) := by
    have e1 : 1 ≤ m.toNat := by rw [ha]; exact Nat.le_trans hp (Nat.le_mul_of_pos_right _ hpos)
    have e2 : (m - 1#64).toNat = m.toNat - 1 := by
      rw [BitVec.toNat_sub]
      simp only [BitVec.toNat_ofNat]
      omega
    rw [e2, ha]
    have e3 : 2 ^ c * a = 2 ^ c * (a - 1) + 2 ^ c := by
      conv => lhs; rw [show a = (a - 1) + 1 by omega]
      rw [Nat.mul_add, Nat.mul_one]
    omega
  have hb : (m - 1#64).getLsbD j = if j < c then true else (a - 1).testBit (j - c) := by
    unfold BitVec.getLsbD
    rw [hm1, Nat.testBit_two_pow_mul_add _ (by omega)]
    by_cases hj : j < c
    · rw [if_pos hj, if_pos hj, Nat.testBit_two_pow_sub_one]; simp [hj]
    · rw [if_neg hj, if_neg hj]
  have hmb : m.getLsbD j = if j < c then false else a.testBit (j - c) := by
    unfold BitVec.getLsbD
    rw [ha, Nat.testBit_two_pow_mul]
    by_cases hj : j < c
    · simp [hj]; omega
    · simp [hj]; omega
  rw [hb, hmb]
  by_cases hj : j < c
  · simp [hj]
  · rw [if_neg hj, if_neg hj]
    by_cases e : j = c
    · subst e; simp; omega
    · have hd : a / 2 = (a - 1) / 2 := by omega
      have e3 : (a - 1).testBit (j - c) = a.testBit (j - c) := by
        obtain ⟨q, hq⟩ : ∃ q, j - c = q + 1 := ⟨j - c - 1, by omega⟩
        rw [hq, Nat.testBit_succ, Nat.testBit_succ, hd]
      rw [e3]
      simp [e]
/-- what is ahead of a mask, with it -/
def growM (n : Nat) (rows : List (BitVec 64)) (m : BitVec 64) : BitVec 64 := m ||| imageM n (plusM n rows) m
theorem grow_bit {n : Nat} {rows : List (BitVec 64)} (hf : Fits n rows) (m : BitVec 64) (j : Nat) : (growM n rows m).getLsbD j = true ↔ m.getLsbD j = true ∨ ∃ p, m.getLsbD p = true ∧ bit (plusM n rows) p j = true := by
  unfold growM
  rw [BitVec.getLsbD_or, Bool.or_eq_true, bit_image (fits_plus hf)]
theorem grow_closed {n : Nat} {rows : List (BitVec 64)} (hf : Fits n rows) (m : BitVec 64) {p j : Nat} (h1 : (growM n rows m).getLsbD p = true) (h2 : bit rows p j = true) : (growM n rows m).getLsbD j = true := by
  rw [grow_bit hf] at h1 ⊢
  rcases h1 with h1 | ⟨q, h3, h4⟩
  · exact .inr ⟨p, h1, plus_edge h2⟩
  · exact .inr ⟨q, h3, plus_trans hf h4 (plus_edge h2)⟩
theorem grow_least {n : Nat} {rows : List (BitVec 64)} (hf : Fits n rows) {m s : BitVec 64} (h1 : ∀ j, m.getLsbD j = true → s.getLsbD j = true) (h2 : ∀ p j, s.getLsbD p = true → bit rows p j = true → s.getLsbD j = true) {j : Nat} (h : (growM n rows m).getLsbD j = true) : s.getLsbD j = true := by
  rw [grow_bit hf] at h
  rcases h with h | ⟨p, h3, h4⟩
  · exact h1 j h
  · exact plus_least (fun a b => s.getLsbD a = true → s.getLsbD b = true) (fun a b hab ha => h2 a b ha hab) (fun a b c hab hbc ha => hbc (hab ha)) h4 (h1 p h3)
theorem grow_unique {n : Nat} {rows : List (BitVec 64)} (hf : Fits n rows) {m s : BitVec 64} (h0 : ∀ j, m.getLsbD j = true → s.getLsbD j = true) (h1 : ∀ j, s.getLsbD j = true → (growM n rows m).getLsbD j = true) (h2 : s ||| imageM n rows s = s) : s = growM n rows m := by
  apply BitVec.eq_of_getLsbD_eq
  intro j _
  rw [Bool.eq_iff_iff]
  refine ⟨h1 j, grow_least hf h0 fun p j hp hb => ?_⟩
  rw [← h2, BitVec.getLsbD_or, Bool.or_eq_true]
  exact .inr ((bit_image hf _ _).2 ⟨p, hp, hb⟩)
theorem grow_step {n : Nat} {rows : List (BitVec 64)} (hf : Fits n rows) {m s : BitVec 64} (h1 : ∀ j, s.getLsbD j = true → (growM n rows m).getLsbD j = true) : ∀ j, (s ||| imageM n rows s).getLsbD j = true → (growM n rows m).getLsbD j = true := fun j hj => by
  rw [BitVec.getLsbD_or, Bool.or_eq_true] at hj
  rcases hj with hj | hj
  · exact h1 j hj
  · obtain ⟨p, hp, hb⟩ := (bit_image hf _ _).1 hj
    exact grow_closed hf m (h1 p hp) hb
/-- what a mask tells, in order -/
def tellM (L : List EId) (m : BitVec 64) : List EId := ((List.range 64).filter fun k => m.getLsbD k).map fun k => L.getD k id0
theorem filter_low (p q : Nat → Bool) (c N : Nat) (hc : c < N) (h1 : p c = true) (h2 : ∀ j < c, p j = false) (h3 : ∀ j, q j = (p j && decide (j ≠ c))) : (List.range N).filter p = c :: (List.range N).filter q := by
  obtain ⟨d, rfl⟩ : ∃ d, N = c + 1 + d := ⟨N - (c + 1), by omega⟩
  have e1 : List.range (c + 1 + d) = List.range c ++ c :: (List.range d).map (fun x => c + 1 + x) := by
    rw [List.range_add, List.range_succ, List.append_assoc]; rfl
  rw [e1, List.filter_append, List.filter_append]
  have hz : ∀ r : Nat → Bool, (∀ j < c, r j = false) → (List.range c).filter r = [] := fun r hr => by
    rw [List.filter_eq_nil_iff]
    intro j hj
    rw [hr j (by simpa using hj)]; simp
  rw [hz p h2, hz q fun j hj => by rw [h3, h2 j hj]; rfl, List.nil_append, List.nil_append, List.filter_cons_of_pos h1, List.filter_cons_of_neg (by rw [h3]; simp)]
  congr 1
  apply List.filter_congr
  intro j hj
  obtain ⟨x, _, rfl⟩ := List.mem_map.1 hj
  rw [h3]
  simp
  omega
theorem tell_step (L : List EId) (m : BitVec 64) (c : Nat) (hc : c < 64) (h1 : m.getLsbD c = true) (h2 : ∀ j < c, m.getLsbD j = false) : tellM L m = L.getD c id0 :: tellM L (m &&& (m - 1#64)) := by
  unfold tellM
  rw [filter_low (fun k => m.getLsbD k) (fun k => (m &&& (m - 1#64)).getLsbD k) c 64 hc h1 h2 fun j => low_bit m c h1 h2 j]
  rfl
theorem tell_zero (L : List EId) : tellM L 0#64 = [] := by unfold tellM; simp
theorem tell_len (L : List EId) (m : BitVec 64) : (tellM L m).length ≤ 64 := by
  unfold tellM
  rw [List.length_map]
  exact Nat.le_trans (List.length_filter_le _ _) (by simp)
end Go.AL.Rl

namespace Go.AL.Rl
open Go Go.AL Go.Proofs
set_option maxRecDepth 100000
set_option maxHeartbeats 1600000
variable {γ : Nat → Option AV}

def backF (V : Vw) (n : Nat) : List (BitVec 64) := turnM (orM n [((n : Int), poF V n), ((n : Int), rfF V n)])
theorem backF_fits (V : Vw) {n : Nat} (hn : n ≤ 62) : Fits n (backF V n) := fits_turn (fits_or2 (fits_poF V hn) (fits_rfF V hn))
abbrev aPv (g : Gr) (L : List EId) (n : Int) (rows : List (BitVec 64)) : AV := .agg [.vs 1 fun _ => is g.init, .vs 1 fun _ => evss g.th, .vs 1 fun _ => idss g.fr, .vs 1 fun _ => idss g.ord, .vs 2 fun _ => ids L, .i fun _ => n, .vs 1 fun _ => us rows]
def numI (l : List EId) (d : EId) : Int := match l.findIdx? (fun x => decide (x = d)) with | some k => (k : Nat) | none => -1
theorem numI_at {l : List EId} {d : EId} {k : Nat} (hk : k < l.length) (h : l.getD k id0 = d) (hb : ∀ j < k, l.getD j id0 ≠ d) : numI l d = k := by
  have e : l.findIdx? (fun x => decide (x = d)) = some k := by
    rw [List.findIdx?_eq_some_iff_getElem]
    refine ⟨hk, by simpa [hk] using h, fun j hj => ?_⟩
    have := hb j hj
    have hj' : j < l.length := by omega
    simpa [hj'] using this
  unfold numI; rw [e]
theorem numI_no {l : List EId} {d : EId} (hb : ∀ j < l.length, l.getD j id0 ≠ d) : numI l d = -1 := by
  have e : l.findIdx? (fun x => decide (x = d)) = none := by
    rw [List.findIdx?_eq_none_iff]
    intro x hx
    obtain ⟨j, hj, rfl⟩ := List.getElem_of_mem hx
    have := hb j hj
    simpa [hj] using this
  unfold numI; rw [e]
theorem numI_lt (l : List EId) (d : EId) : -1 ≤ numI l d ∧ numI l d < l.length := by
  unfold numI
  cases h : l.findIdx? (fun x => decide (x = d)) with
  | none => simp; omega
  | some k =>
    have := (List.findIdx?_eq_some_iff_getElem.1 h).1
    simp only; omega
theorem index_ok (l : List EId) (d : EId) (hl : (l.length : Int) ≤ 9223372036854775807) : Pure Tryd.prog γ false 33 [.vs 2 fun _ => ids l, aId d] (.i fun _ => numI l d) := by
  refine Pure.go (ty := ty) ty_eq mo Tryd.func33 rfl Tryd.ntmps33 Tryd.results33 Tryd.call33 (by simp) fun P C CQ D W F E hF => ?_
  cbv
  repeat' (first
    | (refine ⟨fun _ h_s => ?_, fun _ h_s => ?_⟩ <;> (cbv; (try simp only [nc] at *); try simp (disch := (first | omega | (simp only [lnS, zA, zM, zG, zP]; omega))) only [nc, nct, w64_of, zT, zZ, zM, rdS, at_agg, bofZ, bof1, bof0, zC, zS, reduceCtorEq, Bool.not_true, Bool.not_false, zD, zE, zB, zF, zN, zO, ne_eq, zQ, zL, zR, beq_iff_eq] at h_s))
    | (refine hF ?_; intro _; clear hF)
    | (refine hF ?_; cbv; clear hF)
    | (refine ⟨fun _ => ?_, ?_⟩; (· ((try simp only [nc] at *); first | done | omega | exact ⟨by omega, rfl⟩ | (simp (disch := (first | omega | (simp only [lnS, zA, zM, zG, zP]; omega))) only [nc, nct, w64_of, zT, zZ, zM, rdS, at_agg, bofZ, bof1, bof0, zC, zS]; first | done | omega | rfl | exact ⟨by omega, rfl⟩ | (simp; done) | (simp; omega)) | (intros; trivial))); (try (simp only [nc] at *)); (try simp (disch := (first | omega | (simp only [lnS, zA, zM, zG, zP]; omega))) only [nc, nct, w64_of, zT, zZ, zM, rdS, at_agg, bofZ, bof1, bof0, zC, zS]); (try cbv))
    | (refine E.d 5 (by decide +kernel) ?_; cbv; (fail_if_success guard_target =~ False))
    | fail
  )
  refine E.loopS (ι := Nat) (fun i => i ≤ l.length ∧ (∀ k < i, l.getD k id0 ≠ d)) (fun i => l.length - i) (fun i => [(8, .i fun _ => ((i : Nat) : Int))]) (fun i h => h) 0 (fun _ => by first | rfl | simp) ⟨Nat.zero_le _, ?_⟩ ?_ fun i hi I hI => ?_
  · intro k hk; omega
  · cbv; simp
  cbv
  obtain ⟨hi, hp⟩ := hi
  repeat' (first
    | (refine hI (i + 1) ?_ ?_ ?_; rotate_left 1; (· ((try simp only [nc] at *); omega)); (cbv; clear hI; (try clear hF); (try simp only [nc] at *); (try simp (disch := (first | omega | (simp only [lnS, zA, zM, zG, zP]; omega))) only [nc, nct, w64_of, zT, zZ, zM, rdS, at_agg, bofZ, bof1, bof0, zC, zS, implies_true, and_true, true_and, forall_const])); rotate_left 1; (try ((try simp only [nc] at *); omega)))
    | (refine ⟨fun _ h_s => ?_, fun _ h_s => ?_⟩ <;> (cbv; (try simp only [nc] at *); try simp (disch := (first | omega | (simp only [lnS, zA, zM, zG, zP]; omega))) only [nc, nct, w64_of, zT, zZ, zM, rdS, at_agg, bofZ, bof1, bof0, zC, zS, reduceCtorEq, Bool.not_true, Bool.not_false, zD, zE, zB, zF, zN, zO, ne_eq, zQ, zL, zR, beq_iff_eq] at h_s))
    | (refine hF ?_; intro _; clear hF)
    | (refine hF ?_; cbv; clear hF)
    | (refine ⟨fun _ => ?_, ?_⟩; (· ((try simp only [nc] at *); first | done | omega | exact ⟨by omega, rfl⟩ | (simp (disch := (first | omega | (simp only [lnS, zA, zM, zG, zP]; omega))) only [nc, nct, w64_of, zT, zZ, zM, rdS, at_agg, bofZ, bof1, bof0, zC, zS]; first | done | omega | rfl | exact ⟨by omega, rfl⟩ | (simp; done) | (simp; omega)) | (intros; trivial))); (try (simp only [nc] at *)); (try simp (disch := (first | omega | (simp only [lnS, zA, zM, zG, zP]; omega))) only [nc, nct, w64_of, zT, zZ, zM, rdS, at_agg, bofZ, bof1, bof0, zC, zS]); (try cbv))
    | (refine E.d 5 (by decide +kernel) ?_; cbv; (fail_if_success guard_target =~ False))
    | fail
  )
  · simp only [Bool.and_true, Bool.and_eq_true, decide_eq_true_eq] at h_s
    have he : l.getD i id0 = d := (EId.ext' h_s.1 h_s.2).symm
    exact (numI_at (by ((try simp only [nc] at *); omega)) he hp).symm
  · refine ⟨by ((try simp only [nc] at *); omega), fun k hk => ?_⟩
    rcases Nat.lt_or_ge k i with h1 | h1
    · exact hp k h1
    · obtain rfl : k = i := by omega
      intro e
      rw [← e] at h_s
      simp at h_s
  · push_cast; rfl
  · have e : i = l.length := by ((try simp only [nc] at *); omega)
    subst e
    exact (numI_no hp).symm
def bitP (L : List EId) (x : Nat) (d : EId) : BitVec 64 := if numI L d < x then 0#64 else 1#64 <<< (numI L d).toNat
theorem pbit_ok (g : Gr) (L : List EId) (n : Int) (rows : List (BitVec 64)) (d : EId) (hL : L.length ≤ 62) : Pure Tryd.prog γ false 17 [aPv g L n rows, aId d] (.u fun _ => bitP L g.init.length d) := by
  have kx := index_ok (γ := γ) L d (by omega)
  have hb := numI_lt L d
  unfold bitP
  generalize numI L d = k at *
  refine Pure.go (ty := ty) ty_eq mo Tryd.func17 rfl Tryd.ntmps17 Tryd.results17 Tryd.call17 (by simp) fun P C CQ D W F E hF => ?_
  cbv
  repeat' (first
    | (refine E.c (SCalls.of_le (kx) ?_ ?_); (· (cbv; (try simp only [nc] at *); first | done | (simp; done) | (simp (disch := (first | omega | (simp only [lnS, zA, zM, zG, zP]; omega))) only [nc, nct, w64_of, zT, zZ, zM, rdS, at_agg, bofZ, bof1, bof0, zC, zS, implies_true, and_true, true_and, forall_const]; first | done | omega | (refine ⟨?_, ?_⟩ <;> omega)) | (simp (disch := (first | omega | (simp only [lnS, zA, zM, zG, zP]; omega))) [nc, nct, w64_of, zT, zZ, zM, rdS, at_agg, bofZ, bof1, bof0, zC, zS]; done))); cbv)
    | (refine ⟨fun _ h_s => ?_, fun _ h_s => ?_⟩ <;> (cbv; (try simp only [nc] at *); try simp (disch := (first | omega | (simp only [lnS, zA, zM, zG, zP]; omega))) only [nc, nct, w64_of, zT, zZ, zM, rdS, at_agg, bofZ, bof1, bof0, zC, zS, reduceCtorEq, Bool.not_true, Bool.not_false, zD, zE, zB, zF, zN, zO, ne_eq, zQ, zL, zR, beq_iff_eq] at h_s))
    | (refine hF ?_; intro _; clear hF)
    | (refine hF ?_; cbv; clear hF)
    | (refine ⟨fun _ => ?_, ?_⟩; (· ((try simp only [nc] at *); first | done | omega | exact ⟨by omega, rfl⟩ | (simp (disch := (first | omega | (simp only [lnS, zA, zM, zG, zP]; omega))) only [nc, nct, w64_of, zT, zZ, zM, rdS, at_agg, bofZ, bof1, bof0, zC, zS]; first | done | omega | rfl | exact ⟨by omega, rfl⟩ | (simp; done) | (simp; omega)) | (intros; trivial))); (try (simp only [nc] at *)); (try simp (disch := (first | omega | (simp only [lnS, zA, zM, zG, zP]; omega))) only [nc, nct, w64_of, zT, zZ, zM, rdS, at_agg, bofZ, bof1, bof0, zC, zS]); (try cbv))
    | fail
  )
  · rw [if_pos (by assumption)]
    rfl
  · rw [if_neg (by ((try simp only [nc] at *); omega))]
def evP (x : Nat) (m : BitVec 64) : BitVec 64 := (m >>> x) <<< x
theorem ev_bit (x : Nat) (m : BitVec 64) (j : Nat) : (evP x m).getLsbD j = (decide (x ≤ j) && m.getLsbD j) := by
  unfold evP
  rw [BitVec.getLsbD_shiftLeft, BitVec.getLsbD_ushiftRight]
  rw [Bool.eq_iff_iff]
  simp only [Bool.and_eq_true, decide_eq_true_eq, Bool.not_eq_true', decide_eq_false_iff_not]
  constructor
  · rintro ⟨⟨h1, h2⟩, h3⟩
    rw [show x + (j - x) = j by omega] at h3
    exact ⟨by omega, h3⟩
  · rintro ⟨h1, h2⟩
    rw [show x + (j - x) = j by omega]
    refine ⟨⟨?_, by omega⟩, h2⟩
    rcases Nat.lt_or_ge j 64 with h3 | h3
    · exact h3
    · rw [BitVec.getLsbD_of_ge m j h3] at h2; cases h2
theorem pevents_ok (g : Gr) (L : List EId) (n : Int) (rows : List (BitVec 64)) (m : BitVec 64) (hx : g.init.length ≤ 6) : Pure Tryd.prog γ false 34 [aPv g L n rows, .u fun _ => m] (.u fun _ => evP g.init.length m) := by
  have hbx := bofInt (k := g.init.length) (by omega)
  refine Pure.go (ty := ty) ty_eq mo Tryd.func34 rfl Tryd.ntmps34 Tryd.results34 Tryd.call34 (by simp) fun P C CQ D W F E hF => ?_
  cbv
  repeat' (first
    | (refine ⟨fun _ h_s => ?_, fun _ h_s => ?_⟩ <;> (cbv; (try simp only [nc] at *); try simp (disch := (first | omega | (simp only [lnS, zA, zM, zG, zP]; omega))) only [nc, nct, w64_of, zT, zZ, zM, rdS, at_agg, bofZ, bof1, bof0, zC, zS, reduceCtorEq, Bool.not_true, Bool.not_false, zD, zE, zB, zF, zN, zO, ne_eq, zQ, zL, zR, beq_iff_eq] at h_s))
    | (refine hF ?_; intro _; clear hF)
    | (refine hF ?_; cbv; clear hF)
    | (refine ⟨fun _ => ?_, ?_⟩; (· ((try simp only [nc] at *); first | done | omega | exact ⟨by omega, rfl⟩ | (simp (disch := (first | omega | (simp only [lnS, zA, zM, zG, zP]; omega))) only [nc, nct, w64_of, zT, zZ, zM, rdS, at_agg, bofZ, bof1, bof0, zC, zS]; first | done | omega | rfl | exact ⟨by omega, rfl⟩ | (simp; done) | (simp; omega)) | (intros; trivial))); (try (simp only [nc] at *)); (try simp (disch := (first | omega | (simp only [lnS, zA, zM, zG, zP]; omega))) only [nc, nct, w64_of, zT, zZ, zM, rdS, at_agg, bofZ, bof1, bof0, zC, zS]); (try cbv))
    | (refine E.d 10 (by decide +kernel) ?_; cbv; (fail_if_success guard_target =~ False))
    | fail
  )
  all_goals rfl
theorem pgrow_ok (hγ : γ 0 = some tabAV) (g : Gr) (L : List EId) (n : Nat) (rows : List (BitVec 64)) (m : BitVec 64) (hf : Fits n rows) : Pure Tryd.prog γ false 19 [aPv g L (n : Int) rows, .u fun _ => m] (.u fun _ => growM n rows m) := by
  have ki := fun s => image_ok (γ := γ) hγ (n : Int) rows s
  have hst := fun s => grow_step (m := m) (s := s) hf
  have hun := fun s => grow_unique (m := m) (s := s) hf
  have hg0 : ∀ j, m.getLsbD j = true → (growM n rows m).getLsbD j = true := fun j hj => (grow_bit hf m j).2 (.inl hj)
  generalize growM n rows m = G at *
  refine Pure.go (ty := ty) ty_eq mo Tryd.func19 rfl Tryd.ntmps19 Tryd.results19 Tryd.call19 (by simp) fun P C CQ D W F E hF => ?_
  cbv
  repeat' (first
    | (refine ⟨fun _ h_s => ?_, fun _ h_s => ?_⟩ <;> (cbv; (try simp only [nc] at *); try simp (disch := (first | omega | (simp only [lnS, zA, zM, zG, zP]; omega))) only [nc, nct, w64_of, zT, zZ, zM, rdS, at_agg, bofZ, bof1, bof0, zC, zS, reduceCtorEq, Bool.not_true, Bool.not_false, zD, zE, zB, zF, zN, zO, ne_eq, zQ, zL, zR, beq_iff_eq] at h_s))
    | (refine hF ?_; intro _; clear hF)
    | (refine hF ?_; cbv; clear hF)
    | (refine ⟨fun _ => ?_, ?_⟩; (· ((try simp only [nc] at *); first | done | omega | exact ⟨by omega, rfl⟩ | (simp (disch := (first | omega | (simp only [lnS, zA, zM, zG, zP]; omega))) only [nc, nct, w64_of, zT, zZ, zM, rdS, at_agg, bofZ, bof1, bof0, zC, zS]; first | done | omega | rfl | exact ⟨by omega, rfl⟩ | (simp; done) | (simp; omega)) | (intros; trivial))); (try (simp only [nc] at *)); (try simp (disch := (first | omega | (simp only [lnS, zA, zM, zG, zP]; omega))) only [nc, nct, w64_of, zT, zZ, zM, rdS, at_agg, bofZ, bof1, bof0, zC, zS]); (try cbv))
    | fail
  )
  refine E.loopS (ι := BitVec 64) (fun s => (∀ j, m.getLsbD j = true → s.getLsbD j = true) ∧ ∀ j, s.getLsbD j = true → G.getLsbD j = true) (fun s => 64 - cntB 64 s) (fun s => [(1, .u fun _ => s)]) (fun s h => h) m (fun _ => rfl) ⟨fun _ h => h, hg0⟩ ?_ fun s hs I hI => ?_
  · cbv; simp
  cbv
  obtain ⟨hs1, hs2⟩ := hs
  have ks := ki s
  repeat' (first
    | (refine E.c (SCalls.of_le (ks) ?_ ?_); (· (cbv; (try simp only [nc] at *); first | done | (simp; done) | (simp (disch := (first | omega | (simp only [lnS, zA, zM, zG, zP]; omega))) only [nc, nct, w64_of, zT, zZ, zM, rdS, at_agg, bofZ, bof1, bof0, zC, zS, implies_true, and_true, true_and, forall_const]; first | done | omega | (refine ⟨?_, ?_⟩ <;> omega)) | (simp (disch := (first | omega | (simp only [lnS, zA, zM, zG, zP]; omega))) [nc, nct, w64_of, zT, zZ, zM, rdS, at_agg, bofZ, bof1, bof0, zC, zS]; done))); cbv)
    | (refine ⟨fun _ h_s => ?_, fun _ h_s => ?_⟩ <;> (cbv; (try simp only [nc] at *); try simp (disch := (first | omega | (simp only [lnS, zA, zM, zG, zP]; omega))) only [nc, nct, w64_of, zT, zZ, zM, rdS, at_agg, bofZ, bof1, bof0, zC, zS, reduceCtorEq, Bool.not_true, Bool.not_false, zD, zE, zB, zF, zN, zO, ne_eq, zQ, zL, zR, beq_iff_eq] at h_s))
    | (refine hF ?_; intro _; clear hF)
    | (refine hF ?_; cbv; clear hF)
    | (refine ⟨fun _ => ?_, ?_⟩; (· ((try simp only [nc] at *); first | done | omega | exact ⟨by omega, rfl⟩ | (simp (disch := (first | omega | (simp only [lnS, zA, zM, zG, zP]; omega))) only [nc, nct, w64_of, zT, zZ, zM, rdS, at_agg, bofZ, bof1, bof0, zC, zS]; first | done | omega | rfl | exact ⟨by omega, rfl⟩ | (simp; done) | (simp; omega)) | (intros; trivial))); (try (simp only [nc] at *)); (try simp (disch := (first | omega | (simp only [lnS, zA, zM, zG, zP]; omega))) only [nc, nct, w64_of, zT, zZ, zM, rdS, at_agg, bofZ, bof1, bof0, zC, zS]); (try cbv))
    | fail
  )
  · exact hun s hs1 hs2 h_s
  · have hsub : ∀ j, s.getLsbD j = true → (s ||| imageM n rows s).getLsbD j = true := fun j hj => by rw [BitVec.getLsbD_or, hj]; rfl
    have hne : s ≠ s ||| imageM n rows s := fun e => h_s e.symm
    have h1 := cntB_ne hsub hne
    have h2 := cntB_le (s ||| imageM n rows s) 64
    refine hI (s ||| imageM n rows s) ⟨fun j hj => hsub j (hs1 j hj), hst s hs2⟩ (by omega) ?_
    cbv
    simp
end Go.AL.Rl

namespace Go.AL.Rl
open Go Go.AL Go.Proofs
set_option maxRecDepth 100000
set_option maxHeartbeats 3200000
variable {γ : Nat → Option AV}

theorem ptell_ok (hγ : γ 0 = some tabAV) (g : Gr) (L : List EId) (n : Int) (rows : List (BitVec 64)) (mask : BitVec 64) (hL : L.length ≤ 62) (hx : g.init.length ≤ 6) (hb : ∀ j, (evP g.init.length mask).getLsbD j = true → j < L.length) :
    Pure Tryd.prog γ false 18 [aPv g L n rows, .u fun _ => mask] (.vs 2 fun _ => ids (tellM L (evP g.init.length mask))) := by
  have ke := pevents_ok (γ := γ) g L n rows mask hx
  generalize evP g.init.length mask = m0 at *
  have ktz := fun m => tz_ok (γ := γ) hγ m
  obtain ⟨T, hT⟩ : ∃ T, T = tellM L m0 := ⟨_, rfl⟩
  have hTl : T.length ≤ 64 := by rw [hT]; exact tell_len L m0
  rw [← hT]
  obtain ⟨G, hG⟩ : ∃ G : List EId → Nat, ∀ l, G l = l.length := ⟨_, fun _ => rfl⟩
  have hG0 : G [] = 0 := by rw [hG]; rfl
  refine Pure.go (ty := ty) ty_eq mo Tryd.func18 rfl Tryd.ntmps18 Tryd.results18 Tryd.call18 (by simp) fun P C CQ D W F E hF => ?_
  cbv
  repeat' (first
    | (refine E.c (SCalls.of_le (ke) ?_ ?_); (· (cbv; (try simp only [nc] at *); first | done | (simp; done) | (simp (disch := (first | omega | (simp only [lnS, zA, zM, zG, zP]; omega))) only [nc, nct, w64_of, zT, zZ, zM, rdS, at_agg, bofZ, bof1, bof0, zC, zS, implies_true, and_true, true_and, forall_const]; first | done | omega | (refine ⟨?_, ?_⟩ <;> omega)) | (simp (disch := (first | omega | (simp only [lnS, zA, zM, zG, zP]; omega))) [nc, nct, w64_of, zT, zZ, zM, rdS, at_agg, bofZ, bof1, bof0, zC, zS]; done))); cbv)
    | (refine ⟨fun _ h_s => ?_, fun _ h_s => ?_⟩ <;> (cbv; (try simp only [nc] at *); try simp (disch := (first | omega | (simp only [lnS, zA, zM, zG, zP]; omega))) only [nc, nct, w64_of, zT, zZ, zM, rdS, at_agg, bofZ, bof1, bof0, zC, zS, reduceCtorEq, Bool.not_true, Bool.not_false, zD, zE, zB, zF, zN, zO, ne_eq, zQ, zL, zR, beq_iff_eq] at h_s))
    | (refine hF ?_; intro _; clear hF)
    | (refine hF ?_; cbv; clear hF)
    | (refine ⟨fun _ => ?_, ?_⟩; (· ((try simp only [nc] at *); first | done | omega | exact ⟨by omega, rfl⟩ | (simp (disch := (first | omega | (simp only [lnS, zA, zM, zG, zP]; omega))) only [nc, nct, w64_of, zT, zZ, zM, rdS, at_agg, bofZ, bof1, bof0, zC, zS]; first | done | omega | rfl | exact ⟨by omega, rfl⟩ | (simp; done) | (simp; omega)) | (intros; trivial))); (try (simp only [nc] at *)); (try simp (disch := (first | omega | (simp only [lnS, zA, zM, zG, zP]; omega))) only [nc, nct, w64_of, zT, zZ, zM, rdS, at_agg, bofZ, bof1, bof0, zC, zS]); (try cbv))
    | (refine E.d 8 (by decide +kernel) ?_; cbv; (fail_if_success guard_target =~ False))
    | fail
  )
  refine E.w (AWP.ghostSlot 5 2 rfl (by omega) (E.loopSA (ι := BitVec 64 × List EId) (fun q => q.2 ++ tellM L q.1 = T ∧ ∀ j, q.1.getLsbD j = true → j < L.length) (fun q => cntB 64 q.1) (fun q => [(6, .u fun _ => q.1), (5, .sl 1 (G q.2) 2 (fun _ => 0) fun _ => q.2.length)]) (fun q h => h.set 1 (.run (G q.2) 2 fun _ => ids q.2)) (m0, []) (fun _ => by first | rfl | simp) ⟨by rw [hT]; rfl, hb⟩ ?_ fun q hq I hI => ?_))
  · cbv; simp [hG0, ids, LV.of]
  obtain ⟨m, acc⟩ := q
  obtain ⟨hq1, hq2⟩ := hq
  simp only at hq1 hq2
  have hal : acc.length ≤ 64 := by have := congrArg List.length hq1; rw [List.length_append] at this; omega
  cbv
  skip
  have km := ktz m
  have hc := ctz_at m
  generalize Lib.ctz 64 m.toNat = c at *
  repeat' (first
    | (refine ⟨fun _ h_s => ?_, fun _ h_s => ?_⟩ <;> (cbv; (try simp only [nc] at *); try simp (disch := (first | omega | (simp only [lnS, zA, zM, zG, zP]; omega))) only [nc, nct, w64_of, zT, zZ, zM, rdS, at_agg, bofZ, bof1, bof0, zC, zS, reduceCtorEq, Bool.not_true, Bool.not_false, zD, zE, zB, zF, zN, zO, ne_eq, zQ, zL, zR, beq_iff_eq] at h_s))
    | (refine hF ?_; intro _; clear hF)
    | (refine hF ?_; cbv; clear hF)
    | (refine ⟨fun _ => ?_, ?_⟩; (· ((try simp only [nc] at *); first | done | omega | exact ⟨by omega, rfl⟩ | (simp (disch := (first | omega | (simp only [lnS, zA, zM, zG, zP]; omega))) only [nc, nct, w64_of, zT, zZ, zM, rdS, at_agg, bofZ, bof1, bof0, zC, zS]; first | done | omega | rfl | exact ⟨by omega, rfl⟩ | (simp; done) | (simp; omega)) | (intros; trivial) | exact ⟨by first | trivial | rfl, by first | trivial | rfl | simp, by first | trivial | simp, by simp; omega, by simp; omega, by simp [AV.flat, AV.cells, AV.one]⟩)); (try (simp only [nc] at *)); (try simp (disch := (first | omega | (simp only [lnS, zA, zM, zG, zP]; omega))) only [nc, nct, w64_of, zT, zZ, zM, rdS, at_agg, bofZ, bof1, bof0, zC, zS]); (try cbv))
    | (refine E.d 8 (by decide +kernel) ?_; cbv; (fail_if_success guard_target =~ False))
    | fail
  )
  · have hm : m ≠ 0#64 := by simpa using h_s
    obtain ⟨c1, c2, c3⟩ := hc hm
    have hcL := hq2 c c2
    have hst := tell_step L m c c1 c2 c3
    have hlow := low_bit m c c2 c3
    repeat' (first
      | (refine E.c (SCalls.of_le (km) ?_ ?_); (· (cbv; (try simp only [nc] at *); first | done | (simp; done) | (simp (disch := (first | omega | (simp only [lnS, zA, zM, zG, zP]; omega))) only [nc, nct, w64_of, zT, zZ, zM, rdS, at_agg, bofZ, bof1, bof0, zC, zS, implies_true, and_true, true_and, forall_const]; first | done | omega | (refine ⟨?_, ?_⟩ <;> omega)) | (simp (disch := (first | omega | (simp only [lnS, zA, zM, zG, zP]; omega))) [nc, nct, w64_of, zT, zZ, zM, rdS, at_agg, bofZ, bof1, bof0, zC, zS]; done))); cbv)
      | (refine E.q (QCalls.of_le (km) ?_ ?_); (· (cbv; (try simp only [nc] at *); first | done | (simp; done) | (simp (disch := (first | omega | (simp only [lnS, zA, zM, zG, zP]; omega))) only [nc, nct, w64_of, zT, zZ, zM, rdS, at_agg, bofZ, bof1, bof0, zC, zS, implies_true, and_true, true_and, forall_const]; first | done | omega | (refine ⟨?_, ?_⟩ <;> omega)) | (simp (disch := (first | omega | (simp only [lnS, zA, zM, zG, zP]; omega))) [nc, nct, w64_of, zT, zZ, zM, rdS, at_agg, bofZ, bof1, bof0, zC, zS]; done))); cbv)
      | (refine ⟨fun _ h_s => ?_, fun _ h_s => ?_⟩ <;> (cbv; (try simp only [nc] at *); try simp (disch := (first | omega | (simp only [lnS, zA, zM, zG, zP]; omega))) only [nc, nct, w64_of, zT, zZ, zM, rdS, at_agg, bofZ, bof1, bof0, zC, zS, reduceCtorEq, Bool.not_true, Bool.not_false, zD, zE, zB, zF, zN, zO, ne_eq, zQ, zL, zR, beq_iff_eq] at h_s))
      | (refine hF ?_; intro _; clear hF)
      | (refine hF ?_; cbv; clear hF)
      | (refine ⟨fun _ => ?_, ?_⟩; (· ((try simp only [nc] at *); first | done | omega | exact ⟨by omega, rfl⟩ | (simp (disch := (first | omega | (simp only [lnS, zA, zM, zG, zP]; omega))) only [nc, nct, w64_of, zT, zZ, zM, rdS, at_agg, bofZ, bof1, bof0, zC, zS]; first | done | omega | rfl | exact ⟨by omega, rfl⟩ | (simp; done) | (simp; omega)) | (intros; trivial) | exact ⟨by first | trivial | rfl, by first | trivial | rfl | simp, by first | trivial | simp, by simp; omega, by simp; omega, by simp [AV.flat, AV.cells, AV.one]⟩)); (try (simp only [nc] at *)); (try simp (disch := (first | omega | (simp only [lnS, zA, zM, zG, zP]; omega))) only [nc, nct, w64_of, zT, zZ, zM, rdS, at_agg, bofZ, bof1, bof0, zC, zS]); (try cbv))
      | (refine E.d 8 (by decide +kernel) ?_; cbv; (fail_if_success guard_target =~ False))
      | fail
    )
    have hsub : ∀ j, (m &&& (m - 1#64)).getLsbD j = true → m.getLsbD j = true := fun j hj => by rw [hlow, Bool.and_eq_true] at hj; exact hj.1
    have hcl := cntB_lt hsub (i := c) (by rw [hlow]; simp) c2 64 c1
    refine hI (m &&& (m - 1#64), acc ++ [L.getD c id0]) ⟨by rw [List.append_assoc, ← hq1, hst]; rfl, fun j hj => hq2 j (hsub j hj)⟩ hcl ?_
    cbv
    clear hI hst hlow hq1 hq2 hc ktz km
    simp [hG, ids, setAll, AV.nrm]
  · have hm : m = 0#64 := by simpa using h_s
    subst hm
    rw [tell_zero, List.append_nil] at hq1
    subst hq1
    intro _
    refine ⟨rfl, by simp, ?_⟩
    rw [List.drop_zero, List.take_of_length_le (by simp)]
def maskT (b : EId → BitVec 64) (l : List EId) : Nat → BitVec 64
  | 0 => 0#64
  | k + 1 => maskT b l k ||| b (l.getD k id0)
def okP (b : EId → BitVec 64) (l : List EId) (k : Nat) : Bool := decide (b (l.getD k id0) ≠ 0#64) && decide (maskT b l k &&& b (l.getD k id0) = 0#64)
def closedP (g : Gr) (L : List EId) (n : Nat) (rows : List (BitVec 64)) (l : List EId) : Bool :=
  decide (∀ k < l.length, okP (bitP L g.init.length) l k = true) && decide (evP g.init.length (growM n rows (maskT (bitP L g.init.length) l l.length)) = maskT (bitP L g.init.length) l l.length)
theorem pclosed_ok (hγ : γ 0 = some tabAV) (g : Gr) (L : List EId) (n : Nat) (rows : List (BitVec 64)) (l : List EId) (hL : L.length ≤ 62) (hx : g.init.length ≤ 6) (hf : Fits n rows) (hl : (l.length : Int) ≤ 9223372036854775807) :
    Pure Tryd.prog γ false 46 [aPv g L n rows, .vs 2 fun _ => ids l] (.b fun _ => closedP g L n rows l) := by
  have kb := fun d => pbit_ok (γ := γ) g L n rows d hL
  have ke := fun m => pevents_ok (γ := γ) g L n rows m hx
  have kg := fun m => pgrow_ok (γ := γ) hγ g L n rows m hf
  unfold closedP
  generalize bitP L g.init.length = b at *
  have h0 : maskT b l 0 = 0#64 := rfl
  have hS : ∀ k, maskT b l (k + 1) = maskT b l k ||| b (l.getD k id0) := fun _ => rfl
  have hok : ∀ k, okP b l k = (decide (b (l.getD k id0) ≠ 0#64) && decide (maskT b l k &&& b (l.getD k id0) = 0#64)) := fun _ => rfl
  generalize okP b l = ok at *
  generalize maskT b l = M at *
  refine Pure.go (ty := ty) ty_eq mo Tryd.func46 rfl Tryd.ntmps46 Tryd.results46 Tryd.call46 (by simp) fun P C CQ D W F E hF => ?_
  cbv
  repeat' (first
    | (refine ⟨fun _ h_s => ?_, fun _ h_s => ?_⟩ <;> (cbv; (try simp only [nc] at *); try simp (disch := (first | omega | (simp only [lnS, zA, zM, zG, zP]; omega))) only [nc, nct, w64_of, zT, zZ, zM, rdS, at_agg, bofZ, bof1, bof0, zC, zS, reduceCtorEq, Bool.not_true, Bool.not_false, zD, zE, zB, zF, zN, zO, ne_eq, zQ, zL, zR, beq_iff_eq] at h_s))
    | (refine hF ?_; intro _; clear hF)
    | (refine hF ?_; cbv; clear hF)
    | (refine ⟨fun _ => ?_, ?_⟩; (· ((try simp only [nc] at *); first | done | omega | exact ⟨by omega, rfl⟩ | (simp (disch := (first | omega | (simp only [lnS, zA, zM, zG, zP]; omega))) only [nc, nct, w64_of, zT, zZ, zM, rdS, at_agg, bofZ, bof1, bof0, zC, zS]; first | done | omega | rfl | exact ⟨by omega, rfl⟩ | (simp; done) | (simp; omega)) | (intros; trivial) | exact ⟨by first | trivial | rfl, by first | trivial | rfl | simp, by first | trivial | simp, by simp; omega, by simp; omega, by simp [AV.flat, AV.cells, AV.one]⟩)); (try (simp only [nc] at *)); (try simp (disch := (first | omega | (simp only [lnS, zA, zM, zG, zP]; omega))) only [nc, nct, w64_of, zT, zZ, zM, rdS, at_agg, bofZ, bof1, bof0, zC, zS]); (try cbv))
    | (refine E.d 6 (by decide +kernel) ?_; cbv; (fail_if_success guard_target =~ False))
    | fail
  )
  refine E.loopS (ι := Nat) (fun i => i ≤ l.length ∧ (∀ k < i, ok k = true)) (fun i => l.length - i) (fun i => [(11, .i fun _ => ((i : Nat) : Int)), (5, .u fun _ => M i)]) (fun i h => h) 0 (fun _ => by first | rfl | simp) ⟨Nat.zero_le _, ?_⟩ ?_ fun i hi I hI => ?_
  · intro k hk; omega
  · cbv; simp [h0]
  cbv
  obtain ⟨hi, hp⟩ := hi
  have kbi := kb (l.getD i id0)
  have hoki := hok i
  have hSi := hS i
  have kgi := kg (M i)
  have kei := ke (growM n rows (M i))
  repeat' (first
    | (refine E.c (SCalls.of_le (kei) ?_ ?_); (· (cbv; (try simp only [nc] at *); first | done | (simp; done) | (simp (disch := (first | omega | (simp only [lnS, zA, zM, zG, zP]; omega))) only [nc, nct, w64_of, zT, zZ, zM, rdS, at_agg, bofZ, bof1, bof0, zC, zS, implies_true, and_true, true_and, forall_const]; first | done | omega | (refine ⟨?_, ?_⟩ <;> omega)) | (simp (disch := (first | omega | (simp only [lnS, zA, zM, zG, zP]; omega))) [nc, nct, w64_of, zT, zZ, zM, rdS, at_agg, bofZ, bof1, bof0, zC, zS]; done))); cbv)
    | (refine E.q (QCalls.of_le (kei) ?_ ?_); (· (cbv; (try simp only [nc] at *); first | done | (simp; done) | (simp (disch := (first | omega | (simp only [lnS, zA, zM, zG, zP]; omega))) only [nc, nct, w64_of, zT, zZ, zM, rdS, at_agg, bofZ, bof1, bof0, zC, zS, implies_true, and_true, true_and, forall_const]; first | done | omega | (refine ⟨?_, ?_⟩ <;> omega)) | (simp (disch := (first | omega | (simp only [lnS, zA, zM, zG, zP]; omega))) [nc, nct, w64_of, zT, zZ, zM, rdS, at_agg, bofZ, bof1, bof0, zC, zS]; done))); cbv)
    | (refine E.c (SCalls.of_le (kgi) ?_ ?_); (· (cbv; (try simp only [nc] at *); first | done | (simp; done) | (simp (disch := (first | omega | (simp only [lnS, zA, zM, zG, zP]; omega))) only [nc, nct, w64_of, zT, zZ, zM, rdS, at_agg, bofZ, bof1, bof0, zC, zS, implies_true, and_true, true_and, forall_const]; first | done | omega | (refine ⟨?_, ?_⟩ <;> omega)) | (simp (disch := (first | omega | (simp only [lnS, zA, zM, zG, zP]; omega))) [nc, nct, w64_of, zT, zZ, zM, rdS, at_agg, bofZ, bof1, bof0, zC, zS]; done))); cbv)
    | (refine E.q (QCalls.of_le (kgi) ?_ ?_); (· (cbv; (try simp only [nc] at *); first | done | (simp; done) | (simp (disch := (first | omega | (simp only [lnS, zA, zM, zG, zP]; omega))) only [nc, nct, w64_of, zT, zZ, zM, rdS, at_agg, bofZ, bof1, bof0, zC, zS, implies_true, and_true, true_and, forall_const]; first | done | omega | (refine ⟨?_, ?_⟩ <;> omega)) | (simp (disch := (first | omega | (simp only [lnS, zA, zM, zG, zP]; omega))) [nc, nct, w64_of, zT, zZ, zM, rdS, at_agg, bofZ, bof1, bof0, zC, zS]; done))); cbv)
    | (refine hI (i + 1) ?_ ?_ ?_; rotate_left 1; (· ((try simp only [nc] at *); omega)); (cbv; clear hI; (try clear hF); (try simp only [nc] at *); (try simp (disch := (first | omega | (simp only [lnS, zA, zM, zG, zP]; omega))) only [nc, nct, w64_of, zT, zZ, zM, rdS, at_agg, bofZ, bof1, bof0, zC, zS, implies_true, and_true, true_and, forall_const])); rotate_left 1; (try ((try simp only [nc] at *); omega)))
    | (refine E.c (SCalls.of_le (kbi) ?_ ?_); (· (cbv; (try simp only [nc] at *); first | done | (simp; done) | (simp (disch := (first | omega | (simp only [lnS, zA, zM, zG, zP]; omega))) only [nc, nct, w64_of, zT, zZ, zM, rdS, at_agg, bofZ, bof1, bof0, zC, zS, implies_true, and_true, true_and, forall_const]; first | done | omega | (refine ⟨?_, ?_⟩ <;> omega)) | (simp (disch := (first | omega | (simp only [lnS, zA, zM, zG, zP]; omega))) [nc, nct, w64_of, zT, zZ, zM, rdS, at_agg, bofZ, bof1, bof0, zC, zS]; done))); cbv)
    | (refine ⟨fun _ h_s => ?_, fun _ h_s => ?_⟩ <;> (cbv; (try simp only [nc] at *); try simp (disch := (first | omega | (simp only [lnS, zA, zM, zG, zP]; omega))) only [nc, nct, w64_of, zT, zZ, zM, rdS, at_agg, bofZ, bof1, bof0, zC, zS, reduceCtorEq, Bool.not_true, Bool.not_false, zD, zE, zB, zF, zN, zO, ne_eq, zQ, zL, zR, beq_iff_eq] at h_s))
    | (refine hF ?_; intro _; clear hF)
    | (refine hF ?_; cbv; clear hF)
    | (refine ⟨fun _ => ?_, ?_⟩; (· ((try simp only [nc] at *); first | done | omega | exact ⟨by omega, rfl⟩ | (simp (disch := (first | omega | (simp only [lnS, zA, zM, zG, zP]; omega))) only [nc, nct, w64_of, zT, zZ, zM, rdS, at_agg, bofZ, bof1, bof0, zC, zS]; first | done | omega | rfl | exact ⟨by omega, rfl⟩ | (simp; done) | (simp; omega)) | (intros; trivial) | exact ⟨by first | trivial | rfl, by first | trivial | rfl | simp, by first | trivial | simp, by simp; omega, by simp; omega, by simp [AV.flat, AV.cells, AV.one]⟩)); (try (simp only [nc] at *)); (try simp (disch := (first | omega | (simp only [lnS, zA, zM, zG, zP]; omega))) only [nc, nct, w64_of, zT, zZ, zM, rdS, at_agg, bofZ, bof1, bof0, zC, zS]); (try cbv))
    | (refine E.d 6 (by decide +kernel) ?_; cbv; (fail_if_success guard_target =~ False))
    | fail
  )
  iterate 2
    · have hf' : ¬ ok i = true := by rw [hoki]; simp_all
      have hil : i < l.length := by ((try simp only [nc] at *); omega)
      rw [decide_eq_false fun hall => hf' (hall i hil)]; rfl
  · refine ⟨by ((try simp only [nc] at *); omega), fun k hk => ?_⟩
    rcases Nat.lt_or_ge k i with h1 | h1
    · exact hp k h1
    · obtain rfl : k = i := by omega
      rw [hoki]; simp_all
  · exact ⟨by push_cast; rfl, hSi.symm⟩
  · have e : i = l.length := by ((try simp only [nc] at *); omega)
    subst e
    rw [decide_eq_true hp]; rfl
end Go.AL.Rl

namespace Go.AL.Rl
open Go Go.AL Go.Proofs
set_option maxRecDepth 100000
set_option maxHeartbeats 3200000
variable {γ : Nat → Option AV}

theorem plook_no (g : Gr) (hg : Rd g) (h : ¬ GOk g) : Pure Tryd.prog γ false 16 [aGr g] (.tup [aPv ⟨[], [], [], []⟩ [] 0 [], .b fun _ => false]) := by
  have kd := dAll_no (γ := γ) g hg h
  refine Pure.go (ty := ty) ty_eq mo Tryd.func16 rfl Tryd.ntmps16 Tryd.results16 Tryd.call16 (by simp) fun P C CQ D W F E hF => ?_
  cbv
  repeat' (first
    | (refine E.c (SCalls.of_le (kd) ?_ ?_); (· (cbv; (try simp only [nc] at *); first | done | (simp; done) | (simp (disch := (first | omega | (simp only [lnS, zA, zM, zG, zP]; omega))) only [nc, nct, w64_of, zT, zZ, zM, rdS, at_agg, bofZ, bof1, bof0, zC, zS, implies_true, and_true, true_and, forall_const]; first | done | omega | (refine ⟨?_, ?_⟩ <;> omega)) | (simp (disch := (first | omega | (simp only [lnS, zA, zM, zG, zP]; omega))) [nc, nct, w64_of, zT, zZ, zM, rdS, at_agg, bofZ, bof1, bof0, zC, zS]; done))); cbv)
    | (refine ⟨fun _ h_s => ?_, fun _ h_s => ?_⟩ <;> (cbv; (try simp only [nc] at *); try simp (disch := (first | omega | (simp only [lnS, zA, zM, zG, zP]; omega))) only [nc, nct, w64_of, zT, zZ, zM, rdS, at_agg, bofZ, bof1, bof0, zC, zS, reduceCtorEq, Bool.not_true, Bool.not_false, zD, zE, zB, zF, zN, zO, ne_eq, zQ, zL, zR, beq_iff_eq] at h_s))
    | (refine hF ?_; intro _; clear hF)
    | (refine hF ?_; cbv; clear hF)
    | (refine ⟨fun _ => ?_, ?_⟩; (· ((try simp only [nc] at *); first | done | omega | exact ⟨by omega, rfl⟩ | (simp (disch := (first | omega | (simp only [lnS, zA, zM, zG, zP]; omega))) only [nc, nct, w64_of, zT, zZ, zM, rdS, at_agg, bofZ, bof1, bof0, zC, zS]; first | done | omega | rfl | exact ⟨by omega, rfl⟩ | (simp; done) | (simp; omega)) | (intros; trivial))); (try (simp only [nc] at *)); (try simp (disch := (first | omega | (simp only [lnS, zA, zM, zG, zP]; omega))) only [nc, nct, w64_of, zT, zZ, zM, rdS, at_agg, bofZ, bof1, bof0, zC, zS]); (try cbv))
    | fail
  )
  all_goals first
    | (exfalso; revert h_s; simp; done)
    | (simp [is, us, ids, evss, idss, LV.of, LV.l]; done)
theorem plook_yes (hγ : γ 0 = some tabAV) (g : Gr) (hg : Rd g) (h : GOk g) : Pure Tryd.prog γ false 16 [aGr g] (.tup [aPv g (idsG g) (nG g : Nat) (backF (viewG g) (nG g)), .b fun _ => true]) := by
  have kd := dAll_yes (γ := γ) g hg h
  have hn := (viewG_wf h).small
  have hin := h.short.init
  have hth := h.short.th
  have hs := h.short
  have hle : ∀ t, (g.th.getD t []).length ≤ 14 := hs.at
  have ko := or2 (γ := γ) (nG g) _ _ (fits_poF (viewG g) hn) (fits_rfF (viewG g) hn)
  have kt := turn_ok (γ := γ) hγ (nG g) _ (fits_or2 (fits_poF (viewG g) hn) (fits_rfF (viewG g) hn))
  have eb : backF (viewG g) (nG g) = turnM (orM (nG g) [((nG g : Int), poF (viewG g) (nG g)), ((nG g : Int), rfF (viewG g) (nG g))]) := rfl
  rw [← eb] at kt
  clear eb
  generalize orM (nG g) [((nG g : Int), poF (viewG g) (nG g)), ((nG g : Int), rfF (viewG g) (nG g))] = q0 at *
  generalize backF (viewG g) (nG g) = bk at *
  generalize poF (viewG g) (nG g) = q1 at *
  generalize rfF (viewG g) (nG g) = q2 at *
  generalize coF (viewG g) (nG g) = q3 at *
  generalize frF (viewG g) (nG g) = q4 at *
  generalize swF (viewG g) (nG g) = q5 at *
  generalize ecoF (viewG g) (nG g) = q6 at *
  generalize porfF (viewG g) (nG g) = q7 at *
  generalize hbF (viewG g) (nG g) = q8 at *
  generalize locF (viewG g) (nG g) = q9 at *
  obtain ⟨L, hL⟩ : ∃ L : Nat → List EId, ∀ x, L x = idsI x := ⟨_, fun _ => rfl⟩
  obtain ⟨L2, hL2⟩ : ∃ L2 : Nat → Nat → List EId, ∀ t i, L2 t i = idsI g.init.length ++ idsT g t ++ idsE t i := ⟨_, fun _ _ => rfl⟩
  have l0 : L 0 = [] := by rw [hL]; rfl
  have lS : ∀ x, L (x + 1) = L x ++ [⟨0, x⟩] := fun x => by rw [hL, hL, idsI_succ]
  have lL : ∀ x, (L x).length = x := fun x => by rw [hL, idsI_len]
  have lE : L g.init.length = L2 0 0 := by rw [hL, hL2]; simp [idsT, idsE]
  have mS : ∀ t i, L2 t (i + 1) = L2 t i ++ [⟨t + 1, i⟩] := fun t i => by rw [hL2, hL2, idsE_succ]; simp only [List.append_assoc]
  have mE : ∀ t, L2 t (g.th.getD t []).length = L2 (t + 1) 0 := fun t => by rw [hL2, hL2, idsT_succ]; simp [idsE]
  have mF : L2 g.th.length 0 = idsG g := by rw [hL2]; simp [idsE, idsG]
  have mL : ∀ t i, (L2 t i).length ≤ 6 + 14 * t + i := fun t i => by
    have := evsT_len hs t
    rw [hL2]; simp only [List.length_append, idsI_len, idsE_len, idsT_len]; omega
  obtain ⟨G, hG⟩ : ∃ G : List EId → Nat, ∀ l, G l = l.length := ⟨_, fun _ => rfl⟩
  have hG0 : G [] = 0 := by rw [hG]; rfl
  rw [← mF]
  generalize nG g = n at *
  refine Pure.go (ty := ty) ty_eq mo Tryd.func16 rfl Tryd.ntmps16 Tryd.results16 Tryd.call16 (by simp) fun P C CQ D W F E hF => ?_
  cbv
  repeat' (first
    | (refine E.c (SCalls.of_le (kt) ?_ ?_); (· (cbv; (try simp only [nc] at *); first | done | (simp; done) | (simp (disch := (first | omega | (simp only [lnS, zA, zM, zG, zP]; omega))) only [nc, nct, w64_of, zT, zZ, zM, rdS, at_agg, bofZ, bof1, bof0, zC, zS, implies_true, and_true, true_and, forall_const]; first | done | omega | (refine ⟨?_, ?_⟩ <;> omega)) | (simp (disch := (first | omega | (simp only [lnS, zA, zM, zG, zP]; omega))) [nc, nct, w64_of, zT, zZ, zM, rdS, at_agg, bofZ, bof1, bof0, zC, zS]; done))); cbv)
    | (refine E.q (QCalls.of_le (kt) ?_ ?_); (· (cbv; (try simp only [nc] at *); first | done | (simp; done) | (simp (disch := (first | omega | (simp only [lnS, zA, zM, zG, zP]; omega))) only [nc, nct, w64_of, zT, zZ, zM, rdS, at_agg, bofZ, bof1, bof0, zC, zS, implies_true, and_true, true_and, forall_const]; first | done | omega | (refine ⟨?_, ?_⟩ <;> omega)) | (simp (disch := (first | omega | (simp only [lnS, zA, zM, zG, zP]; omega))) [nc, nct, w64_of, zT, zZ, zM, rdS, at_agg, bofZ, bof1, bof0, zC, zS]; done))); cbv)
    | (refine E.c (SCalls.of_bare (ko) rfl ?_ ?_); (· (cbv; simp [rls, ps, us, is, LV.of]; done)); cbv)
    | (refine E.c (SCalls.of_le (ko) ?_ ?_); (· (cbv; simp [rls, ps, us, is, LV.of]; done)); cbv)
    | (refine E.q (QCalls.of_le (ko) ?_ ?_); (· (cbv; simp [rls, ps, us, is, LV.of]; done)); cbv)
    | (refine E.de 12 [] [none] (by decide +kernel) ?_; cbv; (fail_if_success guard_target =~ False))
    | (refine E.c (SCalls.of_le (kd) ?_ ?_); (· (cbv; (try simp only [nc] at *); first | done | (simp; done) | (simp (disch := (first | omega | (simp only [lnS, zA, zM, zG, zP]; omega))) only [nc, nct, w64_of, zT, zZ, zM, rdS, at_agg, bofZ, bof1, bof0, zC, zS, implies_true, and_true, true_and, forall_const]; first | done | omega | (refine ⟨?_, ?_⟩ <;> omega)) | (simp (disch := (first | omega | (simp only [lnS, zA, zM, zG, zP]; omega))) [nc, nct, w64_of, zT, zZ, zM, rdS, at_agg, bofZ, bof1, bof0, zC, zS]; done))); cbv)
    | (refine ⟨fun _ h_s => ?_, fun _ h_s => ?_⟩ <;> (cbv; (try simp only [nc] at *); try simp (disch := (first | omega | (simp only [lnS, zA, zM, zG, zP]; omega))) only [nc, nct, w64_of, zT, zZ, zM, rdS, at_agg, bofZ, bof1, bof0, zC, zS, reduceCtorEq, Bool.not_true, Bool.not_false, zD, zE, zB, zF, zN, zO, ne_eq, zQ, zL, zR, beq_iff_eq] at h_s))
    | (refine hF ?_; intro _; clear hF)
    | (refine hF ?_; cbv; clear hF)
    | (refine ⟨fun _ => ?_, ?_⟩; (· ((try simp only [nc] at *); first | done | omega | exact ⟨by omega, rfl⟩ | (simp (disch := (first | omega | (simp only [lnS, zA, zM, zG, zP]; omega))) only [nc, nct, w64_of, zT, zZ, zM, rdS, at_agg, bofZ, bof1, bof0, zC, zS]; first | done | omega | rfl | exact ⟨by omega, rfl⟩ | (simp; done) | (simp; omega)) | (intros; trivial))); (try (simp only [nc] at *)); (try simp (disch := (first | omega | (simp only [lnS, zA, zM, zG, zP]; omega))) only [nc, nct, w64_of, zT, zZ, zM, rdS, at_agg, bofZ, bof1, bof0, zC, zS]); (try cbv))
    | fail
  )
  · exact absurd trivial h_s
  clear kd ko kt
  refine E.w (AWP.ghostField 3 4 2 rfl rfl ?_)
  refine E.loopSA (ι := Nat) (fun x => x ≤ g.init.length) (fun x => g.init.length - x) (fun x => [(33, .i fun _ => ((x : Nat) : Int))]) (fun x h => (h.set 3 (.box (.agg [.vs 1 fun _ => is g.init, .vs 1 fun _ => evss g.th, .vs 1 fun _ => idss g.fr, .vs 1 fun _ => idss g.ord, .sl 4 (G (L x)) 2 (fun _ => 0) fun _ => (L x).length, .i fun _ => (n : Int), .vs 1 fun _ => us bk]))).set 4 (.run (G (L x)) 2 fun _ => ids (L x))) 0 (fun _ => by first | rfl | simp) (Nat.zero_le _) ?_ fun x hx I hI => ?_
  · cbv; simp [l0, hG0, ids, LV.of]
  cbv
  have e1 := lS x
  have e2 := lL x
  skip
  repeat' (first
    | (refine hI (x + 1) ?_ ?_ ?_; rotate_left 1; (· ((try simp only [nc] at *); omega)); (cbv; clear hI; (try clear hF); (try simp only [nc] at *); (try simp (disch := (first | omega | (simp only [lnS, zA, zM, zG, zP]; omega))) only [nc, nct, w64_of, zT, zZ, zM, rdS, at_agg, bofZ, bof1, bof0, zC, zS, implies_true, and_true, true_and, forall_const])); rotate_left 1; (try ((try simp only [nc] at *); omega)))
    | (refine ⟨fun _ h_s => ?_, fun _ h_s => ?_⟩ <;> (cbv; (try simp only [nc] at *); try simp (disch := (first | omega | (simp only [lnS, zA, zM, zG, zP]; omega))) only [nc, nct, w64_of, zT, zZ, zM, rdS, at_agg, bofZ, bof1, bof0, zC, zS, reduceCtorEq, Bool.not_true, Bool.not_false, zD, zE, zB, zF, zN, zO, ne_eq, zQ, zL, zR, beq_iff_eq] at h_s))
    | (refine hF ?_; intro _; clear hF)
    | (refine hF ?_; cbv; clear hF)
    | (refine ⟨fun _ => ?_, ?_⟩; (· ((try simp only [nc] at *); first | done | omega | exact ⟨by omega, rfl⟩ | (simp (disch := (first | omega | (simp only [lnS, zA, zM, zG, zP]; omega))) only [nc, nct, w64_of, zT, zZ, zM, rdS, at_agg, bofZ, bof1, bof0, zC, zS]; first | done | omega | rfl | exact ⟨by omega, rfl⟩ | (simp; done) | (simp; omega)) | (intros; trivial) | exact ⟨by first | trivial | rfl, by first | trivial | rfl | simp, by first | trivial | simp, by simp; omega, by simp; omega, by simp [AV.flat, AV.cells, AV.one]⟩)); (try (simp only [nc] at *)); (try simp (disch := (first | omega | (simp only [lnS, zA, zM, zG, zP]; omega))) only [nc, nct, w64_of, zT, zZ, zM, rdS, at_agg, bofZ, bof1, bof0, zC, zS]); (try cbv))
    | fail
  )
  · simp [hG, e1, ids, setAll, AV.nrm, nrms, nrm1]
  clear hI
  have ex : x = g.init.length := by ((try simp only [nc] at *); omega)
  subst ex
  rw [lE]
  refine E.loopS (ι := Nat) (fun t => t ≤ g.th.length) (fun t => g.th.length - t) (fun t => [(47, .i fun _ => ((t : Nat) : Int))]) (fun t h => (h.set 3 (.box (.agg [.vs 1 fun _ => is g.init, .vs 1 fun _ => evss g.th, .vs 1 fun _ => idss g.fr, .vs 1 fun _ => idss g.ord, .sl 4 (G (L2 t 0)) 2 (fun _ => 0) fun _ => (L2 t 0).length, .i fun _ => (n : Int), .vs 1 fun _ => us bk]))).set 4 (.run (G (L2 t 0)) 2 fun _ => ids (L2 t 0))) 0 (fun _ => by first | rfl | simp) (Nat.zero_le _) ?_ fun t ht I1 hI1 => ?_
  · cbv; simp
  cbv
  have hgt := hle t
  repeat' (first
    | (refine ⟨fun _ h_s => ?_, fun _ h_s => ?_⟩ <;> (cbv; (try simp only [nc] at *); try simp (disch := (first | omega | (simp only [lnS, zA, zM, zG, zP]; omega))) only [nc, nct, w64_of, zT, zZ, zM, rdS, at_agg, bofZ, bof1, bof0, zC, zS, reduceCtorEq, Bool.not_true, Bool.not_false, zD, zE, zB, zF, zN, zO, ne_eq, zQ, zL, zR, beq_iff_eq] at h_s))
    | (refine hF ?_; intro _; clear hF)
    | (refine hF ?_; cbv; clear hF)
    | (refine ⟨fun _ => ?_, ?_⟩; (· ((try simp only [nc] at *); first | done | omega | exact ⟨by omega, rfl⟩ | (simp (disch := (first | omega | (simp only [lnS, zA, zM, zG, zP]; omega))) only [nc, nct, w64_of, zT, zZ, zM, rdS, at_agg, bofZ, bof1, bof0, zC, zS]; first | done | omega | rfl | exact ⟨by omega, rfl⟩ | (simp; done) | (simp; omega)) | (intros; trivial) | exact ⟨by first | trivial | rfl, by first | trivial | rfl | simp, by first | trivial | simp, by simp; omega, by simp; omega, by simp [AV.flat, AV.cells, AV.one]⟩)); (try (simp only [nc] at *)); (try simp (disch := (first | omega | (simp only [lnS, zA, zM, zG, zP]; omega))) only [nc, nct, w64_of, zT, zZ, zM, rdS, at_agg, bofZ, bof1, bof0, zC, zS]); (try cbv))
    | fail
  )
  · refine E.loopS (ι := Nat) (fun i => i ≤ (g.th.getD t []).length) (fun i => (g.th.getD t []).length - i) (fun i => [(54, .i fun _ => ((i : Nat) : Int))]) (fun i h => (h.set 3 (.box (.agg [.vs 1 fun _ => is g.init, .vs 1 fun _ => evss g.th, .vs 1 fun _ => idss g.fr, .vs 1 fun _ => idss g.ord, .sl 4 (G (L2 t i)) 2 (fun _ => 0) fun _ => (L2 t i).length, .i fun _ => (n : Int), .vs 1 fun _ => us bk]))).set 4 (.run (G (L2 t i)) 2 fun _ => ids (L2 t i))) 0 (fun _ => by first | rfl | simp) (Nat.zero_le _) ?_ fun i hi I2 hI2 => ?_
    · cbv; simp
    cbv
    have f1 := mS t i
    have f2 := mL t i
    have f3 := mE t
    repeat' (first
      | (refine hI1 (t + 1) ?_ ?_ ?_; rotate_left 1; (· ((try simp only [nc] at *); omega)); (cbv; clear hI1; (try clear hF); (try simp only [nc] at *); (try simp (disch := (first | omega | (simp only [lnS, zA, zM, zG, zP]; omega))) only [nc, nct, w64_of, zT, zZ, zM, rdS, at_agg, bofZ, bof1, bof0, zC, zS, implies_true, and_true, true_and, forall_const])); rotate_left 1; (try ((try simp only [nc] at *); omega)))
      | (refine hI2 (i + 1) ?_ ?_ ?_; rotate_left 1; (· ((try simp only [nc] at *); omega)); (cbv; clear hI2; (try clear hF); (try simp only [nc] at *); (try simp (disch := (first | omega | (simp only [lnS, zA, zM, zG, zP]; omega))) only [nc, nct, w64_of, zT, zZ, zM, rdS, at_agg, bofZ, bof1, bof0, zC, zS, implies_true, and_true, true_and, forall_const])); rotate_left 1; (try ((try simp only [nc] at *); omega)))
      | (refine ⟨fun _ h_s => ?_, fun _ h_s => ?_⟩ <;> (cbv; (try simp only [nc] at *); try simp (disch := (first | omega | (simp only [lnS, zA, zM, zG, zP]; omega))) only [nc, nct, w64_of, zT, zZ, zM, rdS, at_agg, bofZ, bof1, bof0, zC, zS, reduceCtorEq, Bool.not_true, Bool.not_false, zD, zE, zB, zF, zN, zO, ne_eq, zQ, zL, zR, beq_iff_eq] at h_s))
      | (refine hF ?_; intro _; clear hF)
      | (refine hF ?_; cbv; clear hF)
      | (refine ⟨fun _ => ?_, ?_⟩; (· ((try simp only [nc] at *); first | done | omega | exact ⟨by omega, rfl⟩ | (simp (disch := (first | omega | (simp only [lnS, zA, zM, zG, zP]; omega))) only [nc, nct, w64_of, zT, zZ, zM, rdS, at_agg, bofZ, bof1, bof0, zC, zS]; first | done | omega | rfl | exact ⟨by omega, rfl⟩ | (simp; done) | (simp; omega)) | (intros; trivial) | exact ⟨by first | trivial | rfl, by first | trivial | rfl | simp, by first | trivial | simp, by simp; omega, by simp; omega, by simp [AV.flat, AV.cells, AV.one]⟩)); (try (simp only [nc] at *)); (try simp (disch := (first | omega | (simp only [lnS, zA, zM, zG, zP]; omega))) only [nc, nct, w64_of, zT, zZ, zM, rdS, at_agg, bofZ, bof1, bof0, zC, zS]); (try cbv))
      | fail
    )
    · simp [hG, f1, ids, setAll, AV.nrm, nrms, nrm1]
    · have e : i = (g.th.getD t []).length := by ((try simp only [nc] at *); omega)
      subst e
      rw [f3]
      exact ⟨by push_cast; rfl, ⟨rfl, rfl⟩, rfl, rfl⟩
  · have et : t = g.th.length := by ((try simp only [nc] at *); omega)
    subst et
    simp
    exact List.take_of_length_le (by simp)
theorem bitP_lt {L : List EId} {x : Nat} {d : EId} {j : Nat} (h : (bitP L x d).getLsbD j = true) : j < L.length := by
  have hb := numI_lt L d
  unfold bitP at h
  by_cases h1 : numI L d < x
  · rw [if_pos h1] at h; simp at h
  · rw [if_neg h1] at h
    have hj : j < 64 := by
      rcases Nat.lt_or_ge j 64 with h3 | h3
      · exact h3
      · rw [BitVec.getLsbD_of_ge _ j h3] at h; cases h
    rw [one_shl_bit _ j hj, decide_eq_true_eq] at h
    omega
theorem maskT_lt {b : EId → BitVec 64} {n : Nat} (hb : ∀ d j, (b d).getLsbD j = true → j < n) (l : List EId) : ∀ k j, (maskT b l k).getLsbD j = true → j < n
  | 0, j, h => by simp [maskT] at h
  | k + 1, j, h => by
    unfold maskT at h
    rw [BitVec.getLsbD_or, Bool.or_eq_true] at h
    exact h.elim (maskT_lt hb l k j) (hb _ j)
theorem grow_lt {n : Nat} {rows : List (BitVec 64)} (hf : Fits n rows) {m : BitVec 64} (hm : ∀ j, m.getLsbD j = true → j < n) {j : Nat} (h : (growM n rows m).getLsbD j = true) : j < n := by
  rw [grow_bit hf] at h
  rcases h with h | ⟨p, _, h⟩
  · exact hm j h
  · have := (fits_bits (fits_plus hf) h).2
    have e := (fits_plus hf).2.2.1
    omega
theorem image_lt {n : Nat} {rows : List (BitVec 64)} (hf : Fits n rows) {m : BitVec 64} {j : Nat} (h : (imageM n rows m).getLsbD j = true) : j < n := by
  obtain ⟨p, _, h⟩ := (bit_image hf _ _).1 h
  have := (fits_bits hf h).2
  have e := hf.2.2.1
  omega
def leansM (g : Gr) (d : EId) : List EId := if GOk g then tellM (idsG g) (evP g.init.length (growM (nG g) (backF (viewG g) (nG g)) (imageM (nG g) (backF (viewG g) (nG g)) (bitP (idsG g) g.init.length d)))) else []
def closeM (g : Gr) (l : List EId) : List EId := if GOk g then tellM (idsG g) (evP g.init.length (growM (nG g) (backF (viewG g) (nG g)) (maskT (bitP (idsG g) g.init.length) l l.length))) else []
def closedG (g : Gr) (l : List EId) : Bool := decide (GOk g) && closedP g (idsG g) (nG g) (backF (viewG g) (nG g)) l
theorem pleans_ok (hγ : γ 0 = some tabAV) (g : Gr) (hg : Rd g) (d : EId) : Pure Tryd.prog γ false 10 [aGr g, aId d] (.vs 2 fun _ => ids (leansM g d)) := by
  unfold leansM
  by_cases h : GOk g
  · rw [if_pos h]
    have hn := (viewG_wf h).small
    have hx := h.short.init
    have hf := backF_fits (viewG g) hn
    have kl := plook_yes (γ := γ) hγ g hg h
    have kb := pbit_ok (γ := γ) g (idsG g) (nG g : Nat) (backF (viewG g) (nG g)) d (by show nG g ≤ 62; exact hn)
    have ki := image_ok (γ := γ) hγ (nG g : Nat) (backF (viewG g) (nG g)) (bitP (idsG g) g.init.length d)
    have kg := pgrow_ok (γ := γ) hγ g (idsG g) (nG g) (backF (viewG g) (nG g)) (imageM (nG g) (backF (viewG g) (nG g)) (bitP (idsG g) g.init.length d)) hf
    have kt := ptell_ok (γ := γ) hγ g (idsG g) (nG g : Nat) (backF (viewG g) (nG g)) (growM (nG g) (backF (viewG g) (nG g)) (imageM (nG g) (backF (viewG g) (nG g)) (bitP (idsG g) g.init.length d))) (by show nG g ≤ 62; exact hn) hx (fun j hj => by
      rw [ev_bit, Bool.and_eq_true] at hj
      exact grow_lt hf (fun j hj => image_lt hf hj) hj.2)
    generalize tellM _ _ = T at *
    generalize growM _ _ _ = m2 at *
    generalize imageM _ _ _ = m1 at *
    generalize bitP _ _ _ = m0 at *
    generalize backF (viewG g) (nG g) = bk at *
    refine Pure.go (ty := ty) ty_eq mo Tryd.func10 rfl Tryd.ntmps10 Tryd.results10 Tryd.call10 (by simp) fun P C CQ D W F E hF => ?_
    cbv
    repeat' (first
      | (refine E.c (SCalls.of_le (kt) ?_ ?_); (· (cbv; (try simp only [nc] at *); first | done | (simp; done) | (simp (disch := (first | omega | (simp only [lnS, zA, zM, zG, zP]; omega))) only [nc, nct, w64_of, zT, zZ, zM, rdS, at_agg, bofZ, bof1, bof0, zC, zS, implies_true, and_true, true_and, forall_const]; first | done | omega | (refine ⟨?_, ?_⟩ <;> omega)) | (simp (disch := (first | omega | (simp only [lnS, zA, zM, zG, zP]; omega))) [nc, nct, w64_of, zT, zZ, zM, rdS, at_agg, bofZ, bof1, bof0, zC, zS]; done))); cbv)
      | (refine E.q (QCalls.of_le (kt) ?_ ?_); (· (cbv; (try simp only [nc] at *); first | done | (simp; done) | (simp (disch := (first | omega | (simp only [lnS, zA, zM, zG, zP]; omega))) only [nc, nct, w64_of, zT, zZ, zM, rdS, at_agg, bofZ, bof1, bof0, zC, zS, implies_true, and_true, true_and, forall_const]; first | done | omega | (refine ⟨?_, ?_⟩ <;> omega)) | (simp (disch := (first | omega | (simp only [lnS, zA, zM, zG, zP]; omega))) [nc, nct, w64_of, zT, zZ, zM, rdS, at_agg, bofZ, bof1, bof0, zC, zS]; done))); cbv)
      | (refine E.c (SCalls.of_le (kg) ?_ ?_); (· (cbv; (try simp only [nc] at *); first | done | (simp; done) | (simp (disch := (first | omega | (simp only [lnS, zA, zM, zG, zP]; omega))) only [nc, nct, w64_of, zT, zZ, zM, rdS, at_agg, bofZ, bof1, bof0, zC, zS, implies_true, and_true, true_and, forall_const]; first | done | omega | (refine ⟨?_, ?_⟩ <;> omega)) | (simp (disch := (first | omega | (simp only [lnS, zA, zM, zG, zP]; omega))) [nc, nct, w64_of, zT, zZ, zM, rdS, at_agg, bofZ, bof1, bof0, zC, zS]; done))); cbv)
      | (refine E.q (QCalls.of_le (kg) ?_ ?_); (· (cbv; (try simp only [nc] at *); first | done | (simp; done) | (simp (disch := (first | omega | (simp only [lnS, zA, zM, zG, zP]; omega))) only [nc, nct, w64_of, zT, zZ, zM, rdS, at_agg, bofZ, bof1, bof0, zC, zS, implies_true, and_true, true_and, forall_const]; first | done | omega | (refine ⟨?_, ?_⟩ <;> omega)) | (simp (disch := (first | omega | (simp only [lnS, zA, zM, zG, zP]; omega))) [nc, nct, w64_of, zT, zZ, zM, rdS, at_agg, bofZ, bof1, bof0, zC, zS]; done))); cbv)
      | (refine E.c (SCalls.of_le (ki) ?_ ?_); (· (cbv; (try simp only [nc] at *); first | done | (simp; done) | (simp (disch := (first | omega | (simp only [lnS, zA, zM, zG, zP]; omega))) only [nc, nct, w64_of, zT, zZ, zM, rdS, at_agg, bofZ, bof1, bof0, zC, zS, implies_true, and_true, true_and, forall_const]; first | done | omega | (refine ⟨?_, ?_⟩ <;> omega)) | (simp (disch := (first | omega | (simp only [lnS, zA, zM, zG, zP]; omega))) [nc, nct, w64_of, zT, zZ, zM, rdS, at_agg, bofZ, bof1, bof0, zC, zS]; done))); cbv)
      | (refine E.q (QCalls.of_le (ki) ?_ ?_); (· (cbv; (try simp only [nc] at *); first | done | (simp; done) | (simp (disch := (first | omega | (simp only [lnS, zA, zM, zG, zP]; omega))) only [nc, nct, w64_of, zT, zZ, zM, rdS, at_agg, bofZ, bof1, bof0, zC, zS, implies_true, and_true, true_and, forall_const]; first | done | omega | (refine ⟨?_, ?_⟩ <;> omega)) | (simp (disch := (first | omega | (simp only [lnS, zA, zM, zG, zP]; omega))) [nc, nct, w64_of, zT, zZ, zM, rdS, at_agg, bofZ, bof1, bof0, zC, zS]; done))); cbv)
      | (refine E.c (SCalls.of_le (kb) ?_ ?_); (· (cbv; (try simp only [nc] at *); first | done | (simp; done) | (simp (disch := (first | omega | (simp only [lnS, zA, zM, zG, zP]; omega))) only [nc, nct, w64_of, zT, zZ, zM, rdS, at_agg, bofZ, bof1, bof0, zC, zS, implies_true, and_true, true_and, forall_const]; first | done | omega | (refine ⟨?_, ?_⟩ <;> omega)) | (simp (disch := (first | omega | (simp only [lnS, zA, zM, zG, zP]; omega))) [nc, nct, w64_of, zT, zZ, zM, rdS, at_agg, bofZ, bof1, bof0, zC, zS]; done))); cbv)
      | (refine E.q (QCalls.of_le (kb) ?_ ?_); (· (cbv; (try simp only [nc] at *); first | done | (simp; done) | (simp (disch := (first | omega | (simp only [lnS, zA, zM, zG, zP]; omega))) only [nc, nct, w64_of, zT, zZ, zM, rdS, at_agg, bofZ, bof1, bof0, zC, zS, implies_true, and_true, true_and, forall_const]; first | done | omega | (refine ⟨?_, ?_⟩ <;> omega)) | (simp (disch := (first | omega | (simp only [lnS, zA, zM, zG, zP]; omega))) [nc, nct, w64_of, zT, zZ, zM, rdS, at_agg, bofZ, bof1, bof0, zC, zS]; done))); cbv)
      | (refine E.c (SCalls.of_le (kl) ?_ ?_); (· (cbv; (try simp only [nc] at *); first | done | (simp; done) | (simp (disch := (first | omega | (simp only [lnS, zA, zM, zG, zP]; omega))) only [nc, nct, w64_of, zT, zZ, zM, rdS, at_agg, bofZ, bof1, bof0, zC, zS, implies_true, and_true, true_and, forall_const]; first | done | omega | (refine ⟨?_, ?_⟩ <;> omega)) | (simp (disch := (first | omega | (simp only [lnS, zA, zM, zG, zP]; omega))) [nc, nct, w64_of, zT, zZ, zM, rdS, at_agg, bofZ, bof1, bof0, zC, zS]; done))); cbv)
      | (refine ⟨fun _ h_s => ?_, fun _ h_s => ?_⟩ <;> (cbv; (try simp only [nc] at *); try simp (disch := (first | omega | (simp only [lnS, zA, zM, zG, zP]; omega))) only [nc, nct, w64_of, zT, zZ, zM, rdS, at_agg, bofZ, bof1, bof0, zC, zS, reduceCtorEq, Bool.not_true, Bool.not_false, zD, zE, zB, zF, zN, zO, ne_eq, zQ, zL, zR, beq_iff_eq] at h_s))
      | (refine hF ?_; intro _; clear hF)
      | (refine hF ?_; cbv; clear hF)
      | (refine ⟨fun _ => ?_, ?_⟩; (· ((try simp only [nc] at *); first | done | omega | exact ⟨by omega, rfl⟩ | (simp (disch := (first | omega | (simp only [lnS, zA, zM, zG, zP]; omega))) only [nc, nct, w64_of, zT, zZ, zM, rdS, at_agg, bofZ, bof1, bof0, zC, zS]; first | done | omega | rfl | exact ⟨by omega, rfl⟩ | (simp; done) | (simp; omega)) | (intros; trivial) | exact ⟨by first | trivial | rfl, by first | trivial | rfl | simp, by first | trivial | simp, by simp; omega, by simp; omega, by simp [AV.flat, AV.cells, AV.one]⟩)); (try (simp only [nc] at *)); (try simp (disch := (first | omega | (simp only [lnS, zA, zM, zG, zP]; omega))) only [nc, nct, w64_of, zT, zZ, zM, rdS, at_agg, bofZ, bof1, bof0, zC, zS]); (try cbv))
      | (refine E.d 9 (by decide +kernel) ?_; cbv; (fail_if_success guard_target =~ False))
      | fail
    )
    all_goals (intro _; rfl)
  · rw [if_neg h]
    have kl := plook_no (γ := γ) g hg h
    refine Pure.go (ty := ty) ty_eq mo Tryd.func10 rfl Tryd.ntmps10 Tryd.results10 Tryd.call10 (by simp) fun P C CQ D W F E hF => ?_
    cbv
    repeat' (first
      | (refine E.c (SCalls.of_le (kl) ?_ ?_); (· (cbv; (try simp only [nc] at *); first | done | (simp; done) | (simp (disch := (first | omega | (simp only [lnS, zA, zM, zG, zP]; omega))) only [nc, nct, w64_of, zT, zZ, zM, rdS, at_agg, bofZ, bof1, bof0, zC, zS, implies_true, and_true, true_and, forall_const]; first | done | omega | (refine ⟨?_, ?_⟩ <;> omega)) | (simp (disch := (first | omega | (simp only [lnS, zA, zM, zG, zP]; omega))) [nc, nct, w64_of, zT, zZ, zM, rdS, at_agg, bofZ, bof1, bof0, zC, zS]; done))); cbv)
      | (refine ⟨fun _ h_s => ?_, fun _ h_s => ?_⟩ <;> (cbv; (try simp only [nc] at *); try simp (disch := (first | omega | (simp only [lnS, zA, zM, zG, zP]; omega))) only [nc, nct, w64_of, zT, zZ, zM, rdS, at_agg, bofZ, bof1, bof0, zC, zS, reduceCtorEq, Bool.not_true, Bool.not_false, zD, zE, zB, zF, zN, zO, ne_eq, zQ, zL, zR, beq_iff_eq] at h_s))
      | (refine hF ?_; intro _; clear hF)
      | (refine hF ?_; cbv; clear hF)
      | (refine ⟨fun _ => ?_, ?_⟩; (· ((try simp only [nc] at *); first | done | omega | exact ⟨by omega, rfl⟩ | (simp (disch := (first | omega | (simp only [lnS, zA, zM, zG, zP]; omega))) only [nc, nct, w64_of, zT, zZ, zM, rdS, at_agg, bofZ, bof1, bof0, zC, zS]; first | done | omega | rfl | exact ⟨by omega, rfl⟩ | (simp; done) | (simp; omega)) | (intros; trivial) | exact ⟨by first | trivial | rfl, by first | trivial | rfl | simp, by first | trivial | simp, by simp; omega, by simp; omega, by simp [AV.flat, AV.cells, AV.one]⟩)); (try (simp only [nc] at *)); (try simp (disch := (first | omega | (simp only [lnS, zA, zM, zG, zP]; omega))) only [nc, nct, w64_of, zT, zZ, zM, rdS, at_agg, bofZ, bof1, bof0, zC, zS]); (try cbv))
      | (refine E.d 9 (by decide +kernel) ?_; cbv; (fail_if_success guard_target =~ False))
      | fail
    )
    all_goals simp [ids, LV.of, LV.l]
theorem pclosedG_ok (hγ : γ 0 = some tabAV) (g : Gr) (hg : Rd g) (l : List EId) (hl : (l.length : Int) ≤ 9223372036854775807) : Pure Tryd.prog γ false 27 [aGr g, .vs 2 fun _ => ids l] (.b fun _ => closedG g l) := by
  unfold closedG
  by_cases h : GOk g
  · rw [decide_eq_true h]
    have hn := (viewG_wf h).small
    have hx := h.short.init
    have kl := plook_yes (γ := γ) hγ g hg h
    have kc := pclosed_ok (γ := γ) hγ g (idsG g) (nG g) (backF (viewG g) (nG g)) l (by show nG g ≤ 62; exact hn) hx (backF_fits (viewG g) hn) hl
    generalize closedP g _ _ _ l = cc at *
    generalize backF (viewG g) (nG g) = bk at *
    refine Pure.go (ty := ty) ty_eq mo Tryd.func27 rfl Tryd.ntmps27 Tryd.results27 Tryd.call27 (by simp) fun P C CQ D W F E hF => ?_
    cbv
    repeat' (first
      | (refine E.c (SCalls.of_le (kc) ?_ ?_); (· (cbv; (try simp only [nc] at *); first | done | (simp; done) | (simp (disch := (first | omega | (simp only [lnS, zA, zM, zG, zP]; omega))) only [nc, nct, w64_of, zT, zZ, zM, rdS, at_agg, bofZ, bof1, bof0, zC, zS, implies_true, and_true, true_and, forall_const]; first | done | omega | (refine ⟨?_, ?_⟩ <;> omega)) | (simp (disch := (first | omega | (simp only [lnS, zA, zM, zG, zP]; omega))) [nc, nct, w64_of, zT, zZ, zM, rdS, at_agg, bofZ, bof1, bof0, zC, zS]; done))); cbv)
      | (refine E.c (SCalls.of_le (kl) ?_ ?_); (· (cbv; (try simp only [nc] at *); first | done | (simp; done) | (simp (disch := (first | omega | (simp only [lnS, zA, zM, zG, zP]; omega))) only [nc, nct, w64_of, zT, zZ, zM, rdS, at_agg, bofZ, bof1, bof0, zC, zS, implies_true, and_true, true_and, forall_const]; first | done | omega | (refine ⟨?_, ?_⟩ <;> omega)) | (simp (disch := (first | omega | (simp only [lnS, zA, zM, zG, zP]; omega))) [nc, nct, w64_of, zT, zZ, zM, rdS, at_agg, bofZ, bof1, bof0, zC, zS]; done))); cbv)
      | (refine ⟨fun _ h_s => ?_, fun _ h_s => ?_⟩ <;> (cbv; (try simp only [nc] at *); try simp (disch := (first | omega | (simp only [lnS, zA, zM, zG, zP]; omega))) only [nc, nct, w64_of, zT, zZ, zM, rdS, at_agg, bofZ, bof1, bof0, zC, zS, reduceCtorEq, Bool.not_true, Bool.not_false, zD, zE, zB, zF, zN, zO, ne_eq, zQ, zL, zR, beq_iff_eq] at h_s))
      | (refine hF ?_; intro _; clear hF)
      | (refine hF ?_; cbv; clear hF)
      | (refine ⟨fun _ => ?_, ?_⟩; (· ((try simp only [nc] at *); first | done | omega | exact ⟨by omega, rfl⟩ | (simp (disch := (first | omega | (simp only [lnS, zA, zM, zG, zP]; omega))) only [nc, nct, w64_of, zT, zZ, zM, rdS, at_agg, bofZ, bof1, bof0, zC, zS]; first | done | omega | rfl | exact ⟨by omega, rfl⟩ | (simp; done) | (simp; omega)) | (intros; trivial) | exact ⟨by first | trivial | rfl, by first | trivial | rfl | simp, by first | trivial | simp, by simp; omega, by simp; omega, by simp [AV.flat, AV.cells, AV.one]⟩)); (try (simp only [nc] at *)); (try simp (disch := (first | omega | (simp only [lnS, zA, zM, zG, zP]; omega))) only [nc, nct, w64_of, zT, zZ, zM, rdS, at_agg, bofZ, bof1, bof0, zC, zS]); (try cbv))
      | fail
    )
    all_goals rfl
  · rw [decide_eq_false h]
    have kl := plook_no (γ := γ) g hg h
    refine Pure.go (ty := ty) ty_eq mo Tryd.func27 rfl Tryd.ntmps27 Tryd.results27 Tryd.call27 (by simp) fun P C CQ D W F E hF => ?_
    cbv
    repeat' (first
      | (refine E.c (SCalls.of_le (kl) ?_ ?_); (· (cbv; (try simp only [nc] at *); first | done | (simp; done) | (simp (disch := (first | omega | (simp only [lnS, zA, zM, zG, zP]; omega))) only [nc, nct, w64_of, zT, zZ, zM, rdS, at_agg, bofZ, bof1, bof0, zC, zS, implies_true, and_true, true_and, forall_const]; first | done | omega | (refine ⟨?_, ?_⟩ <;> omega)) | (simp (disch := (first | omega | (simp only [lnS, zA, zM, zG, zP]; omega))) [nc, nct, w64_of, zT, zZ, zM, rdS, at_agg, bofZ, bof1, bof0, zC, zS]; done))); cbv)
      | (refine ⟨fun _ h_s => ?_, fun _ h_s => ?_⟩ <;> (cbv; (try simp only [nc] at *); try simp (disch := (first | omega | (simp only [lnS, zA, zM, zG, zP]; omega))) only [nc, nct, w64_of, zT, zZ, zM, rdS, at_agg, bofZ, bof1, bof0, zC, zS, reduceCtorEq, Bool.not_true, Bool.not_false, zD, zE, zB, zF, zN, zO, ne_eq, zQ, zL, zR, beq_iff_eq] at h_s))
      | (refine hF ?_; intro _; clear hF)
      | (refine hF ?_; cbv; clear hF)
      | (refine ⟨fun _ => ?_, ?_⟩; (· ((try simp only [nc] at *); first | done | omega | exact ⟨by omega, rfl⟩ | (simp (disch := (first | omega | (simp only [lnS, zA, zM, zG, zP]; omega))) only [nc, nct, w64_of, zT, zZ, zM, rdS, at_agg, bofZ, bof1, bof0, zC, zS]; first | done | omega | rfl | exact ⟨by omega, rfl⟩ | (simp; done) | (simp; omega)) | (intros; trivial) | exact ⟨by first | trivial | rfl, by first | trivial | rfl | simp, by first | trivial | simp, by simp; omega, by simp; omega, by simp [AV.flat, AV.cells, AV.one]⟩)); (try (simp only [nc] at *)); (try simp (disch := (first | omega | (simp only [lnS, zA, zM, zG, zP]; omega))) only [nc, nct, w64_of, zT, zZ, zM, rdS, at_agg, bofZ, bof1, bof0, zC, zS]); (try cbv))
      | fail
    )
    all_goals simp [ids, LV.of, LV.l]
end Go.AL.Rl

namespace Go.AL.Rl
open Go Go.AL Go.Proofs
set_option maxRecDepth 100000
set_option maxHeartbeats 3200000
variable {γ : Nat → Option AV}

theorem pclose_ok (hγ : γ 0 = some tabAV) (g : Gr) (hg : Rd g) (l : List EId) (hl : (l.length : Int) ≤ 9223372036854775807) : Pure Tryd.prog γ false 7 [aGr g, .vs 2 fun _ => ids l] (.vs 2 fun _ => ids (closeM g l)) := by
  unfold closeM
  by_cases h : GOk g
  · rw [if_pos h]
    have hn := (viewG_wf h).small
    have hx := h.short.init
    have hf := backF_fits (viewG g) hn
    have kl := plook_yes (γ := γ) hγ g hg h
    have kb := fun d => pbit_ok (γ := γ) g (idsG g) (nG g : Nat) (backF (viewG g) (nG g)) d (by show nG g ≤ 62; exact hn)
    have kg := pgrow_ok (γ := γ) hγ g (idsG g) (nG g) (backF (viewG g) (nG g)) (maskT (bitP (idsG g) g.init.length) l l.length) hf
    have kt := ptell_ok (γ := γ) hγ g (idsG g) (nG g : Nat) (backF (viewG g) (nG g)) (growM (nG g) (backF (viewG g) (nG g)) (maskT (bitP (idsG g) g.init.length) l l.length)) (by show nG g ≤ 62; exact hn) hx (fun j hj => by
      rw [ev_bit, Bool.and_eq_true] at hj
      exact grow_lt hf (fun j hj => maskT_lt (fun d j => bitP_lt) l _ j hj) hj.2)
    generalize bitP (idsG g) g.init.length = b at *
    have h0 : maskT b l 0 = 0#64 := rfl
    have hS : ∀ k, maskT b l (k + 1) = maskT b l k ||| b (l.getD k id0) := fun _ => rfl
    generalize maskT b l = M at *
    generalize tellM _ _ = T at *
    generalize growM _ _ _ = m2 at *
    generalize backF (viewG g) (nG g) = bk at *
    refine Pure.go (ty := ty) ty_eq mo Tryd.func7 rfl Tryd.ntmps7 Tryd.results7 Tryd.call7 (by simp) fun P C CQ D W F E hF => ?_
    cbv
    repeat' (first
      | (refine E.c (SCalls.of_le (kl) ?_ ?_); (· (cbv; (try simp only [nc] at *); first | done | (simp; done) | (simp (disch := (first | omega | (simp only [lnS, zA, zM, zG, zP]; omega))) only [nc, nct, w64_of, zT, zZ, zM, rdS, at_agg, bofZ, bof1, bof0, zC, zS, implies_true, and_true, true_and, forall_const]; first | done | omega | (refine ⟨?_, ?_⟩ <;> omega)) | (simp (disch := (first | omega | (simp only [lnS, zA, zM, zG, zP]; omega))) [nc, nct, w64_of, zT, zZ, zM, rdS, at_agg, bofZ, bof1, bof0, zC, zS]; done))); cbv)
      | (refine ⟨fun _ h_s => ?_, fun _ h_s => ?_⟩ <;> (cbv; (try simp only [nc] at *); try simp (disch := (first | omega | (simp only [lnS, zA, zM, zG, zP]; omega))) only [nc, nct, w64_of, zT, zZ, zM, rdS, at_agg, bofZ, bof1, bof0, zC, zS, reduceCtorEq, Bool.not_true, Bool.not_false, zD, zE, zB, zF, zN, zO, ne_eq, zQ, zL, zR, beq_iff_eq] at h_s))
      | (refine hF ?_; intro _; clear hF)
      | (refine hF ?_; cbv; clear hF)
      | (refine ⟨fun _ => ?_, ?_⟩; (· ((try simp only [nc] at *); first | done | omega | exact ⟨by omega, rfl⟩ | (simp (disch := (first | omega | (simp only [lnS, zA, zM, zG, zP]; omega))) only [nc, nct, w64_of, zT, zZ, zM, rdS, at_agg, bofZ, bof1, bof0, zC, zS]; first | done | omega | rfl | exact ⟨by omega, rfl⟩ | (simp; done) | (simp; omega)) | (intros; trivial))); (try (simp only [nc] at *)); (try simp (disch := (first | omega | (simp only [lnS, zA, zM, zG, zP]; omega))) only [nc, nct, w64_of, zT, zZ, zM, rdS, at_agg, bofZ, bof1, bof0, zC, zS]); (try cbv))
      | (refine E.d 4 (by decide +kernel) ?_; cbv; (fail_if_success guard_target =~ False))
      | fail
    )
    refine E.loopS (ι := Nat) (fun i => i ≤ l.length) (fun i => l.length - i) (fun i => [(19, .i fun _ => ((i : Nat) : Int)), (7, .u fun _ => M i)]) (fun i h => h) 0 (fun _ => by first | rfl | simp) (Nat.zero_le _) ?_ fun i hi I hI => ?_
    · cbv; simp [h0]
    cbv
    have kbi := kb (l.getD i id0)
    have hSi := hS i
    repeat' (first
      | (refine hI (i + 1) ?_ ?_ ?_; rotate_left 1; (· ((try simp only [nc] at *); omega)); (cbv; clear hI; (try clear hF); (try simp only [nc] at *); (try simp (disch := (first | omega | (simp only [lnS, zA, zM, zG, zP]; omega))) only [nc, nct, w64_of, zT, zZ, zM, rdS, at_agg, bofZ, bof1, bof0, zC, zS, implies_true, and_true, true_and, forall_const])); rotate_left 1; (try ((try simp only [nc] at *); omega)))
      | (refine E.c (SCalls.of_le (kbi) ?_ ?_); (· (cbv; (try simp only [nc] at *); first | done | (simp; done) | (simp (disch := (first | omega | (simp only [lnS, zA, zM, zG, zP]; omega))) only [nc, nct, w64_of, zT, zZ, zM, rdS, at_agg, bofZ, bof1, bof0, zC, zS, implies_true, and_true, true_and, forall_const]; first | done | omega | (refine ⟨?_, ?_⟩ <;> omega)) | (simp (disch := (first | omega | (simp only [lnS, zA, zM, zG, zP]; omega))) [nc, nct, w64_of, zT, zZ, zM, rdS, at_agg, bofZ, bof1, bof0, zC, zS]; done))); cbv)
      | (refine ⟨fun _ h_s => ?_, fun _ h_s => ?_⟩ <;> (cbv; (try simp only [nc] at *); try simp (disch := (first | omega | (simp only [lnS, zA, zM, zG, zP]; omega))) only [nc, nct, w64_of, zT, zZ, zM, rdS, at_agg, bofZ, bof1, bof0, zC, zS, reduceCtorEq, Bool.not_true, Bool.not_false, zD, zE, zB, zF, zN, zO, ne_eq, zQ, zL, zR, beq_iff_eq] at h_s))
      | (refine hF ?_; intro _; clear hF)
      | (refine hF ?_; cbv; clear hF)
      | (refine ⟨fun _ => ?_, ?_⟩; (· ((try simp only [nc] at *); first | done | omega | exact ⟨by omega, rfl⟩ | (simp (disch := (first | omega | (simp only [lnS, zA, zM, zG, zP]; omega))) only [nc, nct, w64_of, zT, zZ, zM, rdS, at_agg, bofZ, bof1, bof0, zC, zS]; first | done | omega | rfl | exact ⟨by omega, rfl⟩ | (simp; done) | (simp; omega)) | (intros; trivial))); (try (simp only [nc] at *)); (try simp (disch := (first | omega | (simp only [lnS, zA, zM, zG, zP]; omega))) only [nc, nct, w64_of, zT, zZ, zM, rdS, at_agg, bofZ, bof1, bof0, zC, zS]); (try cbv))
      | (refine E.d 4 (by decide +kernel) ?_; cbv; (fail_if_success guard_target =~ False))
      | fail
    )
    · exact ⟨hSi.symm, by push_cast; rfl⟩
    · have e : i = l.length := by ((try simp only [nc] at *); omega)
      subst e
      repeat' (first
        | (refine E.c (SCalls.of_le (kt) ?_ ?_); (· (cbv; (try simp only [nc] at *); first | done | (simp; done) | (simp (disch := (first | omega | (simp only [lnS, zA, zM, zG, zP]; omega))) only [nc, nct, w64_of, zT, zZ, zM, rdS, at_agg, bofZ, bof1, bof0, zC, zS, implies_true, and_true, true_and, forall_const]; first | done | omega | (refine ⟨?_, ?_⟩ <;> omega)) | (simp (disch := (first | omega | (simp only [lnS, zA, zM, zG, zP]; omega))) [nc, nct, w64_of, zT, zZ, zM, rdS, at_agg, bofZ, bof1, bof0, zC, zS]; done))); cbv)
        | (refine E.q (QCalls.of_le (kt) ?_ ?_); (· (cbv; (try simp only [nc] at *); first | done | (simp; done) | (simp (disch := (first | omega | (simp only [lnS, zA, zM, zG, zP]; omega))) only [nc, nct, w64_of, zT, zZ, zM, rdS, at_agg, bofZ, bof1, bof0, zC, zS, implies_true, and_true, true_and, forall_const]; first | done | omega | (refine ⟨?_, ?_⟩ <;> omega)) | (simp (disch := (first | omega | (simp only [lnS, zA, zM, zG, zP]; omega))) [nc, nct, w64_of, zT, zZ, zM, rdS, at_agg, bofZ, bof1, bof0, zC, zS]; done))); cbv)
        | (refine E.c (SCalls.of_le (kg) ?_ ?_); (· (cbv; (try simp only [nc] at *); first | done | (simp; done) | (simp (disch := (first | omega | (simp only [lnS, zA, zM, zG, zP]; omega))) only [nc, nct, w64_of, zT, zZ, zM, rdS, at_agg, bofZ, bof1, bof0, zC, zS, implies_true, and_true, true_and, forall_const]; first | done | omega | (refine ⟨?_, ?_⟩ <;> omega)) | (simp (disch := (first | omega | (simp only [lnS, zA, zM, zG, zP]; omega))) [nc, nct, w64_of, zT, zZ, zM, rdS, at_agg, bofZ, bof1, bof0, zC, zS]; done))); cbv)
        | (refine E.q (QCalls.of_le (kg) ?_ ?_); (· (cbv; (try simp only [nc] at *); first | done | (simp; done) | (simp (disch := (first | omega | (simp only [lnS, zA, zM, zG, zP]; omega))) only [nc, nct, w64_of, zT, zZ, zM, rdS, at_agg, bofZ, bof1, bof0, zC, zS, implies_true, and_true, true_and, forall_const]; first | done | omega | (refine ⟨?_, ?_⟩ <;> omega)) | (simp (disch := (first | omega | (simp only [lnS, zA, zM, zG, zP]; omega))) [nc, nct, w64_of, zT, zZ, zM, rdS, at_agg, bofZ, bof1, bof0, zC, zS]; done))); cbv)
        | (refine ⟨fun _ h_s => ?_, fun _ h_s => ?_⟩ <;> (cbv; (try simp only [nc] at *); try simp (disch := (first | omega | (simp only [lnS, zA, zM, zG, zP]; omega))) only [nc, nct, w64_of, zT, zZ, zM, rdS, at_agg, bofZ, bof1, bof0, zC, zS, reduceCtorEq, Bool.not_true, Bool.not_false, zD, zE, zB, zF, zN, zO, ne_eq, zQ, zL, zR, beq_iff_eq] at h_s))
        | (refine hF ?_; intro _; clear hF)
        | (refine hF ?_; cbv; clear hF)
        | (refine ⟨fun _ => ?_, ?_⟩; (· ((try simp only [nc] at *); first | done | omega | exact ⟨by omega, rfl⟩ | (simp (disch := (first | omega | (simp only [lnS, zA, zM, zG, zP]; omega))) only [nc, nct, w64_of, zT, zZ, zM, rdS, at_agg, bofZ, bof1, bof0, zC, zS]; first | done | omega | rfl | exact ⟨by omega, rfl⟩ | (simp; done) | (simp; omega)) | (intros; trivial))); (try (simp only [nc] at *)); (try simp (disch := (first | omega | (simp only [lnS, zA, zM, zG, zP]; omega))) only [nc, nct, w64_of, zT, zZ, zM, rdS, at_agg, bofZ, bof1, bof0, zC, zS]); (try cbv))
        | (refine E.d 4 (by decide +kernel) ?_; cbv; (fail_if_success guard_target =~ False))
        | fail
      )
      all_goals (intro _; rfl)
  · rw [if_neg h]
    have kl := plook_no (γ := γ) g hg h
    refine Pure.go (ty := ty) ty_eq mo Tryd.func7 rfl Tryd.ntmps7 Tryd.results7 Tryd.call7 (by simp) fun P C CQ D W F E hF => ?_
    cbv
    repeat' (first
      | (refine E.c (SCalls.of_le (kl) ?_ ?_); (· (cbv; (try simp only [nc] at *); first | done | (simp; done) | (simp (disch := (first | omega | (simp only [lnS, zA, zM, zG, zP]; omega))) only [nc, nct, w64_of, zT, zZ, zM, rdS, at_agg, bofZ, bof1, bof0, zC, zS, implies_true, and_true, true_and, forall_const]; first | done | omega | (refine ⟨?_, ?_⟩ <;> omega)) | (simp (disch := (first | omega | (simp only [lnS, zA, zM, zG, zP]; omega))) [nc, nct, w64_of, zT, zZ, zM, rdS, at_agg, bofZ, bof1, bof0, zC, zS]; done))); cbv)
      | (refine ⟨fun _ h_s => ?_, fun _ h_s => ?_⟩ <;> (cbv; (try simp only [nc] at *); try simp (disch := (first | omega | (simp only [lnS, zA, zM, zG, zP]; omega))) only [nc, nct, w64_of, zT, zZ, zM, rdS, at_agg, bofZ, bof1, bof0, zC, zS, reduceCtorEq, Bool.not_true, Bool.not_false, zD, zE, zB, zF, zN, zO, ne_eq, zQ, zL, zR, beq_iff_eq] at h_s))
      | (refine hF ?_; intro _; clear hF)
      | (refine hF ?_; cbv; clear hF)
      | (refine ⟨fun _ => ?_, ?_⟩; (· ((try simp only [nc] at *); first | done | omega | exact ⟨by omega, rfl⟩ | (simp (disch := (first | omega | (simp only [lnS, zA, zM, zG, zP]; omega))) only [nc, nct, w64_of, zT, zZ, zM, rdS, at_agg, bofZ, bof1, bof0, zC, zS]; first | done | omega | rfl | exact ⟨by omega, rfl⟩ | (simp; done) | (simp; omega)) | (intros; trivial))); (try (simp only [nc] at *)); (try simp (disch := (first | omega | (simp only [lnS, zA, zM, zG, zP]; omega))) only [nc, nct, w64_of, zT, zZ, zM, rdS, at_agg, bofZ, bof1, bof0, zC, zS]); (try cbv))
      | (refine E.d 4 (by decide +kernel) ?_; cbv; (fail_if_success guard_target =~ False))
      | fail
    )
    all_goals simp [ids, LV.of, LV.l]
theorem clone_ok (l : List Int) (hl : (l.length : Int) ≤ 17592186044416) : Pure Tryd.prog γ false 29 [.vs 1 fun _ => is l] (.vs 1 fun _ => is l) := by
  refine Pure.go (ty := ty) ty_eq mo Tryd.func29 rfl Tryd.ntmps29 Tryd.results29 Tryd.call29 (by simp) fun P C CQ D W F E hF => ?_
  cbv
  repeat' (first
    | (refine ⟨fun _ h_s => ?_, fun _ h_s => ?_⟩ <;> (cbv; (try simp only [nc] at *); try simp (disch := (first | omega | (simp only [lnS, zA, zM, zG, zP]; omega))) only [nc, nct, w64_of, zT, zZ, zM, rdS, at_agg, bofZ, bof1, bof0, zC, zS, reduceCtorEq, Bool.not_true, Bool.not_false, zD, zE, zB, zF, zN, zO, ne_eq, zQ, zL, zR, beq_iff_eq] at h_s))
    | (refine hF ?_; intro _; clear hF)
    | (refine hF ?_; cbv; clear hF)
    | (refine ⟨fun _ => ?_, ?_⟩; (· ((try simp only [nc] at *); first | done | omega | exact ⟨by omega, rfl⟩ | (simp (disch := (first | omega | (simp only [lnS, zA, zM, zG, zP]; omega))) only [nc, nct, w64_of, zT, zZ, zM, rdS, at_agg, bofZ, bof1, bof0, zC, zS]; first | done | omega | rfl | exact ⟨by omega, rfl⟩ | (simp; done) | (simp; omega)) | (intros; trivial))); (try (simp only [nc] at *)); (try simp (disch := (first | omega | (simp only [lnS, zA, zM, zG, zP]; omega))) only [nc, nct, w64_of, zT, zZ, zM, rdS, at_agg, bofZ, bof1, bof0, zC, zS]); (try cbv))
    | fail
  )
  intro c hc
  cbv
  repeat' (first
    | (refine ⟨fun _ h_s => ?_, fun _ h_s => ?_⟩ <;> (cbv; (try simp only [nc] at *); try simp (disch := (first | omega | (simp only [lnS, zA, zM, zG, zP]; omega))) only [nc, nct, w64_of, zT, zZ, zM, rdS, at_agg, bofZ, bof1, bof0, zC, zS, reduceCtorEq, Bool.not_true, Bool.not_false, zD, zE, zB, zF, zN, zO, ne_eq, zQ, zL, zR, beq_iff_eq] at h_s))
    | (refine hF ?_; intro _; clear hF)
    | (refine hF ?_; cbv; clear hF)
    | (refine ⟨fun _ => ?_, ?_⟩; (· ((try simp only [nc] at *); first | done | omega | exact ⟨by omega, rfl⟩ | (simp (disch := (first | omega | (simp only [lnS, zA, zM, zG, zP]; omega))) only [nc, nct, w64_of, zT, zZ, zM, rdS, at_agg, bofZ, bof1, bof0, zC, zS]; first | done | omega | rfl | exact ⟨by omega, rfl⟩ | (simp; done) | (simp; omega)) | (intros; trivial))); (try (simp only [nc] at *)); (try simp (disch := (first | omega | (simp only [lnS, zA, zM, zG, zP]; omega))) only [nc, nct, w64_of, zT, zZ, zM, rdS, at_agg, bofZ, bof1, bof0, zC, zS]); (try cbv))
    | fail
  )
  · exact hc () (by simpa using h_s)
  · refine ⟨fun _ => ⟨by simp; omega, by simp; omega, fun v hv => ?_⟩, ?_⟩
    · unfold is at hv
      rw [LV.l_of] at hv
      obtain ⟨x, _, rfl⟩ := List.mem_map.1 hv
      rfl
    · refine hF ?_
      cbv
      intro _
      exact ⟨rfl, by simp, by rw [List.drop_zero, List.take_of_length_le (Nat.le_refl _)]⟩
end Go.AL.Rl
