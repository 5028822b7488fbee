import Derived.Test.YtjoggeafcdfidaaRm4
set_option linter.unusedVariables false
set_option linter.unusedSimpArgs false
namespace Go.AL.Rl
open Go Go.AL Go.Proofs
set_option maxRecDepth 100000
variable {γ : Nat → Option AV}

inductive InSeq (V : Vw) (n w : Nat) : Nat → Prop
 | base : InSeq V n w w
 | step {i : Nat} : i < n → (V.ev.getD i ev0).kind = 3 → InSeq V n w (V.fr.getD i 0).toNat → InSeq V n w i
theorem InSeq.lt {V : Vw} {n w : Nat} (hw : w < n) {i : Nat} (h : InSeq V n w i) : i < n := by
 cases h with
 | base => exact hw
 | step h _ _ => exact h
noncomputable def seqM (V : Vw) (n w : Nat) : BitVec 64 := maskTo (fun i => @decide (InSeq V n w i) (Classical.propDecidable _)) n
theorem seq_bit {V : Vw} {n w : Nat} (hn : n ≤ 64) (hw : w < n) (j : Nat) : (seqM V n w).getLsbD j = true ↔ InSeq V n w j := by
 unfold seqM
 simp only [mask_bit _ _ hn, Bool.and_eq_true, decide_eq_true_eq]
 exact ⟨fun h => h.2, fun h => ⟨h.lt hw, h⟩⟩
theorem seq_unique {V : Vw} {n w : Nat} (hn : n ≤ 64) (hw : w < n) {s : BitVec 64} (h1 : s.getLsbD w = true) (h2 : ∀ j, s.getLsbD j = true → InSeq V n w j)
  (h3 : ∀ i < n, (V.ev.getD i ev0).kind = 3 → s.getLsbD (V.fr.getD i 0).toNat = true → s.getLsbD i = true) : s = seqM V n w := by
 have key : ∀ j, InSeq V n w j → s.getLsbD j = true := by
  intro j h
  induction h with
  | base => exact h1
  | step hi hk _ ih => exact h3 _ hi hk ih
 apply BitVec.eq_of_getLsbD_eq
 intro j _
 rw [Bool.eq_iff_iff, seq_bit hn hw]
 exact ⟨h2 j, key j⟩
/-- how many bits -/
def cntB : Nat → BitVec 64 → Nat
 | 0, _ => 0
 | k + 1, x => cntB k x + if x.getLsbD k = true then 1 else 0
theorem cntB_le (x : BitVec 64) : ∀ k, cntB k x ≤ k
 | 0 => Nat.le_refl _
 | k + 1 => by unfold cntB; have := cntB_le x k; split <;> omega
theorem cntB_mono {x y : BitVec 64} (h : ∀ j, x.getLsbD j = true → y.getLsbD j = true) : ∀ k, cntB k x ≤ cntB k y
 | 0 => Nat.le_refl _
 | k + 1 => by
  unfold cntB
  have := cntB_mono h k
  have := h k
  split <;> split <;> first | omega | simp_all
theorem cntB_lt {x y : BitVec 64} (h : ∀ j, x.getLsbD j = true → y.getLsbD j = true) {i : Nat} (h1 : x.getLsbD i = false) (h2 : y.getLsbD i = true) : ∀ k, i < k → cntB k x < cntB k y
 | 0, hk => by omega
 | k + 1, hk => by
  unfold cntB
  by_cases e : i = k
  ·subst e
   have := cntB_mono h i
   rw [h1, h2]; simp; omega
  ·have := cntB_lt h h1 h2 k (by omega)
   have := h k
   split <;> split <;> first | omega | simp_all
theorem cntB_ne {x y : BitVec 64} (h : ∀ j, x.getLsbD j = true → y.getLsbD j = true) (hne : x ≠ y) : cntB 64 x < cntB 64 y := by
 have : ∃ i, i < 64 ∧ x.getLsbD i ≠ y.getLsbD i := by
  apply Classical.byContradiction
  intro hc
  apply hne
  apply BitVec.eq_of_getLsbD_eq
  intro i hi
  apply Classical.byContradiction
  intro hd
  exact hc ⟨i, hi, hd⟩
 obtain ⟨i, hi, hd⟩ := this
 have hx : x.getLsbD i = false := by
  cases hx : x.getLsbD i with
  | false => rfl
  | true => rw [hx, h i hx] at hd; exact absurd rfl hd
 have hy : y.getLsbD i = true := by
  cases hy : y.getLsbD i with
  | true => rfl
  | false => rw [hx, hy] at hd; exact absurd rfl hd
 exact cntB_lt h hx hy 64 hi

/-- an EvUpdate that read from one of these -/
def upSeq (V : Vw) (s : BitVec 64) (i : Nat) : Bool := decide ((V.ev.getD i ev0).kind = 3) && s.getLsbD (V.fr.getD i 0).toNat
theorem getLsb_and1 (x : BitVec 64) (k : Nat) : (!decide ((x >>> k) &&& 1#64 = 0#64)) = x.getLsbD k := by
 cases h : x.getLsbD k with
 | false => simp [and_one_zero, h]
 | true =>
  have : ¬ (x >>> k) &&& 1#64 = 0#64 := fun h2 => by rw [and_one_zero, h] at h2; cases h2
  simp [this]
theorem seq1_ok (V : Vw) {n : Nat} (hV : Wf V n) (s : BitVec 64) (a : Nat) (ha : a < n) : Pure Try.prog γ false 98 [.i fun _ => (a : Int), .vp (fun _ => pVw V) 0, .vp (fun _ => .u fun _ => s) 0] (.b fun _ => upSeq V s a) := by
 have h1 := hV.ev
 have h2 := hV.fr
 have h3 := hV.frl a ha
 have h4 := hV.frg a ha
 have h5 := hV.small
 refine Pure.go (ty := ty) ty_eq mo Try.func98 rfl Try.ntmps98 Try.results98 Try.call98 (by simp) fun P C CQ D W F E hF => ?_
 cbv
 repeat' (first
  |(refine ⟨fun _ h_s=>?_,fun _ h_s=>?_⟩<;>(cbv;(try simp only [nc] at *);try simp (disch:=(first|omega|(simp only [lnS];omega))) only [rdT,rdS,reduceCtorEq,trT] at h_s))
  |(refine hF ?_;intro _;clear hF)
  |(refine hF ?_;cbv;clear hF)
  |(refine ⟨fun _=>?_,?_⟩;(· ((try simp only [nc] at *);first|done|omega|exact ⟨by omega,rfl⟩|(simp (disch:=(first|omega|(simp only [lnS];omega))) only [rdT,rdS];first|done|omega|rfl|exact ⟨by omega,rfl⟩|(simp;done)|(simp;omega))|(intros;trivial)));(try (simp only [nc] at *));(try simp (disch:=(first|omega|(simp only [lnS];omega))) only [rdT,rdS]);(try cbv))
  |(refine E.d 19 (by decide +kernel) ?_;cbv;(fail_if_success guard_target =~ False))
  | fail
 )
 all_goals (try simp only [nc] at *)
 all_goals (try simp (disch:=(first|omega|(simp only [lnS];omega))) only [rdT,rdS])
 ·have hsh : (BitVec.ofInt 64 (V.fr.getD a 0)).toNat = (V.fr.getD a 0).toNat := bofZ (h4 (by simp_all [readsM])) (by omega)
  have e : (V.ev.getD a ev0).kind = 3 := by assumption
  rw [upSeq, ← getLsb_and1]
  (try rw [hsh])
  simp only [e, decide_true, Bool.true_and, decide_not]
 ·simp_all [upSeq]
theorem sequence_ok (V : Vw) {n : Nat} (hV : Wf V n) (w : Nat) (hw : w < n) : Pure Try.prog γ false 78 [pVw V, .i fun _ => (w : Int)] (.u fun _ => seqM V n w) := by
 have h5 := hV.small
 have h64 : n ≤ 64 := by omega
 have hbw := bofInt (k := w) (by omega)
 refine Pure.go (ty := ty) ty_eq mo Try.func78 rfl Try.ntmps78 Try.results78 Try.call78 (by simp) fun P C CQ D W F E hF => ?_
 cbv
 refine E.loopS (ι:=BitVec 64 × BitVec 64) (fun q=>(∀ j,q.1.getLsbD j = true → q.2.getLsbD j = true)∧(∀ j,q.2.getLsbD j = true → InSeq V n w j)∧q.2.getLsbD w = true∧(∀ i < n,upSeq V q.1 i = true → q.2.getLsbD i = true)) (fun q=>64 - cntB 64 q.1) (fun q=>[(6,.u fun _=>q.1)]) (fun q h=>h.set 1 (.box (.u fun _=>q.2))) (0#64,1#64 <<< w) (fun _=>rfl) ?_ ?_ fun q hq I hI=>?_
 ·simp only
  refine ⟨fun j hj => (by simp at hj), fun j hj => ?_, ?_, fun i hi h => (by simp [upSeq] at h)⟩
  ·rw [BitVec.getLsbD_shiftLeft, BitVec.getLsbD_one] at hj
   simp at hj
   obtain rfl : j = w := by omega
   exact .base
  ·rw [BitVec.getLsbD_shiftLeft, BitVec.getLsbD_one]; simp; omega
 ·cbv
  simp only [hbw, bof0, bof1]
  simp
 obtain ⟨g, a⟩ := q
 simp only at hq
 obtain ⟨hq1, hq2, hq3, hq4⟩ := hq
 cbv
 have hm := dmask3_ok V hV 98 (fun _ => pVw V) (fun _ => .u fun _ => a) (upSeq V a) fun k hk => seq1_ok (γ := γ) V hV a k hk
 repeat' (first
  |(refine E.c (SCalls.of_bare (hm) rfl ?_ ?_);(· (cbv;(try simp only [nc] at *);first|done|(simp;done)|(simp (disch:=(first|omega|(simp only [lnS];omega))) only [rdT,rdS,anT];first|done|omega|(refine ⟨?_,?_⟩<;>omega))|(simp (disch:=(first|omega|(simp only [lnS];omega))) [rdT,rdS];done)));cbv)
  |(refine E.q (QCalls.of_bare (hm) rfl ?_ ?_);(· (cbv;(try simp only [nc] at *);first|done|(simp;done)|(simp (disch:=(first|omega|(simp only [lnS];omega))) only [rdT,rdS,anT];first|done|omega|(refine ⟨?_,?_⟩<;>omega))|(simp (disch:=(first|omega|(simp only [lnS];omega))) [rdT,rdS];done)));cbv)
  |(refine ⟨fun _ h_s=>?_,fun _ h_s=>?_⟩<;>(cbv;(try simp only [nc] at *);try simp (disch:=(first|omega|(simp only [lnS];omega))) only [rdT,rdS,reduceCtorEq,trT] at h_s))
  |(refine hF ?_;intro _;clear hF)
  |(refine hF ?_;cbv;clear hF)
  |(refine ⟨fun _=>?_,?_⟩;(· ((try simp only [nc] at *);first|done|omega|exact ⟨by omega,rfl⟩|(simp (disch:=(first|omega|(simp only [lnS];omega))) only [rdT,rdS];first|done|omega|rfl|exact ⟨by omega,rfl⟩|(simp;done)|(simp;omega))|(intros;trivial)));(try (simp only [nc] at *));(try simp (disch:=(first|omega|(simp only [lnS];omega))) only [rdT,rdS]);(try cbv))
  |(refine E.d 4 (by decide +kernel) ?_;cbv;(fail_if_success guard_target =~ False))
  | fail
 )
 ·have hbits : ∀ j, (a ||| maskTo (upSeq V a) n).getLsbD j = (a.getLsbD j || (decide (j < n) && upSeq V a j)) := fun j => by rw [BitVec.getLsbD_or, mask_bit _ _ h64]
  refine hI (a, a ||| maskTo (upSeq V a) n) ⟨fun j hj => ?_, fun j hj => ?_, ?_, fun i hi h => ?_⟩ ?_ ?_
  ·simp only at hj ⊢
   rw [hbits, hj]; rfl
  ·simp only at hj
   rw [hbits, Bool.or_eq_true] at hj
   rcases hj with hj | hj
   ·exact hq2 j hj
   ·simp only [upSeq, Bool.and_eq_true, decide_eq_true_eq] at hj
    exact .step hj.1 hj.2.1 (hq2 _ hj.2.2)
  ·simp only; rw [hbits, hq3]; rfl
  ·simp only at h ⊢
   rw [hbits, h, decide_eq_true hi]; simp
  ·simp only
   have := cntB_ne hq1 (by assumption)
   have := cntB_le a 64
   omega
  ·cbv
   clear hI hF
   simp
 ·all_goals (try simp only [nc] at *)
  all_goals (try simp (disch:=(first|omega|(simp only [lnS];omega))) only [rdT,rdS])
  have e : g = a := by simp_all
  subst e
  exact seq_unique h64 hw hq3 hq2 fun i hi hk h => hq4 i hi (by unfold upSeq; rw [hk, h]; rfl)

def behM (V : Vw) (n : Nat) (s : BitVec 64) (a : Nat) : Bool := s.getLsbD a || (fenceM (V.ev.getD a ev0) && decide (s &&& maskTo (fun b => poM V b a) n ≠ 0#64))
theorem behind1_ok (V : Vw) {n : Nat} (hV : Wf V n) (a b : Nat) (ha : a < n) (hb : b < n) : Pure Try.prog γ false 99 [.i fun _ => (b : Int), .vp (fun _ => pVw V) 0, .vp (fun _ => .i fun _ => (a : Int)) 0] (.b fun _ => poM V b a) := by
 refine Pure.go (ty := ty) ty_eq mo Try.func99 rfl Try.ntmps99 Try.results99 Try.call99 (by simp) fun P C CQ D W F E hF => ?_
 cbv
 repeat' (first
  |((first|refine E.c (SCalls.of_le (dpo_ok V hV b a hb ha) ?_ ?_)|refine E.q (QCalls.of_le (dpo_ok V hV b a hb ha) ?_ ?_));(· (cbv;(try simp only [nc] at *);first|done|(simp;done)|(simp (disch:=(first|omega|(simp only [lnS];omega))) only [rdT,rdS,anT];first|done|omega|(refine ⟨?_,?_⟩<;>omega))|(simp (disch:=(first|omega|(simp only [lnS];omega))) [rdT,rdS];done)));cbv)
  |(refine ⟨fun _ h_s=>?_,fun _ h_s=>?_⟩<;>(cbv;(try simp only [nc] at *);try simp (disch:=(first|omega|(simp only [lnS];omega))) only [rdT,rdS,reduceCtorEq,trT] at h_s))
  |(refine hF ?_;intro _;clear hF)
  |(refine hF ?_;cbv;clear hF)
  |(refine ⟨fun _=>?_,?_⟩;(· ((try simp only [nc] at *);first|done|omega|exact ⟨by omega,rfl⟩|(simp (disch:=(first|omega|(simp only [lnS];omega))) only [rdT,rdS];first|done|omega|rfl|exact ⟨by omega,rfl⟩|(simp;done)|(simp;omega))|(intros;trivial)));(try (simp only [nc] at *));(try simp (disch:=(first|omega|(simp only [lnS];omega))) only [rdT,rdS]);(try cbv))
  | fail
 )
 all_goals (try simp only [nc] at *)
 all_goals (try simp (disch:=(first|omega|(simp only [lnS];omega))) only [rdT,rdS])
theorem behind_ok (V : Vw) {n : Nat} (hV : Wf V n) (s : BitVec 64) (a : Nat) (ha : a < n) : Pure Try.prog γ false 83 [pVw V, .u fun _ => s, .i fun _ => (a : Int)] (.b fun _ => behM V n s a) := by
 have h5 := hV.small
 have hbw := bofInt (k := a) (by omega)
 have hm := dmask3_ok V hV 99 (fun _ => pVw V) (fun _ => .i fun _ => (a : Int)) (fun b => poM V b a) fun k hk => behind1_ok (γ := γ) V hV a k ha hk
 refine Pure.go (ty := ty) ty_eq mo Try.func83 rfl Try.ntmps83 Try.results83 Try.call83 (by simp) fun P C CQ D W F E hF => ?_
 cbv
 repeat' (first
  |(refine E.c (SCalls.of_bare (hm) rfl ?_ ?_);(· (cbv;(try simp only [nc] at *);first|done|(simp;done)|(simp (disch:=(first|omega|(simp only [lnS];omega))) only [rdT,rdS,anT];first|done|omega|(refine ⟨?_,?_⟩<;>omega))|(simp (disch:=(first|omega|(simp only [lnS];omega))) [rdT,rdS];done)));cbv)
  |(refine E.q (QCalls.of_bare (hm) rfl ?_ ?_);(· (cbv;(try simp only [nc] at *);first|done|(simp;done)|(simp (disch:=(first|omega|(simp only [lnS];omega))) only [rdT,rdS,anT];first|done|omega|(refine ⟨?_,?_⟩<;>omega))|(simp (disch:=(first|omega|(simp only [lnS];omega))) [rdT,rdS];done)));cbv)
  |((first|refine E.c (SCalls.of_le (dfence_ok V hV a ha) ?_ ?_)|refine E.q (QCalls.of_le (dfence_ok V hV a ha) ?_ ?_));(· (cbv;(try simp only [nc] at *);first|done|(simp;done)|(simp (disch:=(first|omega|(simp only [lnS];omega))) only [rdT,rdS,anT];first|done|omega|(refine ⟨?_,?_⟩<;>omega))|(simp (disch:=(first|omega|(simp only [lnS];omega))) [rdT,rdS];done)));cbv)
  |(refine ⟨fun _ h_s=>?_,fun _ h_s=>?_⟩<;>(cbv;(try simp only [nc] at *);try simp (disch:=(first|omega|(simp only [lnS];omega))) only [rdT,rdS,reduceCtorEq,trT] at h_s))
  |(refine hF ?_;intro _;clear hF)
  |(refine hF ?_;cbv;clear hF)
  |(refine ⟨fun _=>?_,?_⟩;(· ((try simp only [nc] at *);first|done|omega|exact ⟨by omega,rfl⟩|(simp (disch:=(first|omega|(simp only [lnS];omega))) only [rdT,rdS];first|done|omega|rfl|exact ⟨by omega,rfl⟩|(simp;done)|(simp;omega))|(intros;trivial)));(try (simp only [nc] at *));(try simp (disch:=(first|omega|(simp only [lnS];omega))) only [rdT,rdS]);(try cbv))
  | fail
 )
 all_goals (try simp only [nc] at *)
 all_goals (try simp (disch:=(first|omega|(simp only [lnS];omega))) only [rdT,rdS])
 all_goals (have hg := getLsb_and1 s a; simp_all [behM])
/-- a reader of a write's sequence -/
def rdrM (V : Vw) (s : BitVec 64) (b : Nat) : Bool := readsM (V.ev.getD b ev0) && decide ((V.ev.getD b ev0).order ≠ 1) && s.getLsbD (V.fr.getD b 0).toNat
theorem sw1_ok (V : Vw) {n : Nat} (hV : Wf V n) (s : BitVec 64) (b : Nat) (hb : b < n) : Pure Try.prog γ false 80 [.i fun _ => (b : Int), .vp (fun _ => pVw V) 0, .vp (fun _ => .u fun _ => s) 0] (.b fun _ => rdrM V s b) := by
 have h1 := hV.ev
 have h2 := hV.fr
 have h3 := hV.frl b hb
 have h4 := hV.frg b hb
 have h5 := hV.small
 refine Pure.go (ty := ty) ty_eq mo Try.func80 rfl Try.ntmps80 Try.results80 Try.call80 (by simp) fun P C CQ D W F E hF => ?_
 cbv
 repeat' (first
  |((first|refine E.c (SCalls.of_le (dreads_ok V hV b hb) ?_ ?_)|refine E.q (QCalls.of_le (dreads_ok V hV b hb) ?_ ?_));(· (cbv;(try simp only [nc] at *);first|done|(simp;done)|(simp (disch:=(first|omega|(simp only [lnS];omega))) only [rdT,rdS,anT];first|done|omega|(refine ⟨?_,?_⟩<;>omega))|(simp (disch:=(first|omega|(simp only [lnS];omega))) [rdT,rdS];done)));cbv)
  |(refine ⟨fun _ h_s=>?_,fun _ h_s=>?_⟩<;>(cbv;(try simp only [nc] at *);try simp (disch:=(first|omega|(simp only [lnS];omega))) only [rdT,rdS,reduceCtorEq,trT] at h_s))
  |(refine hF ?_;intro _;clear hF)
  |(refine hF ?_;cbv;clear hF)
  |(refine ⟨fun _=>?_,?_⟩;(· ((try simp only [nc] at *);first|done|omega|exact ⟨by omega,rfl⟩|(simp (disch:=(first|omega|(simp only [lnS];omega))) only [rdT,rdS];first|done|omega|rfl|exact ⟨by omega,rfl⟩|(simp;done)|(simp;omega))|(intros;trivial)));(try (simp only [nc] at *));(try simp (disch:=(first|omega|(simp only [lnS];omega))) only [rdT,rdS]);(try cbv))
  |(refine E.d 24 (by decide +kernel) ?_;cbv;(fail_if_success guard_target =~ False))
  | fail
 )
 all_goals (try simp only [nc] at *)
 all_goals (try simp (disch:=(first|omega|(simp only [lnS];omega))) only [rdT,rdS])
 ·have hsh : (BitVec.ofInt 64 (V.fr.getD b 0)).toNat = (V.fr.getD b 0).toNat := bofZ (h4 (by assumption)) (by omega)
  have e1 : readsM (V.ev.getD b ev0) = true := by assumption
  have e2 : ¬ (V.ev.getD b ev0).order = 1 := by assumption
  rw [rdrM, ← getLsb_and1]
  (try rw [hsh])
  simp only [e1, ne_eq, e2, not_false_eq_true, decide_true, Bool.true_and, decide_not]
 ·simp_all [rdrM]
 ·simp_all [rdrM]
theorem sw2_ok (V : Vw) {n : Nat} (hV : Wf V n) (s : BitVec 64) (a : Nat) (ha : a < n) : Pure Try.prog γ false 81 [.i fun _ => (a : Int), .vp (fun _ => pVw V) 0, .vp (fun _ => .u fun _ => s) 0] (.b fun _ => acqM (V.ev.getD a ev0) && behM V n s a) := by
 refine Pure.go (ty := ty) ty_eq mo Try.func81 rfl Try.ntmps81 Try.results81 Try.call81 (by simp) fun P C CQ D W F E hF => ?_
 cbv
 repeat' (first
  |((first|refine E.c (SCalls.of_le (behind_ok V hV s a ha) ?_ ?_)|refine E.q (QCalls.of_le (behind_ok V hV s a ha) ?_ ?_));(· (cbv;(try simp only [nc] at *);first|done|(simp;done)|(simp (disch:=(first|omega|(simp only [lnS];omega))) only [rdT,rdS,anT];first|done|omega|(refine ⟨?_,?_⟩<;>omega))|(simp (disch:=(first|omega|(simp only [lnS];omega))) [rdT,rdS];done)));cbv)
  |((first|refine E.c (SCalls.of_le (dacq_ok V hV a ha) ?_ ?_)|refine E.q (QCalls.of_le (dacq_ok V hV a ha) ?_ ?_));(· (cbv;(try simp only [nc] at *);first|done|(simp;done)|(simp (disch:=(first|omega|(simp only [lnS];omega))) only [rdT,rdS,anT];first|done|omega|(refine ⟨?_,?_⟩<;>omega))|(simp (disch:=(first|omega|(simp only [lnS];omega))) [rdT,rdS];done)));cbv)
  |(refine ⟨fun _ h_s=>?_,fun _ h_s=>?_⟩<;>(cbv;(try simp only [nc] at *);try simp (disch:=(first|omega|(simp only [lnS];omega))) only [rdT,rdS,reduceCtorEq,trT] at h_s))
  |(refine hF ?_;intro _;clear hF)
  |(refine hF ?_;cbv;clear hF)
  |(refine ⟨fun _=>?_,?_⟩;(· ((try simp only [nc] at *);first|done|omega|exact ⟨by omega,rfl⟩|(simp (disch:=(first|omega|(simp only [lnS];omega))) only [rdT,rdS];first|done|omega|rfl|exact ⟨by omega,rfl⟩|(simp;done)|(simp;omega))|(intros;trivial)));(try (simp only [nc] at *));(try simp (disch:=(first|omega|(simp only [lnS];omega))) only [rdT,rdS]);(try cbv))
  | fail
 )
 all_goals (try simp only [nc] at *)
 all_goals (try simp (disch:=(first|omega|(simp only [lnS];omega))) only [rdT,rdS])
 all_goals simp_all
theorem sw3_ok (rows : List (BitVec 64)) (n : Nat) (hr : rows.length = n) (hn : n ≤ 64) (a b : Nat) (ha : a < n) (hb : b < n) : Pure Try.prog γ false 86 [.i fun _ => (a : Int), .i fun _ => (b : Int), .vp (fun _ => .vs 1 fun _ => us rows) 0] (.b fun _ => bit rows a b) := by
 have hbw := bofInt (k := b) (by omega)
 refine Pure.go (ty := ty) ty_eq mo Try.func86 rfl Try.ntmps86 Try.results86 Try.call86 (by simp) fun P C CQ D W F E hF => ?_
 cbv
 repeat' (first
  |(refine ⟨fun _ h_s=>?_,fun _ h_s=>?_⟩<;>(cbv;(try simp only [nc] at *);try simp (disch:=(first|omega|(simp only [lnS];omega))) only [rdT,rdS,reduceCtorEq,trT] at h_s))
  |(refine hF ?_;intro _;clear hF)
  |(refine hF ?_;cbv;clear hF)
  |(refine ⟨fun _=>?_,?_⟩;(· ((try simp only [nc] at *);first|done|omega|exact ⟨by omega,rfl⟩|(simp (disch:=(first|omega|(simp only [lnS];omega))) only [rdT,rdS];first|done|omega|rfl|exact ⟨by omega,rfl⟩|(simp;done)|(simp;omega))|(intros;trivial)));(try (simp only [nc] at *));(try simp (disch:=(first|omega|(simp only [lnS];omega))) only [rdT,rdS]);(try cbv))
  | fail
 )
 all_goals (try simp only [nc] at *)
 all_goals (try simp (disch:=(first|omega|(simp only [lnS];omega))) only [rdT,rdS])
 have hg := getLsb_and1 (rows.getD a 0) b
 simp_all [bit]
end Go.AL.Rl

namespace Go.AL.Rl
open Go Go.AL Go.Proofs
set_option maxRecDepth 100000
set_option maxHeartbeats 1600000
variable {γ : Nat → Option AV}

noncomputable def tgtM (V : Vw) (n w : Nat) : BitVec 64 := maskTo (fun a => acqM (V.ev.getD a ev0) && behM V n (maskTo (rdrM V (seqM V n w)) n) a) n
def swR (V : Vw) (w r : Nat) : Bool := writesM (V.ev.getD w ev0) && decide ((V.ev.getD w ev0).order ≠ 1) && relM (V.ev.getD r ev0) && (decide (r = w) || fenceM (V.ev.getD r ev0) && poM V r w)
noncomputable def rowT (V : Vw) (n : Nat) : Nat → Nat → BitVec 64
 | 0, _ => 0#64
 | w + 1, r => if swR V w r = true then rowT V n w r ||| tgtM V n w else rowT V n w r
theorem tgt_zero (V : Vw) (n w : Nat) (h : maskTo (rdrM V (seqM V n w)) n = 0#64) : tgtM V n w = 0#64 := by
 unfold tgtM
 rw [h]
 have : ∀ k, maskTo (fun a => acqM (V.ev.getD a ev0) && behM V n 0#64 a) k = 0#64 := by
  intro k
  induction k with
  | zero => rfl
  | succ k ih => unfold maskTo; rw [ih]; simp [behM]
 exact this n
theorem rowT_same (V : Vw) (n w : Nat) (r : Nat) (h : swR V w r = false ∨ tgtM V n w = 0#64) : rowT V n (w + 1) r = rowT V n w r := by
 unfold rowT
 rcases h with h | h
 ·rw [if_neg (by simp [h])]; cases w <;> rfl
 ·rw [h]; simp; cases w <;> rfl
noncomputable def swRows (V : Vw) (n : Nat) : List (BitVec 64) := tab n (rowT V n n)
theorem row0 (V : Vw) (n : Nat) : us (tab n (rowT V n 0)) = LV.of (List.replicate n (.u fun _ => 0#64)) := by
 rw [show rowT V n 0 = fun _ => 0#64 from rfl, tab_zero]; simp [us]
theorem ustab_get (n : Nat) (f : Nat → BitVec 64) (r : Nat) (h : r < n) : (us (tab n f)).l.getD r .any = .u fun _ => f r := by
 rw [us_get _ r (by rw [tab_len]; exact h), tab_get n f r h]
theorem dsw_ok (V : Vw) {n : Nat} (hV : Wf V n) : Pure Try.prog γ false 56 [pVw V] (encRel n (relRows n (bit (swRows V n)))) := by
 have h1 := hV.ids
 have h1e := hV.ev
 have h5 := hV.small
 have hlr : (swRows V n).length = n := by simp [swRows]
 have hrel := drel2_ok V hV 86 (fun _ => .vs 1 fun _ => us (swRows V n)) (bit (swRows V n)) fun a ha b hb => sw3_ok (γ := γ) (swRows V n) n hlr (by omega) a b ha hb
 refine Pure.goL (ty := ty) ty_eq mo Try.func56 rfl Try.ntmps56 Try.results56 Try.call56 (by simp) fun P C CQ D W F E hF => ?_
 refine E.cut 4 (told 88 [(1, .ptr 0 0), (2, .ptr 1 0), (3, .vp (fun _ => .vs 1 fun _ => us (swRows V n)) 0)] [.box (pVw V), .box (.agg [.lit 0, .nils])]) (by kernel_rfl) (Nat.zero_le _) (fun I hI => ?_) (E.bl ?_)
 ·cbv
  repeat' (first
   |(refine ⟨fun _ h_s=>?_,fun _ h_s=>?_⟩<;>(cbv;(try simp only [nc] at *);try simp (disch:=(first|omega|(simp only [lnS];omega))) only [rdT,rdS,reduceCtorEq,trT] at h_s))
   |(refine hF ?_;intro _;clear hF)
   |(refine hF ?_;cbv;clear hF)
   |(refine ⟨fun _=>?_,?_⟩;(· ((try simp only [nc] at *);first|done|omega|exact ⟨by omega,rfl⟩|(simp (disch:=(first|omega|(simp only [lnS];omega))) only [rdT,rdS];first|done|omega|rfl|exact ⟨by omega,rfl⟩|(simp;done)|(simp;omega))|(intros;trivial)));(try (simp only [nc] at *));(try simp (disch:=(first|omega|(simp only [lnS];omega))) only [rdT,rdS]);(try cbv))
   | fail
  )
  refine E.loopS (ι:=Nat) (fun w=>w≤n) (fun w=>n - w) (fun w=>[(20,.i fun _=>((w : Nat) : Int))]) (fun w h=>h.set 2 (.run 0 1 fun _=>us (tab n (rowT V n w)))) 0 (fun _=>by first|rfl|simp) (Nat.zero_le _) ?_ fun w hw I hI'=>?_
  ·cbv
   (try simp only [nc] at *)
   refine ⟨by simp, ⟨by simp, by simp, ⟨fun _ => ⟨trivial, ?_⟩, by simp⟩⟩⟩
   rw [h1, row0]; rfl
  cbv
  have hsq := sequence_ok (γ := γ) V hV w
  have hm1 := dmask3_ok V hV 80 (fun _ => pVw V) (fun _ => .u fun _ => seqM V n w) (rdrM V (seqM V n w)) fun k hk => sw1_ok (γ := γ) V hV (seqM V n w) k hk
  have hm2 := dmask3_ok V hV 81 (fun _ => pVw V) (fun _ => .u fun _ => maskTo (rdrM V (seqM V n w)) n) (fun a => acqM (V.ev.getD a ev0) && behM V n (maskTo (rdrM V (seqM V n w)) n) a) fun k hk => sw2_ok (γ := γ) V hV _ k hk
  repeat' (first
   |(refine hI' (w + 1) ?_ ?_ ?_;rotate_left 1;(· ((try simp only [nc] at *);omega));(cbv;clear hI';(try clear hF);(try simp only [nc] at *);(try simp (disch:=(first|omega|(simp only [lnS];omega))) only [rdT,rdS,anT]));rotate_left 1;(try ((try simp only [nc] at *);omega)))
   |(refine E.c (SCalls.of_bare (hm2) rfl ?_ ?_);(· (cbv;(try simp only [nc] at *);first|done|(simp;done)|(simp (disch:=(first|omega|(simp only [lnS];omega))) only [rdT,rdS,anT];first|done|omega|(refine ⟨?_,?_⟩<;>omega))|(simp (disch:=(first|omega|(simp only [lnS];omega))) [rdT,rdS];done)));cbv)
   |(refine E.q (QCalls.of_bare (hm2) rfl ?_ ?_);(· (cbv;(try simp only [nc] at *);first|done|(simp;done)|(simp (disch:=(first|omega|(simp only [lnS];omega))) only [rdT,rdS,anT];first|done|omega|(refine ⟨?_,?_⟩<;>omega))|(simp (disch:=(first|omega|(simp only [lnS];omega))) [rdT,rdS];done)));cbv)
   |(refine E.c (SCalls.of_bare (hm1) rfl ?_ ?_);(· (cbv;(try simp only [nc] at *);first|done|(simp;done)|(simp (disch:=(first|omega|(simp only [lnS];omega))) only [rdT,rdS,anT];first|done|omega|(refine ⟨?_,?_⟩<;>omega))|(simp (disch:=(first|omega|(simp only [lnS];omega))) [rdT,rdS];done)));cbv)
   |(refine E.q (QCalls.of_bare (hm1) rfl ?_ ?_);(· (cbv;(try simp only [nc] at *);first|done|(simp;done)|(simp (disch:=(first|omega|(simp only [lnS];omega))) only [rdT,rdS,anT];first|done|omega|(refine ⟨?_,?_⟩<;>omega))|(simp (disch:=(first|omega|(simp only [lnS];omega))) [rdT,rdS];done)));cbv)
   |(refine E.c (SCalls.of_le (hsq (by ((try simp only [nc] at *);omega))) ?_ ?_);(· (cbv;(try simp only [nc] at *);first|done|(simp;done)|(simp (disch:=(first|omega|(simp only [lnS];omega))) only [rdT,rdS,anT];first|done|omega|(refine ⟨?_,?_⟩<;>omega))|(simp (disch:=(first|omega|(simp only [lnS];omega))) [rdT,rdS];done)));cbv)
   |(refine E.c (SCalls.of_le (dwrites_ok V hV w (by ((try simp only [nc] at *);omega))) ?_ ?_);(· (cbv;(try simp only [nc] at *);first|done|(simp;done)|(simp (disch:=(first|omega|(simp only [lnS];omega))) only [rdT,rdS,anT];first|done|omega|(refine ⟨?_,?_⟩<;>omega))|(simp (disch:=(first|omega|(simp only [lnS];omega))) [rdT,rdS];done)));cbv)
   |(refine ⟨fun _ h_s=>?_,fun _ h_s=>?_⟩<;>(cbv;(try simp only [nc] at *);try simp (disch:=(first|omega|(simp only [lnS];omega))) only [rdT,rdS,reduceCtorEq,trT] at h_s))
   |(refine hF ?_;intro _;clear hF)
   |(refine hF ?_;cbv;clear hF)
   |(refine ⟨fun _=>?_,?_⟩;(· ((try simp only [nc] at *);first|done|omega|exact ⟨by omega,rfl⟩|(simp (disch:=(first|omega|(simp only [lnS];omega))) only [rdT,rdS];first|done|omega|rfl|exact ⟨by omega,rfl⟩|(simp;done)|(simp;omega))|(intros;trivial)));(try (simp only [nc] at *));(try simp (disch:=(first|omega|(simp only [lnS];omega))) only [rdT,rdS]);(try cbv))
   | fail
  )
  ·refine ⟨by omega, congrArg us (tab_congr fun r _ => (rowT_same V n w r (.inl ?_)).symm)⟩
   simp_all [swR]
  ·refine ⟨by omega, congrArg us (tab_congr fun r _ => (rowT_same V n w r (.inl ?_)).symm)⟩
   simp_all [swR]
  ·refine ⟨by omega, congrArg us (tab_congr fun r _ => (rowT_same V n w r (.inr (tgt_zero V n w ?_))).symm)⟩
   simp_all
  ·have hwm : writesM (V.ev.getD w ev0) = true := by assumption
   have hwo : ¬ (V.ev.getD w ev0).order = 1 := by assumption
   refine E.loopS (ι:=Nat) (fun r=>r≤n) (fun r=>n - r) (fun r=>[(54,.i fun _=>((r : Nat) : Int))]) (fun r h=>h.set 2 (.run 0 1 fun _=>us (tab n fun k=>if k < r then rowT V n (w + 1) k else rowT V n w k))) 0 (fun _=>by first|rfl|simp) (Nat.zero_le _) ?_ fun r hr I2 hI2=>?_
   ·cbv
    (try simp only [nc] at *)
    simp [h1]
   cbv
   skip
   repeat' (first
    |(refine hI' (w + 1) ?_ ?_ ?_;rotate_left 1;(· ((try simp only [nc] at *);omega));(cbv;clear hI';(try clear hF);(try simp only [nc] at *);(try simp (disch:=(first|omega|(simp only [lnS,tab_len];omega))) only [rdT,rdS,Nat.zero_add,tab_len,tab_get,true_and,anT]));rotate_left 1;(try ((try simp only [nc] at *);omega)))
    |(refine hI2 (r + 1) ?_ ?_ ?_;rotate_left 1;(· ((try simp only [nc] at *);omega));(cbv;clear hI2;(try clear hF);(try simp only [nc] at *);(try simp (disch:=(first|omega|(simp only [lnS,tab_len];omega))) only [rdT,rdS,Nat.zero_add,tab_len,tab_get,true_and,anT]));rotate_left 1;(try ((try simp only [nc] at *);omega)))
    |((first|refine E.c (SCalls.of_le (dpo_ok V hV r w (by ((try simp only [nc] at *);omega)) (by ((try simp only [nc] at *);omega))) ?_ ?_)|refine E.q (QCalls.of_le (dpo_ok V hV r w (by ((try simp only [nc] at *);omega)) (by ((try simp only [nc] at *);omega))) ?_ ?_));(· (cbv;(try simp only [nc] at *);first|done|(simp;done)|(simp (disch:=(first|omega|(simp only [lnS,tab_len];omega))) only [rdT,rdS,Nat.zero_add,tab_len,tab_get,true_and,anT];first|done|omega|(refine ⟨?_,?_⟩<;>omega))|(simp (disch:=(first|omega|(simp only [lnS,tab_len];omega))) [rdT,rdS,Nat.zero_add,tab_len,tab_get,true_and];done)));cbv)
    |((first|refine E.c (SCalls.of_le (dfence_ok V hV r (by ((try simp only [nc] at *);omega))) ?_ ?_)|refine E.q (QCalls.of_le (dfence_ok V hV r (by ((try simp only [nc] at *);omega))) ?_ ?_));(· (cbv;(try simp only [nc] at *);first|done|(simp;done)|(simp (disch:=(first|omega|(simp only [lnS,tab_len];omega))) only [rdT,rdS,Nat.zero_add,tab_len,tab_get,true_and,anT];first|done|omega|(refine ⟨?_,?_⟩<;>omega))|(simp (disch:=(first|omega|(simp only [lnS,tab_len];omega))) [rdT,rdS,Nat.zero_add,tab_len,tab_get,true_and];done)));cbv)
    |(refine E.c (SCalls.of_le (drel_ok V hV r (by ((try simp only [nc] at *);omega))) ?_ ?_);(· (cbv;(try simp only [nc] at *);first|done|(simp;done)|(simp (disch:=(first|omega|(simp only [lnS,tab_len];omega))) only [rdT,rdS,Nat.zero_add,tab_len,tab_get,true_and,anT];first|done|omega|(refine ⟨?_,?_⟩<;>omega))|(simp (disch:=(first|omega|(simp only [lnS,tab_len];omega))) [rdT,rdS,Nat.zero_add,tab_len,tab_get,true_and];done)));cbv)
    |(refine ⟨fun _ h_s=>?_,fun _ h_s=>?_⟩<;>(cbv;(try simp only [nc] at *);try simp (disch:=(first|omega|(simp only [lnS,tab_len];omega))) only [rdT,rdS,Nat.zero_add,tab_len,tab_get,true_and,reduceCtorEq,trT] at h_s))
    |(refine hF ?_;intro _;clear hF)
    |(refine hF ?_;cbv;clear hF)
    |(refine ⟨fun _=>?_,?_⟩;(· ((try simp only [nc] at *);first|done|omega|exact ⟨by omega,rfl⟩|(simp (disch:=(first|omega|(simp only [lnS,tab_len];omega))) only [rdT,rdS,Nat.zero_add,tab_len,tab_get,true_and];first|done|omega|rfl|exact ⟨by omega,rfl⟩|(simp;done)|(simp;omega))|(intros;trivial)));(try (simp only [nc] at *));(try simp (disch:=(first|omega|(simp only [lnS,tab_len];omega))) only [rdT,rdS,Nat.zero_add,tab_len,tab_get,true_and]);(try cbv))
    | fail
   )
   all_goals (try (clear hI hF))
   iterate 2
    ·refine ⟨by omega, ?_⟩
     have e : ((r : Int) = w) ↔ r = w := Int.ofNat_inj
     have hsw : swR V w r = true := by simp_all [swR]
     simp only [Nat.zero_add, ustab_get n _ r (show r < n by omega), at_u, upd_u, us_set, us_of]
     refine congrArg us (tab_set r _ (by omega) ?_ fun k hk hne => ?_)
     ·rw [if_pos (by omega), if_neg (by omega)]
      show rowT V n (w + 1) r = _
      unfold rowT
      rw [if_pos hsw]
      cases w <;> rfl
     ·by_cases h : k < r
      ·rw [if_pos h, if_pos (by omega)]
      ·rw [if_neg h, if_neg (by omega)]
   iterate 3
    ·refine ⟨by omega, congrArg us (tab_congr fun k hk => ?_)⟩
     have e : ((r : Int) = w) ↔ r = w := Int.ofNat_inj
     have hsw : swR V w r = false := by simp_all [swR]
     by_cases h : k < r
     ·rw [if_pos h, if_pos (by omega)]
     ·rw [if_neg h]
      by_cases h2 : k < r + 1
      ·rw [if_pos h2]
       obtain rfl : k = r := by omega
       exact (rowT_same V n w k (.inl hsw)).symm
      ·rw [if_neg h2]
   ·refine ⟨by omega, congrArg us (tab_congr fun k hk => ?_)⟩
    rw [if_pos (by omega)]
  ·refine hI ?_
   cbv
   clear hI hI' hF
   have e : w = n := by ((try simp only [nc] at *); omega)
   subst e
   (try simp only [nc] at *)
   (try simp (disch:=(first|omega|(simp only [lnS,tab_len];omega))) only [rdT,rdS,Nat.zero_add,tab_len,tab_get,true_and,anT])
   refine ⟨by omega, ?_⟩
   rw [h1, List.drop_zero, List.take_of_length_le (by simp)]; rfl
 ·cbv
  repeat' (first
   |(refine E.c (SCalls.of_le (hrel) ?_ ?_);(· (cbv;(try simp only [nc] at *);first|done|(simp;done)|(simp (disch:=(first|omega|(simp only [lnS,tab_len];omega))) only [rdT,rdS,Nat.zero_add,tab_len,tab_get,true_and,anT];first|done|omega|(refine ⟨?_,?_⟩<;>omega))|(simp (disch:=(first|omega|(simp only [lnS,tab_len];omega))) [rdT,rdS,Nat.zero_add,tab_len,tab_get,true_and];done)));cbv)
   |(refine ⟨fun _ h_s=>?_,fun _ h_s=>?_⟩<;>(cbv;(try simp only [nc] at *);try simp (disch:=(first|omega|(simp only [lnS,tab_len];omega))) only [rdT,rdS,Nat.zero_add,tab_len,tab_get,true_and,reduceCtorEq,trT] at h_s))
   |(refine hF ?_;intro _;clear hF)
   |(refine hF ?_;cbv;clear hF)
   |(refine ⟨fun _=>?_,?_⟩;(· ((try simp only [nc] at *);first|done|omega|exact ⟨by omega,rfl⟩|(simp (disch:=(first|omega|(simp only [lnS,tab_len];omega))) only [rdT,rdS,Nat.zero_add,tab_len,tab_get,true_and];first|done|omega|rfl|exact ⟨by omega,rfl⟩|(simp;done)|(simp;omega))|(intros;trivial)));(try (simp only [nc] at *));(try simp (disch:=(first|omega|(simp only [lnS,tab_len];omega))) only [rdT,rdS,Nat.zero_add,tab_len,tab_get,true_and]);(try cbv))
   | fail
  )
  all_goals (try simp only [nc] at *)
  all_goals (try simp (disch:=(first|omega|(simp only [lnS,tab_len];omega))) only [rdT,rdS,Nat.zero_add,tab_len,tab_get,true_and])
end Go.AL.Rl

namespace Go.AL.Rl
open Go Go.AL Go.Proofs
set_option maxRecDepth 100000
variable {γ : Nat → Option AV}

def idsI (x : Nat) : List EId := (List.range x).map fun k => ⟨0, (k : Nat)⟩
def idsE (t i : Nat) : List EId := (List.range i).map fun k => ⟨t + 1, (k : Nat)⟩
def idsT (g : Gr) (t : Nat) : List EId := (List.range t).flatMap fun k => idsE k (g.th.getD k []).length
def idsG (g : Gr) : List EId := idsI g.init.length ++ idsT g g.th.length
def evsI (g : Gr) (x : Nat) : List Ev := (List.range x).map fun k => ⟨2, (k : Nat), 1, 0, g.init.getD k 0⟩
def evsT (g : Gr) (t : Nat) : List Ev := (List.range t).flatMap fun k => g.th.getD k []
def evsG (g : Gr) : List Ev := evsI g g.init.length ++ evsT g g.th.length
theorem idsI_succ (x : Nat) : idsI (x + 1) = idsI x ++ [⟨0, x⟩] := by simp [idsI, List.range_succ]
theorem idsE_succ (t i : Nat) : idsE t (i + 1) = idsE t i ++ [⟨t + 1, i⟩] := by simp [idsE, List.range_succ]
theorem idsT_succ (g : Gr) (t : Nat) : idsT g (t + 1) = idsT g t ++ idsE t (g.th.getD t []).length := by simp [idsT, List.range_succ, List.flatMap_append]
theorem evsI_succ (g : Gr) (x : Nat) : evsI g (x + 1) = evsI g x ++ [⟨2, x, 1, 0, g.init.getD x 0⟩] := by simp [evsI, List.range_succ]
theorem evsT_succ (g : Gr) (t : Nat) : evsT g (t + 1) = evsT g t ++ g.th.getD t [] := by simp [evsT, List.range_succ, List.flatMap_append]
theorem idsI_len (x : Nat) : (idsI x).length = x := by simp [idsI]
theorem idsE_len (t i : Nat) : (idsE t i).length = i := by simp [idsE]
theorem evsI_len (g : Gr) (x : Nat) : (evsI g x).length = x := by simp [evsI]
theorem idsT_len (g : Gr) : ∀ t, (idsT g t).length = (evsT g t).length
 | 0 => rfl
 | t + 1 => by rw [idsT_succ, evsT_succ, List.length_append, List.length_append, idsT_len g t, idsE_len]
theorem evsT_len {g : Gr} (h : Short g) : ∀ t, (evsT g t).length ≤ 14 * t
 | 0 => by simp [evsT]
 | t + 1 => by rw [evsT_succ, List.length_append]; have := evsT_len h t; have := h.at t; omega
theorem idsG_len (g : Gr) : (idsG g).length = (evsG g).length := by simp [idsG, evsG, idsI_len, evsI_len, idsT_len]
theorem evsG_len {g : Gr} (h : Short g) : (evsG g).length ≤ 62 := by
 have := evsT_len h g.th.length
 have := h.th; have := h.init
 simp only [evsG, List.length_append, evsI_len]; omega
theorem idsI_mem {x : Nat} {d : EId} : d ∈ idsI x ↔ d.t = 0 ∧ 0 ≤ d.i ∧ d.i < x := by
 simp only [idsI, List.mem_map, List.mem_range]
 constructor
 ·rintro ⟨k, hk, rfl⟩; exact ⟨rfl, by simp only; omega, by simp only; omega⟩
 ·rintro ⟨h1, h2, h3⟩; exact ⟨d.i.toNat, by omega, EId.ext' (by simp only; omega) (by simp only; omega)⟩
theorem idsE_mem {t i : Nat} {d : EId} : d ∈ idsE t i ↔ d.t = t + 1 ∧ 0 ≤ d.i ∧ d.i < i := by
 simp only [idsE, List.mem_map, List.mem_range]
 constructor
 ·rintro ⟨k, hk, rfl⟩; exact ⟨rfl, by simp only; omega, by simp only; omega⟩
 ·rintro ⟨h1, h2, h3⟩; exact ⟨d.i.toNat, by omega, EId.ext' (by simp only; omega) (by simp only; omega)⟩
theorem idsT_mem {g : Gr} {t : Nat} {d : EId} : d ∈ idsT g t ↔ 1 ≤ d.t ∧ d.t ≤ t ∧ 0 ≤ d.i ∧ d.i < (g.th.getD (d.t - 1).toNat []).length := by
 simp only [idsT, List.mem_flatMap, List.mem_range, idsE_mem]
 constructor
 ·rintro ⟨k, hk, h1, h2, h3⟩
  have : (d.t - 1).toNat = k := by omega
  rw [this]; exact ⟨by omega, by omega, h2, h3⟩
 ·rintro ⟨h1, h2, h3, h4⟩
  exact ⟨(d.t - 1).toNat, by omega, by omega, h3, h4⟩
theorem idsG_mem {g : Gr} {d : EId} : d ∈ idsG g ↔ (eventM g d).isSome = true := by
 rw [idsG, List.mem_append, idsI_mem, idsT_mem]
 unfold eventM
 by_cases h0 : d.t = 0
 ·rw [if_pos h0]
  by_cases h1 : 0 ≤ d.i ∧ d.i < g.init.length
  ·rw [if_pos h1]; simp [h0, h1]
  ·rw [if_neg h1]; simp [h0]; omega
 ·rw [if_neg h0]
  by_cases h1 : 0 < d.t ∧ d.t ≤ g.th.length ∧ 0 ≤ d.i ∧ d.i < (g.th.getD (d.t - 1).toNat []).length
  ·rw [if_pos h1]; simp only [Option.isSome_some, iff_true]; right; omega
  ·rw [if_neg h1]; simp only [Option.isSome_none, Bool.false_eq_true, iff_false]; omega
theorem nodup_map_range {α : Type} (f : Nat → α) (hf : ∀ a b, f a = f b → a = b) (n : Nat) : ((List.range n).map f).Nodup := by
 unfold List.Nodup
 rw [List.pairwise_map]
 exact (List.nodup_range (n := n)).imp fun hab he => hab (hf _ _ he)
theorem idsI_nodup (x : Nat) : (idsI x).Nodup := nodup_map_range _ (fun a b h => by have := congrArg EId.i h; simp at this; omega) x
theorem idsE_nodup (t i : Nat) : (idsE t i).Nodup := nodup_map_range _ (fun a b h => by have := congrArg EId.i h; simp at this; omega) i
theorem idsT_nodup (g : Gr) : ∀ t, (idsT g t).Nodup
 | 0 => by simp [idsT]
 | t + 1 => by
  rw [idsT_succ, List.nodup_append]
  refine ⟨idsT_nodup g t, idsE_nodup _ _, fun a ha b hb => ?_⟩
  rw [idsT_mem] at ha
  rw [idsE_mem] at hb
  rintro rfl
  omega
theorem idsG_nodup (g : Gr) : (idsG g).Nodup := by
 rw [idsG, List.nodup_append]
 refine ⟨idsI_nodup _, idsT_nodup _ _, fun a ha b hb => ?_⟩
 rw [idsI_mem] at ha
 rw [idsT_mem] at hb
 rintro rfl
 omega
/-- each number's event -/
theorem evsT_get (g : Gr) : ∀ (t k : Nat), t ≤ g.th.length → k < (idsT g t).length → eventM g ((idsT g t).getD k id0) = some ((evsT g t).getD k ev0)
 | 0, k, _, h => by simp [idsT] at h
 | t + 1, k, ht, h => by
  have hl := idsT_len g t
  rw [idsT_succ] at h ⊢
  rw [evsT_succ]
  rcases Nat.lt_or_ge k (idsT g t).length with hk | hk
  ·have ih := evsT_get g t k (by omega) hk
   rw [List.getD_eq_getElem?_getD, List.getElem?_append_left hk, ← List.getD_eq_getElem?_getD, ih, List.getD_eq_getElem?_getD, List.getD_eq_getElem?_getD, List.getElem?_append_left (by omega)]
  ·rw [List.length_append, idsE_len] at h
   have hj : k - (idsT g t).length < (g.th.getD t []).length := by omega
   have e : (idsE t (g.th.getD t []).length)[k - (idsT g t).length]?.getD id0 = ⟨t + 1, ((k - (idsT g t).length : Nat) : Int)⟩ := by
    simp only [idsE, List.getElem?_map, List.getElem?_range hj, Option.map_some, Option.getD_some]
   have e2 : (idsT g t ++ idsE t (g.th.getD t []).length).getD k id0 = ⟨t + 1, ((k - (idsT g t).length : Nat) : Int)⟩ := by
    rw [List.getD_eq_getElem?_getD, List.getElem?_append_right hk]; exact e
   have e3 : (evsT g t ++ g.th.getD t []).getD k ev0 = (g.th.getD t []).getD (k - (idsT g t).length) ev0 := by
    rw [List.getD_eq_getElem?_getD, List.getElem?_append_right (by omega), ← hl, ← List.getD_eq_getElem?_getD]
   rw [e2, e3, event_thread (by omega) hj]
theorem evsG_get (g : Gr) (k : Nat) (h : k < (idsG g).length) : eventM g ((idsG g).getD k id0) = some ((evsG g).getD k ev0) := by
 unfold idsG evsG at *
 rcases Nat.lt_or_ge k g.init.length with hk | hk
 ·rw [List.getD_eq_getElem?_getD, List.getElem?_append_left (by rw [idsI_len]; exact hk), List.getD_eq_getElem?_getD, List.getElem?_append_left (by rw [evsI_len]; exact hk)]
  simp only [idsI, evsI, List.getElem?_map, List.getElem?_range hk, Option.map_some, Option.getD_some]
  unfold eventM
  rw [if_pos rfl, if_pos ⟨by simp only; omega, by simp only; omega⟩]
  simp
 ·rw [List.length_append, idsI_len] at h
  rw [List.getD_eq_getElem?_getD, List.getElem?_append_right (by rw [idsI_len]; exact hk), List.getD_eq_getElem?_getD, List.getElem?_append_right (by rw [evsI_len]; exact hk), idsI_len, evsI_len, ← List.getD_eq_getElem?_getD, ← List.getD_eq_getElem?_getD]
  exact evsT_get g _ _ (Nat.le_refl _) (by omega)
theorem getD_inj {l : List EId} (h : l.Nodup) {i j : Nat} (hi : i < l.length) (hj : j < l.length) (he : l.getD i id0 = l.getD j id0) : i = j := by
 unfold List.Nodup at h
 rw [List.pairwise_iff_getElem] at h
 simp only [List.getD_eq_getElem?_getD, List.getElem?_eq_getElem hi, List.getElem?_eq_getElem hj, Option.getD_some] at he
 rcases Nat.lt_trichotomy i j with h1 | h1 | h1
 ·exact absurd he (h i j hi hj h1)
 ·exact h1
 ·exact absurd he.symm (h j i hj hi h1)
/-- the number of an Id -/
def numOf (l : List EId) (d : EId) : Nat := (l.findIdx? fun x => decide (x = d)).getD 0
theorem numOf_find {l : List EId} {d : EId} (h : d ∈ l) : (l.findIdx? fun x => decide (x = d)) = some (numOf l d) := by
 unfold numOf
 cases hf : l.findIdx? fun x => decide (x = d) with
 | some i => rfl
 | none =>
  rw [List.findIdx?_eq_none_iff] at hf
  have := hf d h
  simp at this
theorem numOf_spec {l : List EId} {d : EId} (h : d ∈ l) : ∃ hl : numOf l d < l.length, l[numOf l d] = d := by
 have := numOf_find h
 rw [List.findIdx?_eq_some_iff_getElem] at this
 obtain ⟨h1, h2, _⟩ := this
 exact ⟨h1, by simpa using h2⟩
theorem numOf_lt {l : List EId} {d : EId} (h : d ∈ l) : numOf l d < l.length := (numOf_spec h).1
theorem numOf_get {l : List EId} {d : EId} (h : d ∈ l) : l.getD (numOf l d) id0 = d := by
 obtain ⟨h1, h2⟩ := numOf_spec h
 rw [List.getD_eq_getElem?_getD, List.getElem?_eq_getElem h1]
 exact h2
theorem numOf_at {l : List EId} (h : l.Nodup) {k : Nat} (hk : k < l.length) : numOf l (l.getD k id0) = k :=
 getD_inj h (numOf_lt (getD_mem hk)) hk (numOf_get (getD_mem hk))

def tabI (n : Nat) (f : Nat → Int) : List Int := (List.range n).map f
@[simp] theorem tabI_len (n : Nat) (f : Nat → Int) : (tabI n f).length = n := by simp [tabI]
theorem tabI_get (n : Nat) (f : Nat → Int) (i : Nat) (h : i < n) : (tabI n f).getD i 0 = f i := by simp [tabI, h]
theorem tabI_congr {n : Nat} {f g : Nat → Int} (h : ∀ i < n, f i = g i) : tabI n f = tabI n g := List.map_congr_left fun i hi => h i (by simpa using hi)
theorem tabI_zero (n : Nat) : tabI n (fun _ => 0) = List.replicate n 0 := by
 apply List.ext_getElem <;> simp [tabI]
theorem istab_get (n : Nat) (f : Nat → Int) (r : Nat) (h : r < n) : (is (tabI n f)).l.getD r .any = .i fun _ => f r := by
 rw [is_get _ r (by rw [tabI_len]; exact h), tabI_get n f r h]
def srcOf (g : Gr) (d : EId) : EId := (g.fr.getD (d.t - 1).toNat []).getD d.i.toNat id0
def frOf (g : Gr) (d : EId) : Int := if d.t = 0 then -1 else if readsM ((eventM g d).getD ev0) = true then (numOf (idsG g) (srcOf g d) : Nat) else -1
def plOf (g : Gr) (d : EId) : Int := if d.t = 0 then 0 else match (g.ord.getD ((eventM g d).getD ev0).loc.toNat []).findIdx? (fun x => decide (x = d)) with | some k => (k : Nat) + 1 | none => -1
def nG (g : Gr) : Nat := (idsG g).length
def viewG (g : Gr) : Vw := ⟨idsG g, evsG g, tabI (nG g) fun m => frOf g ((idsG g).getD m id0), tabI (nG g) fun m => plOf g ((idsG g).getD m id0)⟩
theorem source_mem {g : Gr} {d f : EId} (h : sourceM g d f = true) (hr : readsM ((eventM g d).getD ev0) = true) : ∃ w, eventM g f = some w ∧ f ≠ d ∧ writesM w = true ∧ w.loc = ((eventM g d).getD ev0).loc ∧ w.wr = ((eventM g d).getD ev0).rd := by
 unfold sourceM at h
 rw [if_pos hr] at h
 split at h
 ·rename_i w hw
  simp only [Bool.and_eq_true, decide_eq_true_eq] at h
  exact ⟨w, hw, h.1.1.1, h.1.1.2, h.1.2, h.2⟩
 ·cases h
theorem src_ok {g : Gr} (hg : GOk g) {d : EId} (hd : d ∈ idsG g) (h0 : d.t ≠ 0) : sourceM g d (srcOf g d) = true := by
 rw [idsG, List.mem_append, idsI_mem, idsT_mem] at hd
 rcases hd with hd | hd
 ·exact absurd hd.1 h0
 ·have := hg.sources (d.t - 1).toNat (by omega) d.i.toNat (by omega)
  have e : (⟨((d.t - 1).toNat : Nat) + 1, (d.i.toNat : Nat)⟩ : EId) = d := EId.ext' (by simp only; omega) (by simp only; omega)
  rw [e] at this
  exact this
theorem viewG_wf {g : Gr} (hg : GOk g) : Wf (viewG g) (nG g) := by
 have hn : nG g ≤ 62 := by unfold nG; rw [idsG_len]; exact evsG_len hg.short
 refine ⟨rfl, (idsG_len g).symm, by simp [viewG], by simp [viewG], hn, fun i hi => ?_, fun i hi hr => ?_⟩
 ·simp only [viewG]
  rw [tabI_get _ _ _ hi]
  have hm : (idsG g).getD i id0 ∈ idsG g := getD_mem hi
  unfold frOf
  split
  ·omega
  ·rename_i h0
   split
   ·rename_i hr
    obtain ⟨w, hw, _⟩ := source_mem (src_ok hg hm h0) hr
    have := numOf_lt (idsG_mem.2 (by rw [hw]; rfl))
    unfold nG; omega
   ·omega
 ·simp only [viewG] at hr ⊢
  rw [tabI_get _ _ _ hi]
  have he := evsG_get g i hi
  unfold frOf
  rw [he, Option.getD_some, if_pos hr]
  split
  ·rename_i h0
   exfalso
   unfold eventM at he
   rw [if_pos h0] at he
   split at he
   ·have := Option.some.inj he
    rw [← this] at hr
    simp [readsM] at hr
   ·cases he
  ·omega
end Go.AL.Rl

namespace Go.AL.Rl
open Go Go.AL Go.Proofs
set_option maxRecDepth 100000
set_option maxHeartbeats 1600000
variable {γ : Nat → Option AV}

def iota (m : Nat) : List Int := (List.range m).map fun k => ((k : Nat) : Int)
theorem iota_succ (m : Nat) : iota (m + 1) = iota m ++ [(m : Int)] := by simp [iota, List.range_succ]
theorem iota_len (m : Nat) : (iota m).length = m := by simp [iota]
theorem ids_of (a : List EId) : LV.of (ids a).l = ids a := by simp [ids]
theorem evs_of (a : List Ev) : LV.of (evs a).l = evs a := by simp [evs]
theorem ids_app (a b : List EId) : (ids a).l ++ (ids b).l = (ids (a ++ b)).l := by simp [ids]
theorem evs_app (a b : List Ev) : (evs a).l ++ (evs b).l = (evs (a ++ b)).l := by simp [evs]
/-- the heap of viewOf, while events are put -/
def vhp (g : Gr) (L : List EId) (E : List Ev) (m : Nat) : List Blk :=
 [.box (aGr g), .box (.agg [.sl 5 m 2 (fun _ => 0) fun _ => L.length, .sl 6 m 5 (fun _ => 0) fun _ => E.length, .nils, .nils]), .box (.ptr 1 0), .map (fun _ => ids L) (fun _ => is (iota L.length)), .box (.mp 3), .run m 2 fun _ => ids L, .run m 5 fun _ => evs E]
theorem put0_ok (g : Gr)  (L : List EId) (Es : List Ev) (m : Nat) (hl : L.length = Es.length) (hm : L.length ≤ 100) (d : EId) (e : Ev) (hd : d ∉ L) (L' : List EId) (Es' : List Ev) (m' : Nat) (hL' : L' = L ++ [d]) (hE' : Es' = Es ++ [e]) (hm' : m' = m + 1) :
  SCalls Try.prog γ 69 [aId d, aEv e, .ptr 2 0, .ptr 4 0] (vhp g L Es m ++ []) (Post (.tup []) (vhp g L' Es' m' ++ [])) := by
 refine SCalls.go (ty := ty) ty_eq mo Try.func69 rfl Try.ntmps69 Try.results69 Try.call69 (by simp) fun P C CQ D W F E hF => ?_
 cbv
 skip
 skip
 repeat' (first
  |(refine E.de 8 [3,5,6] [] (by decide +kernel) ?_;cbv;(fail_if_success guard_target =~ False))
  |(refine ⟨fun _ h_s=>?_,fun _ h_s=>?_⟩<;>(cbv;(try simp only [nc] at *);try simp (disch:=(first|omega|(simp only [lnS];omega))) only [rdT,rdS,reduceCtorEq,trT] at h_s))
  |(refine hF ?_;intro _;clear hF)
  |(refine hF ?_;cbv;clear hF)
  |(refine ⟨fun _=>?_,?_⟩;(· ((try simp only [nc] at *);first|done|omega|exact ⟨by omega,rfl⟩|(simp (disch:=(first|omega|(simp only [lnS];omega))) only [rdT,rdS];first|done|omega|rfl|exact ⟨by omega,rfl⟩|(simp;done)|(simp;omega))|(intros;trivial)|exact mok_ids _|exact ⟨by first|trivial|rfl,by first|trivial|rfl|simp,by first|trivial|simp,by simp;omega,by simp;omega,by simp [AV.flat,AV.cells,AV.one]⟩));try cbv)
  |(refine E.d 7 (by decide +kernel) ?_;cbv;(fail_if_success guard_target =~ False))
  | fail
 )
 have k1 := mput_new L d hd _ (knums_id d) _ rfl
 have k2 := mputV_new L d hd _ (knums_id d) (iota L.length) L.length _ rfl
 refine ⟨by simp, ⟨⟨fun _ => ⟨by omega, rfl, by simp [hL']⟩, fun _ => ⟨by omega, rfl, by simp [hE']⟩, trivial⟩, by simp⟩, ?_⟩
 refine ⟨fun _ => ⟨k1.trans (by rw [hL']), k2.trans (by rw [hL', List.length_append, List.length_singleton, iota_succ])⟩, fun _ => ⟨by omega, ?_⟩, fun _ => ⟨by omega, ?_⟩, by trivial⟩
 ·show LV.of ((ids L).l ++ (ids [d]).l) = ids L'
  rw [ids_app, ids_of, hL']
 ·show LV.of ((evs Es).l ++ (evs [e]).l) = evs Es'
  rw [evs_app, evs_of, hE']
theorem put1_ok (g : Gr) (X : Blk) (L : List EId) (Es : List Ev) (m : Nat) (hl : L.length = Es.length) (hm : L.length ≤ 100) (d : EId) (e : Ev) (hd : d ∉ L) (L' : List EId) (Es' : List Ev) (m' : Nat) (hL' : L' = L ++ [d]) (hE' : Es' = Es ++ [e]) (hm' : m' = m + 1) :
  SCalls Try.prog γ 69 [aId d, aEv e, .ptr 2 0, .ptr 4 0] (vhp g L Es m ++ [X]) (Post (.tup []) (vhp g L' Es' m' ++ [.any])) := by
 refine SCalls.go (ty := ty) ty_eq mo Try.func69 rfl Try.ntmps69 Try.results69 Try.call69 (by simp) fun P C CQ D W F E hF => ?_
 cbv
 skip
 skip
 repeat' (first
  |(refine E.de 8 [3,5,6] [] (by decide +kernel) ?_;cbv;(fail_if_success guard_target =~ False))
  |(refine ⟨fun _ h_s=>?_,fun _ h_s=>?_⟩<;>(cbv;(try simp only [nc] at *);try simp (disch:=(first|omega|(simp only [lnS];omega))) only [rdT,rdS,reduceCtorEq,trT] at h_s))
  |(refine hF ?_;intro _;clear hF)
  |(refine hF ?_;cbv;clear hF)
  |(refine ⟨fun _=>?_,?_⟩;(· ((try simp only [nc] at *);first|done|omega|exact ⟨by omega,rfl⟩|(simp (disch:=(first|omega|(simp only [lnS];omega))) only [rdT,rdS];first|done|omega|rfl|exact ⟨by omega,rfl⟩|(simp;done)|(simp;omega))|(intros;trivial)|exact mok_ids _|exact ⟨by first|trivial|rfl,by first|trivial|rfl|simp,by first|trivial|simp,by simp;omega,by simp;omega,by simp [AV.flat,AV.cells,AV.one]⟩|exact mok_ids _|exact ⟨by first|trivial|rfl,by first|trivial|rfl|simp,by first|trivial|simp,by simp;omega,by simp;omega,by simp [AV.flat,AV.cells,AV.one]⟩));try cbv)
  |(refine E.d 7 (by decide +kernel) ?_;cbv;(fail_if_success guard_target =~ False))
  | fail
 )
 have k1 := mput_new L d hd _ (knums_id d) _ rfl
 have k2 := mputV_new L d hd _ (knums_id d) (iota L.length) L.length _ rfl
 refine ⟨by simp, ⟨⟨fun _ => ⟨by omega, rfl, by simp [hL']⟩, fun _ => ⟨by omega, rfl, by simp [hE']⟩, trivial⟩, by simp⟩, ?_⟩
 refine ⟨fun _ => ⟨k1.trans (by rw [hL']), k2.trans (by rw [hL', List.length_append, List.length_singleton, iota_succ])⟩, fun _ => ⟨by omega, ?_⟩, fun _ => ⟨by omega, ?_⟩, by trivial⟩
 ·show LV.of ((ids L).l ++ (ids [d]).l) = ids L'
  rw [ids_app, ids_of, hL']
 ·show LV.of ((evs Es).l ++ (evs [e]).l) = evs Es'
  rw [evs_app, evs_of, hE']
theorem lk_num (L : List EId) (s : EId) (hs : s ∈ L) (k : List Int) (hk : k = [s.t, s.i]) (z : AV) : ((mval (mfind [.i, .i] (ids L) k) (is (iota L.length)) z).at 0).asI = (numOf L s : Nat) := by
 subst hk
 rw [mfind_ids, numOf_find hs]
 simp only [mval]
 have := numOf_lt hs
 rw [is_get _ _ (by rw [iota_len]; exact this)]
 simp only [at_i]
 simp [iota, this]
def plInit (d : EId) : Int := if d.t = 0 then 0 else -1
def plTo (g : Gr) (q : List (EId × Int)) (d : EId) : Int := if d ∈ q.map (·.1) then plOf g d else plInit d
theorem qsT_keys {g : Gr} {n : Nat} {d : EId} : d ∈ (qsT g n).map (·.1) ↔ ∃ x < n, d ∈ g.ord.getD x [] := by
 simp only [qsT, List.mem_map, List.mem_flatMap, List.mem_range]
 constructor
 ·rintro ⟨p, ⟨x, hx, d', hd', rfl⟩, rfl⟩; exact ⟨x, hx, hd'⟩
 ·rintro ⟨x, hx, hd⟩; exact ⟨_, ⟨x, hx, d, hd, rfl⟩, rfl⟩
theorem isW_event {g : Gr} {x : Int} {d : EId} (h : isW g x d = true) : ∃ e, eventM g d = some e ∧ d.t ≠ 0 ∧ writesM e = true ∧ e.loc = x := by
 unfold isW at h
 split at h
 ·rename_i e he
  simp only [Bool.and_eq_true, decide_eq_true_eq] at h
  exact ⟨e, he, h.1.1, h.1.2, h.2⟩
 ·cases h
theorem plTo_all {g : Gr} (hg : GOk g) (d : EId) : plTo g (qsT g g.ord.length) d = plOf g d := by
 unfold plTo
 split
 ·rfl
 ·rename_i h
  rw [qsT_keys] at h
  unfold plInit plOf
  split
  ·rfl
  ·split
   ·rename_i k hk
    exfalso
    rw [List.findIdx?_eq_some_iff_getElem] at hk
    obtain ⟨h1, h2, _⟩ := hk
    refine h ⟨((eventM g d).getD ev0).loc.toNat, ?_, ?_⟩
    ·rcases Nat.lt_or_ge ((eventM g d).getD ev0).loc.toNat g.ord.length with hc | hc
     ·exact hc
     ·exfalso
      rw [List.getD_eq_getElem?_getD, List.getElem?_eq_none hc] at h1
      simp at h1
    ·have := List.getElem_mem h1
     simp only [decide_eq_true_eq] at h2
     rw [h2] at this
     exact this
   ·rfl
theorem plOf_at {g : Gr} (hg : GOk g) {x i : Nat} (hx : x < g.ord.length) (hi : i < (g.ord.getD x []).length) : plOf g ((g.ord.getD x []).getD i id0) = i + 1 := by
 obtain ⟨h1, h2, h3⟩ := (ordered_iff g x).1 (hg.orders x (by have := hg.lord; omega))
 obtain ⟨e, he, h0, hw, hl⟩ := isW_event (h2 _ (getD_mem hi))
 unfold plOf
 rw [if_neg h0, he, Option.getD_some, hl, Int.toNat_natCast]
 have : (g.ord.getD x []).findIdx? (fun z => decide (z = (g.ord.getD x []).getD i id0)) = some i := by
  have hm : (g.ord.getD x []).getD i id0 ∈ g.ord.getD x [] := getD_mem hi
  have := numOf_find hm
  rw [this, numOf_at h1 hi]
 rw [this]
theorem ord_mem {g : Gr} (hg : GOk g) {x i : Nat} (hx : x < g.ord.length) (hi : i < (g.ord.getD x []).length) : (g.ord.getD x []).getD i id0 ∈ idsG g := by
 obtain ⟨h1, h2, h3⟩ := (ordered_iff g x).1 (hg.orders x (by have := hg.lord; omega))
 obtain ⟨e, he, h0, hw, hl⟩ := isW_event (h2 _ (getD_mem hi))
 rw [idsG_mem, he]; rfl
/-- an event of a thread, where it lies -/
theorem ids_where {g : Gr} (hg : GOk g) {k : Nat} (hk : k < (idsG g).length) (h0 : ((idsG g).getD k id0).t ≠ 0) :
  0 ≤ ((idsG g).getD k id0).t - 1 ∧ (((idsG g).getD k id0).t - 1).toNat < g.fr.length ∧ ((idsG g).getD k id0).t ≤ 4 ∧ 0 ≤ ((idsG g).getD k id0).i ∧ ((idsG g).getD k id0).i.toNat < (g.fr.getD (((idsG g).getD k id0).t - 1).toNat []).length := by
 have hm : (idsG g).getD k id0 ∈ idsG g := getD_mem hk
 rw [idsG, List.mem_append, idsI_mem, idsT_mem, ← idsG] at hm
 rcases hm with hm | hm
 ·exact absurd hm.1 h0
 ·have h1 := hg.lfr
  have h2 := hg.short.th
  have h3 := (hg.events (((idsG g).getD k id0).t - 1).toNat (by omega)).1
  refine ⟨by omega, by omega, by omega, hm.2.2.1, by omega⟩
end Go.AL.Rl

namespace Go.AL.Rl
open Go Go.AL Go.Proofs
set_option maxRecDepth 100000
set_option maxHeartbeats 3200000
variable {γ : Nat → Option AV}

theorem viewOf_no (g : Gr) (hg : Rd g) (h : ¬ GOk g) : Pure Try.prog γ false 47 [aGr g] (.tup [.np, .b fun _ => false]) := by
 have hc : gcheckM g ≠ 0 := by unfold gcheckM; split <;> simp [h]
 refine Pure.go (ty := ty) ty_eq mo Try.func47 rfl Try.ntmps47 Try.results47 Try.call47 (by simp) fun P C CQ D W F E hF => ?_
 cbv
 refine E.c (SCalls.of_le (gcheck_ok g hg) ?_ ?_)
 ·(cbv;(try simp only [nc] at *);first|done|(simp;done)|(simp (disch:=(first|omega|(simp only [lnS];omega))) only [rdT,rdS,anT];first|done|omega|(refine ⟨?_,?_⟩<;>omega))|(simp (disch:=(first|omega|(simp only [lnS];omega))) [rdT,rdS];done))
 cbv
 refine br_t (by simpa using hc) ?_
 cbv
 refine hF ?_
 cbv
 simp
theorem stI (n : Nat) (f : Nat → Int) (i : Nat) (y x : Int) (hi : i < n) : LV.of ((is (tabI n f)).l.set i ((AV.i fun _ => y).upd 0 (.i fun _ => x))) = is (tabI n fun j => if j = i then x else f j) := by
 simp only [is, LV.l_of]
 show LV.of (List.set _ _ (.i fun _ => x)) = _
 congr 1
 apply List.ext_getElem (by simp)
 intro j h1 h2
 simp only [List.getElem_set, tabI, List.getElem_map, List.getElem_range]
 split
 ·rename_i e; subst e; simp
 ·rename_i e; simp [Ne.symm e]
/-- the heap of viewOf, all sources told -/
def vhpF (g : Gr) (L : List EId) (E : List Ev) (n : Nat) (pl : Nat → Int) : List Blk :=
 [.box (aGr g), .box (.agg [.sl 5 n 2 (fun _ => 0) fun _ => L.length, .sl 6 n 5 (fun _ => 0) fun _ => E.length, .sl 7 1 1 (fun _ => 0) fun _ => L.length, .sl 8 1 1 (fun _ => 0) fun _ => L.length]), .box (.ptr 1 0), .map (fun _ => ids L) (fun _ => is (iota L.length)), .box (.mp 3), .run n 2 fun _ => ids L, .run n 5 fun _ => evs E, .run 1 1 fun _ => is (tabI n fun m => frOf g (L.getD m id0)), .run 1 1 fun _ => is (tabI n pl)]
theorem ordsAt {g : Gr} (hg : Rd g) (x : Nat) : ((g.ord.getD x []).length : Int) ≤ 9223372036854775807 := by
 rcases Nat.lt_or_ge x g.ord.length with h1 | h1
 ·exact hg.ords _ (getD_mem h1)
 ·simp [List.getElem?_eq_none h1]
theorem plTo_step {g : Gr} (hg : GOk g) {x i : Nat} (hx : x < g.ord.length) (hi : i < (g.ord.getD x []).length) {m : Nat} (hm : m < (idsG g).length) :
  (if m = numOf (idsG g) ((g.ord.getD x []).getD i id0) then ((i : Int) + 1) else plTo g (qsT g x ++ qsE g x i) ((idsG g).getD m id0)) = plTo g (qsT g x ++ qsE g x (i + 1)) ((idsG g).getD m id0) := by
 have hd := ord_mem hg hx hi
 rw [qsE_succ g x i hi, ← List.append_assoc]
 by_cases e : m = numOf (idsG g) ((g.ord.getD x []).getD i id0)
 ·rw [if_pos e, e, numOf_get hd, plTo, if_pos (by simp), plOf_at hg hx hi]
 ·rw [if_neg e]
  have e2 : (idsG g).getD m id0 ≠ (g.ord.getD x []).getD i id0 := fun e3 => e (by rw [← e3, numOf_at (idsG_nodup g) hm])
  unfold plTo
  have : ((idsG g).getD m id0 ∈ ((qsT g x ++ qsE g x i) ++ [((g.ord.getD x []).getD i id0, (x : Int))]).map (·.1)) ↔ ((idsG g).getD m id0 ∈ (qsT g x ++ qsE g x i).map (·.1)) := by
   rw [List.map_append, List.mem_append]
   simp only [List.map_cons, List.map_nil, List.mem_singleton, e2, or_false]
  simp only [this]
theorem viewOf_yes (g : Gr) (hg : Rd g) (h : GOk g) : Pure Try.prog γ false 47 [aGr g] (.tup [pVw (viewG g), .b fun _ => true]) := by
 have hc := gcheck0 h
 have hsh := h.short
 have hin := hsh.init
 have hth := hsh.th
 have hwf := viewG_wf h
 have hn := hwf.small
 obtain ⟨Lf, hLf⟩ : ∃ L, L = idsG g := ⟨_, rfl⟩
 obtain ⟨Mf, hMf⟩ : ∃ L, L = evsG g := ⟨_, rfl⟩
 obtain ⟨n, hnn⟩ : ∃ n, n = nG g := ⟨_, rfl⟩
 have hLn : Lf.length = n := by rw [hLf, hnn]; rfl
 have hMn : Mf.length = n := by rw [hMf, hnn]; exact hwf.ev
 refine Pure.goL (ty := ty) ty_eq mo Try.func47 rfl Try.ntmps47 Try.results47 Try.call47 (by simp) fun P C CQ D W F E hF => ?_
 refine E.cut 10 (told 165 [(1, .ptr 0 0), (4, .ptr 2 0), (5, .ptr 4 0)] (vhp g Lf Mf n)) (by kernel_rfl) (Nat.zero_le _) (fun I hI => ?_) ?_
 ·cbv
  refine E.c (SCalls.of_le (gcheck_ok g hg) ?_ ?_)
  ·(cbv;(try simp only [nc] at *);first|done|(simp;done)|(simp (disch:=(first|omega|(simp only [lnS];omega))) only [rdT,rdS,anT];first|done|omega|(refine ⟨?_,?_⟩<;>omega))|(simp (disch:=(first|omega|(simp only [lnS];omega))) [rdT,rdS];done))
  cbv
  refine br_f (by simp [hc]) ?_
  cbv
  refine E.w (AWP.ghostField 1 0 2 rfl rfl ?_)
  refine AWP.ghostField 1 1 5 rfl rfl ?_
  obtain ⟨G, hG⟩ : ∃ G : Nat → Nat, ∀ x, G x = x := ⟨_, fun _ => rfl⟩
  obtain ⟨L, hL⟩ : ∃ L : Nat → List EId, ∀ x, L x = idsI x := ⟨_, fun _ => rfl⟩
  obtain ⟨M, hM⟩ : ∃ M : Nat → List Ev, ∀ x, M x = evsI g x := ⟨_, fun _ => rfl⟩
  have hL0 : L 0 = [] := by rw [hL]; rfl
  have hM0 : M 0 = [] := by rw [hM]; rfl
  refine E.loopSA (ι:=Nat) (fun x=>x≤g.init.length) (fun x=>g.init.length - x) (fun x=>[(29,.i fun _=>((x : Nat) : Int))]) (fun x h=>vhp g (L x) (M x) (G x)) 0 (fun _=>by first|rfl|simp) (Nat.zero_le _) ?_ fun x hx I0 hI0=>?_
  ·cbv
   simp [hL0, hM0, hG, ids, evs, LV.of, is, iota]
  cbv
  have hput := put0_ok (γ := γ) g (L x) (M x) (G x) (by rw [hL, hM, idsI_len, evsI_len]) (by rw [hL, idsI_len]; omega) ⟨0, x⟩ ⟨2, x, 1, 0, g.init.getD x 0⟩ (by rw [hL, idsI_mem]; simp only; omega) (L (x + 1)) (M (x + 1)) (G (x + 1)) (by rw [hL, hL, idsI_succ]) (by rw [hM, hM, evsI_succ]) (by rw [hG, hG])
  repeat' (first
   |(refine hI0 (x + 1) ?_ ?_ ?_;rotate_left 1;(· ((try simp only [nc] at *);omega));(cbv;clear hI0;(try clear hF);(try simp only [nc] at *);(try simp (disch:=(first|omega|(simp only [lnS];omega))) only [rdT,rdS,anT]));rotate_left 1;(try ((try simp only [nc] at *);omega)))
   |(refine E.c (SCalls.to (hput) rfl (Nat.le_of_ble_eq_true rfl) ?_ ?_ ?_);(· (cbv;(try simp only [nc] at *);first|done|(simp;done)|(simp (disch:=(first|omega|(simp only [lnS];omega))) only [rdT,rdS,anT];first|done|omega|(refine ⟨?_,?_⟩<;>omega))|(simp (disch:=(first|omega|(simp only [lnS];omega))) [rdT,rdS];done)));(· (cbv;(try simp only [nc] at *);first|done|(simp;done)|(simp (disch:=(first|omega|(simp only [lnS];omega))) only [rdT,rdS,anT];first|done|omega|(refine ⟨?_,?_⟩<;>omega))|(simp (disch:=(first|omega|(simp only [lnS];omega))) [rdT,rdS];done)));cbv)
   |(refine ⟨fun _ h_s=>?_,fun _ h_s=>?_⟩<;>(cbv;(try simp only [nc] at *);try simp (disch:=(first|omega|(simp only [lnS];omega))) only [rdT,rdS,reduceCtorEq,trT] at h_s))
   |(refine hF ?_;intro _;clear hF)
   |(refine hF ?_;cbv;clear hF)
   |(refine ⟨fun _=>?_,?_⟩;(· ((try simp only [nc] at *);first|done|omega|exact ⟨by omega,rfl⟩|(simp (disch:=(first|omega|(simp only [lnS];omega))) only [rdT,rdS];first|done|omega|rfl|exact ⟨by omega,rfl⟩|(simp;done)|(simp;omega))|(intros;trivial)));(try (simp only [nc] at *));(try simp (disch:=(first|omega|(simp only [lnS];omega))) only [rdT,rdS]);(try cbv))
   |(refine E.d 9 (by decide +kernel) ?_;cbv;(fail_if_success guard_target =~ False))
   |(refine E.d 18 (by decide +kernel) ?_;cbv;(fail_if_success guard_target =~ False))
   | fail
  )
  ·omega
  clear hI0
  (try simp only [nc] at *)
  have e : x = g.init.length := by omega
  subst e
  have e1 : L g.init.length = idsI g.init.length ++ idsT g 0 := by rw [hL]; simp [idsT]
  have e2 : M g.init.length = evsI g g.init.length ++ evsT g 0 := by rw [hM]; simp [evsT]
  obtain ⟨L2, hL2⟩ : ∃ L2 : Nat → Nat → List EId, ∀ t i, L2 t i = idsI g.init.length ++ idsT g t ++ idsE t i := ⟨_, fun _ _ => rfl⟩
  obtain ⟨M2, hM2⟩ : ∃ M2 : Nat → Nat → List Ev, ∀ t i, M2 t i = evsI g g.init.length ++ evsT g t ++ (g.th.getD t []).take i := ⟨_, fun _ _ => rfl⟩
  obtain ⟨G2, hG2⟩ : ∃ G2 : Nat → Nat → Nat, ∀ t i, G2 t i = (L2 t i).length := ⟨_, fun _ _ => rfl⟩
  have f1 : L g.init.length = L2 0 0 := by rw [e1, hL2]; simp [idsE]
  have f2 : M g.init.length = M2 0 0 := by rw [e2, hM2]; simp
  have f3 : G g.init.length = G2 0 0 := by rw [hG, hG2, ← f1, hL, idsI_len]
  refine E.loopS (ι:=Nat) (fun t=>t≤g.th.length) (fun t=>g.th.length - t) (fun t=>[(45,.i fun _=>((t : Nat) : Int))]) (fun t h=>vhp g (L2 t 0) (M2 t 0) (G2 t 0)) 0 (fun _=>by first|rfl|simp) (Nat.zero_le _) ?_ fun t ht I1 hI1=>?_
  ·cbv
   simp [f1, f2, f3]
  cbv
  have hht := hsh.at t
  repeat' (first
   |(refine ⟨fun _ h_s=>?_,fun _ h_s=>?_⟩<;>(cbv;(try simp only [nc] at *);try simp (disch:=(first|omega|(simp only [lnS];omega))) only [rdT,rdS,reduceCtorEq,trT] at h_s))
   |(refine hF ?_;intro _;clear hF)
   |(refine hF ?_;cbv;clear hF)
   |(refine ⟨fun _=>?_,?_⟩;(· ((try simp only [nc] at *);first|done|omega|exact ⟨by omega,rfl⟩|(simp (disch:=(first|omega|(simp only [lnS];omega))) only [rdT,rdS];first|done|omega|rfl|exact ⟨by omega,rfl⟩|(simp;done)|(simp;omega))|(intros;trivial)));(try (simp only [nc] at *));(try simp (disch:=(first|omega|(simp only [lnS];omega))) only [rdT,rdS]);(try cbv))
   |(refine E.d 9 (by decide +kernel) ?_;cbv;(fail_if_success guard_target =~ False))
   |(refine E.d 18 (by decide +kernel) ?_;cbv;(fail_if_success guard_target =~ False))
   | fail
  )
  ·refine E.loopS (ι:=Nat) (fun i=>i≤(g.th.getD t []).length) (fun i=>(g.th.getD t []).length - i) (fun i=>[(52,.i fun _=>((i : Nat) : Int))]) (fun i h=>vhp g (L2 t i) (M2 t i) (G2 t i)) 0 (fun _=>by first|rfl|simp) (Nat.zero_le _) ?_ fun i hi I2 hI2=>?_
   ·cbv
    simp
   cbv
   have hLl : (L2 t i).length = (M2 t i).length := by
    rw [hL2, hM2]; simp only [List.length_append, idsI_len, evsI_len, idsE_len, idsT_len, List.length_take]; omega
   have hLm : (L2 t i).length ≤ 100 := by
    have := evsT_len hsh t
    rw [hL2]; simp only [List.length_append, idsI_len, idsE_len, idsT_len]; omega
   have hLnot : (⟨t + 1, i⟩ : EId) ∉ L2 t i := by
    rw [hL2, List.mem_append, List.mem_append, idsI_mem, idsT_mem, idsE_mem]; simp only; omega
   have hLs : L2 t (i + 1) = L2 t i ++ [⟨t + 1, i⟩] := by rw [hL2, hL2, idsE_succ]; simp only [List.append_assoc]
   have hMs : i < (g.th.getD t []).length → M2 t (i + 1) = M2 t i ++ [(g.th.getD t []).getD i ev0] := fun hi => by rw [hM2, hM2, take_succ' _ i ev0 hi]; simp only [List.append_assoc]
   have hGs : G2 t (i + 1) = G2 t i + 1 := by rw [hG2, hG2, hLs]; simp
   have hput := put1_ok (γ := γ) g .any (L2 t i) (M2 t i) (G2 t i) hLl hLm ⟨t + 1, i⟩ ((g.th.getD t []).getD i ev0) hLnot (L2 t (i + 1)) (M2 t (i + 1)) (G2 t (i + 1)) hLs
   repeat' (first
    |(refine hI1 (t + 1) ?_ ?_ ?_;rotate_left 1;(· ((try simp only [nc] at *);omega));(cbv;clear hI1;(try clear hF);(try simp only [nc] at *);(try simp (disch:=(first|omega|(simp only [lnS];omega))) only [rdT,rdS,anT]));rotate_left 1;(try ((try simp only [nc] at *);omega)))
    |(refine hI2 (i + 1) ?_ ?_ ?_;rotate_left 1;(· ((try simp only [nc] at *);omega));(cbv;clear hI2;(try clear hF);(try simp only [nc] at *);(try simp (disch:=(first|omega|(simp only [lnS];omega))) only [rdT,rdS,anT]));rotate_left 1;(try ((try simp only [nc] at *);omega)))
    |(refine E.c (SCalls.to (hput (hMs (by ((try simp only [nc] at *);omega))) hGs) rfl (Nat.le_of_ble_eq_true rfl) ?_ ?_ ?_);(· (cbv;(try simp only [nc] at *);first|done|(simp;done)|(simp (disch:=(first|omega|(simp only [lnS];omega))) only [rdT,rdS,anT];first|done|omega|(refine ⟨?_,?_⟩<;>omega))|(simp (disch:=(first|omega|(simp only [lnS];omega))) [rdT,rdS];done)));(· (cbv;(try simp only [nc] at *);first|done|(simp;done)|(simp (disch:=(first|omega|(simp only [lnS];omega))) only [rdT,rdS,anT];first|done|omega|(refine ⟨?_,?_⟩<;>omega))|(simp (disch:=(first|omega|(simp only [lnS];omega))) [rdT,rdS];done)));cbv)
    |(refine ⟨fun _ h_s=>?_,fun _ h_s=>?_⟩<;>(cbv;(try simp only [nc] at *);try simp (disch:=(first|omega|(simp only [lnS];omega))) only [rdT,rdS,reduceCtorEq,trT] at h_s))
    |(refine hF ?_;intro _;clear hF)
    |(refine hF ?_;cbv;clear hF)
    |(refine ⟨fun _=>?_,?_⟩;(· ((try simp only [nc] at *);first|done|omega|exact ⟨by omega,rfl⟩|(simp (disch:=(first|omega|(simp only [lnS];omega))) only [rdT,rdS];first|done|omega|rfl|exact ⟨by omega,rfl⟩|(simp;done)|(simp;omega))|(intros;trivial)));(try (simp only [nc] at *));(try simp (disch:=(first|omega|(simp only [lnS];omega))) only [rdT,rdS]);(try cbv))
    |(refine E.d 9 (by decide +kernel) ?_;cbv;(fail_if_success guard_target =~ False))
    |(refine E.d 18 (by decide +kernel) ?_;cbv;(fail_if_success guard_target =~ False))
    | fail
   )
   ·omega
   ·clear hput
    have e : i = (g.th.getD t []).length := by omega
    subst e
    have q1 : L2 t (g.th.getD t []).length = L2 (t + 1) 0 := by rw [hL2, hL2, idsT_succ]; simp [idsE]
    have q2 : M2 t (g.th.getD t []).length = M2 (t + 1) 0 := by rw [hM2, hM2, evsT_succ, List.take_length]; simp
    have q3 : G2 t (g.th.getD t []).length = G2 (t + 1) 0 := by rw [hG2, hG2, q1]
    simp only [q1, q2, q3, and_self, and_true]
    omega
  ·refine hI ?_
   cbv
   clear hI hI1 hF
   have e : t = g.th.length := by ((try simp only [nc] at *); omega)
   subst e
   (try simp only [nc] at *)
   (try simp (disch:=(first|omega|(simp only [lnS];omega))) only [rdT,rdS,anT])
   have q1 : L2 g.th.length 0 = Lf := by rw [hL2, hLf]; simp [idsE, idsG]
   have q2 : M2 g.th.length 0 = Mf := by rw [hM2, hMf]; simp [evsG]
   have q3 : G2 g.th.length 0 = n := by rw [hG2, q1, hLn]
   simp only [q1, q2, q3, and_self]
 refine E.cut 3 (told 165 [(1, .ptr 0 0), (4, .ptr 2 0), (5, .ptr 4 0)] (vhpF g Lf Mf n (fun m => plInit (Lf.getD m id0)))) (by kernel_rfl) (Nat.zero_le _) (fun I hI => ?_) (E.bl ?_)
 ·cbv
  refine E.de 17 [1] [some 1, some 1] (by decide +kernel) ?_
  cbv
  refine ⟨fun _ => ?_, ?_⟩
  ·((try simp only [nc] at *);first|done|omega|exact ⟨by omega,rfl⟩|(simp (disch:=(first|omega|(simp only [lnS];omega))) only [rdT,rdS];first|done|omega|rfl|exact ⟨by omega,rfl⟩|(simp;done)|(simp;omega))|(intros;trivial))
  try cbv
  refine ⟨fun _ => ?_, ?_⟩
  ·((try simp only [nc] at *);first|done|omega|exact ⟨by omega,rfl⟩|(simp (disch:=(first|omega|(simp only [lnS];omega))) only [rdT,rdS];first|done|omega|rfl|exact ⟨by omega,rfl⟩|(simp;done)|(simp;omega))|(intros;trivial))
  try cbv
  obtain ⟨fr, hfr⟩ : ∃ fr : Nat → Nat → Int, ∀ k m, fr k m = if m < k then frOf g (Lf.getD m id0) else 0 := ⟨_, fun _ _ => rfl⟩
  obtain ⟨pl, hpl⟩ : ∃ pl : Nat → Nat → Int, ∀ k m, pl k m = if m < k then plInit (Lf.getD m id0) else 0 := ⟨_, fun _ _ => rfl⟩
  have hfr0 : fr 0 = fun _ => 0 := funext fun m => by rw [hfr, if_neg (Nat.not_lt_zero m)]
  have hpl0 : pl 0 = fun _ => 0 := funext fun m => by rw [hpl, if_neg (Nat.not_lt_zero m)]
  clear hF
  refine E.loopS (ι:=Nat) (fun k=>k≤n) (fun k=>n - k) (fun k=>[(89,.i fun _=>((k : Nat) : Int))]) (fun k h=>(h.set 7 (.run 1 1 fun _=>is (tabI n (fr k)))).set 8 (.run 1 1 fun _=>is (tabI n (pl k)))) 0 (fun _=>by first|rfl|simp) (Nat.zero_le _) ?_ fun k hk I2 hI2=>?_
  ·cbv
   simp only [hfr0, hpl0, tabI_zero, hLn, Int.toNat_natCast, implies_true, and_self, true_and, and_true]
   exact ⟨fun _ => by simp [is], fun _ => by simp [is]⟩
  cbv
  have hkn : 0 + k = k := Nat.zero_add k
  have hrd := fun hk : k < n => dreads0_ok (γ := γ) ⟨Lf, Mf, tabI n fun j => if j = k then -1 else fr k j, tabI n fun j => if j = k then -1 else pl k j⟩ k (by rw [hMn]; exact hk)
  skip
  skip
  skip
  repeat' (first
   |(refine hI2 (k + 1) ?_ ?_ ?_;rotate_left 1;(· ((try simp only [nc] at *);omega));(cbv;clear hI2;(try clear hF);(try simp only [nc] at *);(try simp (disch:=(first|omega|(simp only [lnS,tabI_len];omega))) only [rdT,rdS,Nat.zero_add,true_and,tabI_len,stI,List.drop_zero,List.take_of_length_le,anT]));rotate_left 1;(try ((try simp only [nc] at *);omega)))
   |(refine E.c (SCalls.of_bare (hrd (by ((try simp only [nc] at *);omega))) rfl ?_ ?_);(· (cbv;(try simp only [nc] at *);first|done|(simp;done)|(simp (disch:=(first|omega|(simp only [lnS,tabI_len];omega))) only [rdT,rdS,Nat.zero_add,true_and,tabI_len,stI,List.drop_zero,List.take_of_length_le,anT];first|done|omega|(refine ⟨?_,?_⟩<;>omega))|(simp (disch:=(first|omega|(simp only [lnS,tabI_len];omega))) [rdT,rdS,Nat.zero_add,true_and,tabI_len,stI,List.drop_zero,List.take_of_length_le];done)));cbv)
   |(refine E.q (QCalls.of_bare (hrd (by ((try simp only [nc] at *);omega))) rfl ?_ ?_);(· (cbv;(try simp only [nc] at *);first|done|(simp;done)|(simp (disch:=(first|omega|(simp only [lnS,tabI_len];omega))) only [rdT,rdS,Nat.zero_add,true_and,tabI_len,stI,List.drop_zero,List.take_of_length_le,anT];first|done|omega|(refine ⟨?_,?_⟩<;>omega))|(simp (disch:=(first|omega|(simp only [lnS,tabI_len];omega))) [rdT,rdS,Nat.zero_add,true_and,tabI_len,stI,List.drop_zero,List.take_of_length_le];done)));cbv)
   |(refine E.de 12 [7,8] [] (by decide +kernel) ?_;cbv;(fail_if_success guard_target =~ False))
   |(refine ⟨fun _ h_s=>?_,fun _ h_s=>?_⟩<;>(cbv;(try simp only [nc] at *);try simp (disch:=(first|omega|(simp only [lnS,tabI_len];omega))) only [rdT,rdS,Nat.zero_add,true_and,tabI_len,stI,List.drop_zero,List.take_of_length_le,reduceCtorEq,trT] at h_s))
   |(refine hF ?_;intro _;clear hF)
   |(refine hF ?_;cbv;clear hF)
   |(refine ⟨fun _=>?_,?_⟩;(· ((try simp only [nc] at *);first|done|omega|exact ⟨by omega,rfl⟩|(simp (disch:=(first|omega|(simp only [lnS,tabI_len];omega))) only [rdT,rdS,Nat.zero_add,true_and,tabI_len,stI,List.drop_zero,List.take_of_length_le];first|done|omega|rfl|exact ⟨by omega,rfl⟩|(simp;done)|(simp;omega))|(intros;trivial)|exact rfl|exact ⟨by omega,by rw [istab_get _ _ _ (by omega)];rfl⟩));(try (simp only [nc] at *));(try simp (disch:=(first|omega|(simp only [lnS,tabI_len];omega))) only [rdT,rdS,Nat.zero_add,true_and,tabI_len,stI,List.drop_zero,List.take_of_length_le]);(try cbv))
   |(refine E.d 9 (by decide +kernel) ?_;cbv;(fail_if_success guard_target =~ False))
   |(refine E.d 18 (by decide +kernel) ?_;cbv;(fail_if_success guard_target =~ False))
   | fail
  )
  ·rename_i hs0
   refine ⟨by push_cast; rfl, congrArg is (tabI_congr fun j hj => ?_), congrArg is (tabI_congr fun j hj => ?_)⟩
   ·rw [hfr, hfr]
    split
    ·rename_i e; subst e; rw [if_pos (by omega), frOf, if_pos h_s]
    ·rename_i e; by_cases hjk : j < k
     ·rw [if_pos hjk, if_pos (by omega)]
     ·rw [if_neg hjk, if_neg (by omega)]
   ·rw [hpl, hpl]
    split
    ·rename_i e; subst e; rw [if_pos (by omega), plInit, if_pos h_s]
    ·rename_i e; by_cases hjk : j < k
     ·rw [if_pos hjk, if_pos (by omega)]
     ·rw [if_neg hjk, if_neg (by omega)]
  ·have hkl : k < Lf.length := by ((try simp only [nc] at *); omega)
   have hw : 0 ≤ (Lf.getD k ⟨0, 0⟩).t - 1 ∧ ((Lf.getD k ⟨0, 0⟩).t - 1).toNat < g.fr.length ∧ (Lf.getD k ⟨0, 0⟩).t ≤ 4 ∧ 0 ≤ (Lf.getD k ⟨0, 0⟩).i ∧ (Lf.getD k ⟨0, 0⟩).i.toNat < (g.fr.getD ((Lf.getD k ⟨0, 0⟩).t - 1).toNat []).length := by
    subst hLf
    exact ids_where h hkl (by assumption)
   obtain ⟨w1, w2, w3, w4, w5⟩ := hw
   have hev : eventM g (Lf.getD k ⟨0, 0⟩) = some (Mf.getD k ⟨0, 0, 0, 0, 0⟩) := by
    subst hLf hMf
    exact evsG_get g k hkl
   have hsm : (g.fr.getD ((Lf.getD k ⟨0, 0⟩).t - 1).toNat []).getD (Lf.getD k ⟨0, 0⟩).i.toNat ⟨0, 0⟩ ∈ Lf := by
    have hm : Lf.getD k ⟨0, 0⟩ ∈ idsG g := by rw [← hLf]; exact getD_mem hkl
    obtain ⟨w, hw, _⟩ := source_mem (src_ok h hm (by omega)) (by rw [hev]; exact h_s)
    rw [hLf]
    exact idsG_mem.2 (by rw [← hLf]; exact congrArg Option.isSome hw)
   have hfo : frOf g (Lf.getD k id0) = (numOf Lf ((g.fr.getD ((Lf.getD k ⟨0, 0⟩).t - 1).toNat []).getD (Lf.getD k ⟨0, 0⟩).i.toNat ⟨0, 0⟩) : Nat) := by
    unfold frOf
    rw [if_neg (by assumption), show eventM g (Lf.getD k id0) = _ from hev, Option.getD_some, if_pos h_s, ← hLf]; rfl
   have hv := fun z => lk_num Lf _ hsm _ rfl z
   (try simp only [nc] at *)
   simp (disch:=first|omega) only [w64_of]
   simp (disch:=first|omega) only [idss_len,Int.toNat_of_nonneg,idss_get,at_l,asL_vs,ids_len,ids_get,at_d0,at_d1,asI_i,Int.toNat_natCast,knums_id,hv]
   skip
   repeat' (first
    |(refine hI2 (k + 1) ?_ ?_ ?_;rotate_left 1;(· ((try simp only [nc] at *);omega));(cbv;clear hI2;(try clear hF);(try simp only [nc] at *);(try simp (disch:=(first|omega|(simp only [lnS,tabI_len];omega))) only [rdT,rdS,Nat.zero_add,true_and,tabI_len,stI,List.drop_zero,List.take_of_length_le,anT]));rotate_left 1;(try ((try simp only [nc] at *);omega)))
    |(refine ⟨fun _ h_s=>?_,fun _ h_s=>?_⟩<;>(cbv;(try simp only [nc] at *);try simp (disch:=(first|omega|(simp only [lnS,tabI_len];omega))) only [rdT,rdS,Nat.zero_add,true_and,tabI_len,stI,List.drop_zero,List.take_of_length_le,reduceCtorEq,trT] at h_s))
    |(refine hF ?_;intro _;clear hF)
    |(refine hF ?_;cbv;clear hF)
    |(refine ⟨fun _=>?_,?_⟩;(· ((try simp only [nc] at *);first|done|omega|exact ⟨by omega,rfl⟩|(simp (disch:=(first|omega|(simp only [lnS,tabI_len];omega))) only [rdT,rdS,Nat.zero_add,true_and,tabI_len,stI,List.drop_zero,List.take_of_length_le];first|done|omega|rfl|exact ⟨by omega,rfl⟩|(simp;done)|(simp;omega))|(intros;trivial)|exact rfl|exact ⟨by omega,by rw [istab_get _ _ _ (by omega)];rfl⟩|exact ⟨mok_ids _,is_vals _⟩));(try (simp only [nc] at *));(try simp (disch:=(first|omega|(simp only [lnS,tabI_len];omega))) only [rdT,rdS,Nat.zero_add,true_and,tabI_len,stI,List.drop_zero,List.take_of_length_le]);(try cbv))
    |(refine E.d 9 (by decide +kernel) ?_;cbv;(fail_if_success guard_target =~ False))
    |(refine E.d 18 (by decide +kernel) ?_;cbv;(fail_if_success guard_target =~ False))
    | fail
   )
   refine ⟨by push_cast; rfl, congrArg is (tabI_congr fun j hj => ?_), congrArg is (tabI_congr fun j hj => ?_)⟩
   ·rw [hfr, hfr]
    split
    ·rename_i e; subst e; rw [if_pos (by omega)]; exact hfo.symm
    ·rename_i e; by_cases hjk : j < k
     ·rw [if_pos hjk, if_pos (by omega)]
     ·rw [if_neg hjk, if_neg (by omega)]
   ·rw [hpl, hpl]
    split
    ·rename_i e; subst e; rw [if_pos (by omega), plInit, if_neg (by assumption)]
    ·rename_i e; by_cases hjk : j < k
     ·rw [if_pos hjk, if_pos (by omega)]
     ·rw [if_neg hjk, if_neg (by omega)]
  ·have hkl : k < Lf.length := by ((try simp only [nc] at *); omega)
   have hev : eventM g (Lf.getD k ⟨0, 0⟩) = some (Mf.getD k ⟨0, 0, 0, 0, 0⟩) := by
    subst hLf hMf
    exact evsG_get g k hkl
   refine ⟨by push_cast; rfl, congrArg is (tabI_congr fun j hj => ?_), congrArg is (tabI_congr fun j hj => ?_)⟩
   ·rw [hfr, hfr]
    split
    ·rename_i e; subst e; rw [if_pos (by omega), frOf, if_neg (by assumption), show eventM g (Lf.getD j id0) = _ from hev, Option.getD_some, h_s, if_neg (by simp)]
    ·rename_i e; by_cases hjk : j < k
     ·rw [if_pos hjk, if_pos (by omega)]
     ·rw [if_neg hjk, if_neg (by omega)]
   ·rw [hpl, hpl]
    split
    ·rename_i e; subst e; rw [if_pos (by omega), plInit, if_neg (by assumption)]
    ·rename_i e; by_cases hjk : j < k
     ·rw [if_pos hjk, if_pos (by omega)]
     ·rw [if_neg hjk, if_neg (by omega)]
  ·refine hI ?_
   cbv
   clear hI hI2
   have e : k = n := by ((try simp only [nc] at *); omega)
   have q1 : is (tabI n (fr k)) = is (tabI n fun m => frOf g (Lf.getD m ⟨0, 0⟩)) := congrArg is (tabI_congr fun m hm => by rw [hfr, if_pos (by omega)])
   have q2 : is (tabI n (pl k)) = is (tabI n fun m => plInit (Lf.getD m ⟨0, 0⟩)) := congrArg is (tabI_congr fun m hm => by rw [hpl, if_pos (by omega)])
   simp only [q1, q2, Int.toNat_natCast, implies_true, and_self]
 ·obtain ⟨plx, hplx⟩ : ∃ plx : Nat → Nat → Nat → Int, ∀ x i m, plx x i m = plTo g (qsT g x ++ qsE g x i) (Lf.getD m id0) := ⟨_, fun _ _ _ => rfl⟩
  have hp0 : (fun m => plInit (Lf.getD m id0)) = plx 0 0 := funext fun m => by rw [hplx]; rfl
  have hpE : plx g.ord.length 0 = fun m => plOf g (Lf.getD m id0) := funext fun m => by
   rw [hplx, show qsE g g.ord.length 0 = [] by simp [qsE], List.append_nil, plTo_all h]
  have hpS : ∀ x, plx x (g.ord.getD x []).length = plx (x + 1) 0 := fun x => funext fun m => by
   rw [hplx, hplx, qsT_succ, show qsE g (x + 1) 0 = [] by simp [qsE], List.append_nil]
  rw [hp0]
  have hord := hg.ord
  cbv
  refine E.loopS (ι:=Nat) (fun x=>x≤g.ord.length) (fun x=>g.ord.length - x) (fun x=>[(141,.i fun _=>((x : Nat) : Int))]) (fun x h=>h.set 8 (.run 1 1 fun _=>is (tabI n (plx x 0)))) 0 (fun _=>by first|rfl|simp) (Nat.zero_le _) ?_ fun x hx I3 hI3=>?_
  ·cbv
   simp
  cbv
  have hol : ((g.ord.getD x []).length : Int) ≤ 9223372036854775807 := ordsAt hg x
  skip
  repeat' (first
   |(refine ⟨fun _ h_s=>?_,fun _ h_s=>?_⟩<;>(cbv;(try simp only [nc] at *);try simp (disch:=(first|omega|(simp only [lnS,tabI_len,tabI_len];omega))) only [rdT,rdS,Nat.zero_add,true_and,tabI_len,stI,List.drop_zero,List.take_of_length_le,tabI_len,stI,reduceCtorEq,trT] at h_s))
   |(refine hF ?_;intro _;clear hF)
   |(refine hF ?_;cbv;clear hF)
   |(refine ⟨fun _=>?_,?_⟩;(· ((try simp only [nc] at *);first|done|omega|exact ⟨by omega,rfl⟩|(simp (disch:=(first|omega|(simp only [lnS,tabI_len,tabI_len];omega))) only [rdT,rdS,Nat.zero_add,true_and,tabI_len,stI,List.drop_zero,List.take_of_length_le,tabI_len,stI];first|done|omega|rfl|exact ⟨by omega,rfl⟩|(simp;done)|(simp;omega))|(intros;trivial)|exact rfl|exact ⟨by omega,by rw [istab_get _ _ _ (by omega)];rfl⟩|exact ⟨mok_ids _,is_vals _⟩));(try (simp only [nc] at *));(try simp (disch:=(first|omega|(simp only [lnS,tabI_len,tabI_len];omega))) only [rdT,rdS,Nat.zero_add,true_and,tabI_len,stI,List.drop_zero,List.take_of_length_le,tabI_len,stI]);(try cbv))
   |(refine E.d 9 (by decide +kernel) ?_;cbv;(fail_if_success guard_target =~ False))
   |(refine E.d 18 (by decide +kernel) ?_;cbv;(fail_if_success guard_target =~ False))
   | fail
  )
  ·have hxx : x < g.ord.length := by ((try simp only [nc] at *); omega)
   refine E.loopS (ι:=Nat) (fun i=>i≤(g.ord.getD x []).length) (fun i=>(g.ord.getD x []).length - i) (fun i=>[(147,.i fun _=>((i : Nat) : Int))]) (fun i h=>h.set 8 (.run 1 1 fun _=>is (tabI n (plx x i)))) 0 (fun _=>by first|rfl|simp) (Nat.zero_le _) ?_ fun i hi I4 hI4=>?_
   ·cbv
    simp
   cbv
   have hnum : i < (g.ord.getD x []).length → numOf Lf ((g.ord.getD x []).getD i ⟨0, 0⟩) < n ∧ ∀ z, ((mval (mfind [.i, .i] (ids Lf) [((g.ord.getD x []).getD i ⟨0, 0⟩).t, ((g.ord.getD x []).getD i ⟨0, 0⟩).i]) (is (iota Lf.length)) z).at 0).asI = (numOf Lf ((g.ord.getD x []).getD i ⟨0, 0⟩) : Nat) := fun hi => by
    have hm : (g.ord.getD x []).getD i ⟨0, 0⟩ ∈ Lf := by rw [hLf]; exact ord_mem h hxx hi
    exact ⟨by rw [← hLn]; exact numOf_lt hm, fun z => lk_num Lf _ hm _ rfl z⟩
   skip
   skip
   repeat' (first
    |(refine ⟨fun _ h_s=>?_,fun _ h_s=>?_⟩<;>(cbv;(try simp only [nc] at *);try simp (disch:=(first|omega|(simp only [lnS,tabI_len,tabI_len];omega))) only [rdT,rdS,Nat.zero_add,true_and,tabI_len,stI,List.drop_zero,List.take_of_length_le,tabI_len,stI,Nat.zero_add,reduceCtorEq,trT] at h_s))
    |(refine hF ?_;intro _;clear hF)
    |(refine hF ?_;cbv;clear hF)
    |(refine ⟨fun _=>?_,?_⟩;(· ((try simp only [nc] at *);first|done|omega|exact ⟨by omega,rfl⟩|(simp (disch:=(first|omega|(simp only [lnS,tabI_len,tabI_len];omega))) only [rdT,rdS,Nat.zero_add,true_and,tabI_len,stI,List.drop_zero,List.take_of_length_le,tabI_len,stI,Nat.zero_add];first|done|omega|rfl|exact ⟨by omega,rfl⟩|(simp;done)|(simp;omega))|(intros;trivial)|exact rfl|exact ⟨by omega,by rw [istab_get _ _ _ (by omega)];rfl⟩|exact ⟨mok_ids _,is_vals _⟩|exact rfl));(try (simp only [nc] at *));(try simp (disch:=(first|omega|(simp only [lnS,tabI_len,tabI_len];omega))) only [rdT,rdS,Nat.zero_add,true_and,tabI_len,stI,List.drop_zero,List.take_of_length_le,tabI_len,stI,Nat.zero_add]);(try cbv))
    |(refine E.d 9 (by decide +kernel) ?_;cbv;(fail_if_success guard_target =~ False))
    |(refine E.d 18 (by decide +kernel) ?_;cbv;(fail_if_success guard_target =~ False))
    | fail
   )
   ·obtain ⟨hn1, hn2⟩ := hnum (by ((try simp only [nc] at *); omega))
    simp only [knums_id, hn2]
    skip
    have hii : i < (g.ord.getD x []).length := by ((try simp only [nc] at *); omega)
    repeat' (first
     |(refine hI4 (i + 1) ?_ ?_ ?_;rotate_left 1;(· ((try simp only [nc] at *);omega));(cbv;clear hI4;(try clear hF);(try simp only [nc] at *);(try simp (disch:=(first|omega|(simp only [lnS,tabI_len,tabI_len];omega))) only [rdT,rdS,Nat.zero_add,true_and,tabI_len,stI,List.drop_zero,List.take_of_length_le,tabI_len,stI,Nat.zero_add,anT]));rotate_left 1;(try ((try simp only [nc] at *);omega)))
     |(refine ⟨fun _ h_s=>?_,fun _ h_s=>?_⟩<;>(cbv;(try simp only [nc] at *);try simp (disch:=(first|omega|(simp only [lnS,tabI_len,tabI_len];omega))) only [rdT,rdS,Nat.zero_add,true_and,tabI_len,stI,List.drop_zero,List.take_of_length_le,tabI_len,stI,Nat.zero_add,reduceCtorEq,trT] at h_s))
     |(refine hF ?_;intro _;clear hF)
     |(refine hF ?_;cbv;clear hF)
     |(refine ⟨fun _=>?_,?_⟩;(· ((try simp only [nc] at *);first|done|omega|exact ⟨by omega,rfl⟩|(simp (disch:=(first|omega|(simp only [lnS,tabI_len,tabI_len];omega))) only [rdT,rdS,Nat.zero_add,true_and,tabI_len,stI,List.drop_zero,List.take_of_length_le,tabI_len,stI,Nat.zero_add];first|done|omega|rfl|exact ⟨by omega,rfl⟩|(simp;done)|(simp;omega))|(intros;trivial)|exact rfl|exact ⟨by omega,by rw [istab_get _ _ _ (by omega)];rfl⟩|exact ⟨mok_ids _,is_vals _⟩|exact rfl|exact ⟨mok_ids _,is_vals _⟩));(try (simp only [nc] at *));(try simp (disch:=(first|omega|(simp only [lnS,tabI_len,tabI_len];omega))) only [rdT,rdS,Nat.zero_add,true_and,tabI_len,stI,List.drop_zero,List.take_of_length_le,tabI_len,stI,Nat.zero_add]);(try cbv))
     |(refine E.d 9 (by decide +kernel) ?_;cbv;(fail_if_success guard_target =~ False))
     |(refine E.d 18 (by decide +kernel) ?_;cbv;(fail_if_success guard_target =~ False))
     | fail
    )
    refine ⟨by push_cast; rfl, congrArg is (tabI_congr fun j hj => ?_)⟩
    have := plTo_step h hxx hii (m := j) (by rw [← hLf, hLn]; exact hj)
    rw [hplx, hplx, hLf]
    rw [hLf] at hn1 hn2
    exact this
   ·have e : i = (g.ord.getD x []).length := by ((try simp only [nc] at *); omega)
    subst e
    rw [hpS]
    repeat' (first
     |(refine hI3 (x + 1) ?_ ?_ ?_;rotate_left 1;(· ((try simp only [nc] at *);omega));(cbv;clear hI3;(try clear hF);(try simp only [nc] at *);(try simp (disch:=(first|omega|(simp only [lnS,tabI_len,tabI_len];omega))) only [rdT,rdS,Nat.zero_add,true_and,tabI_len,stI,List.drop_zero,List.take_of_length_le,tabI_len,stI,Nat.zero_add,anT]));rotate_left 1;(try ((try simp only [nc] at *);omega)))
     |(refine ⟨fun _ h_s=>?_,fun _ h_s=>?_⟩<;>(cbv;(try simp only [nc] at *);try simp (disch:=(first|omega|(simp only [lnS,tabI_len,tabI_len];omega))) only [rdT,rdS,Nat.zero_add,true_and,tabI_len,stI,List.drop_zero,List.take_of_length_le,tabI_len,stI,Nat.zero_add,reduceCtorEq,trT] at h_s))
     |(refine hF ?_;intro _;clear hF)
     |(refine hF ?_;cbv;clear hF)
     |(refine ⟨fun _=>?_,?_⟩;(· ((try simp only [nc] at *);first|done|omega|exact ⟨by omega,rfl⟩|(simp (disch:=(first|omega|(simp only [lnS,tabI_len,tabI_len];omega))) only [rdT,rdS,Nat.zero_add,true_and,tabI_len,stI,List.drop_zero,List.take_of_length_le,tabI_len,stI,Nat.zero_add];first|done|omega|rfl|exact ⟨by omega,rfl⟩|(simp;done)|(simp;omega))|(intros;trivial)|exact rfl|exact ⟨by omega,by rw [istab_get _ _ _ (by omega)];rfl⟩|exact ⟨mok_ids _,is_vals _⟩|exact rfl|exact ⟨mok_ids _,is_vals _⟩));try cbv)
     |(refine E.d 9 (by decide +kernel) ?_;cbv;(fail_if_success guard_target =~ False))
     |(refine E.d 18 (by decide +kernel) ?_;cbv;(fail_if_success guard_target =~ False))
     | fail
    )
    push_cast; rfl
  ·have e : x = g.ord.length := by ((try simp only [nc] at *); omega)
   subst e
   rw [hpE]
   simp only [viewG, ← hLf, ← hMf, ← hnn, hLn, hMn]
   simp [List.take_of_length_le, hLn, hMn, id0]
end Go.AL.Rl

namespace Go.AL.Rl
open Go Go.AL Go.Proofs
set_option maxRecDepth 100000
set_option maxHeartbeats 1600000
variable {γ : Nat → Option AV}

def poF (V : Vw) (n : Nat) : List (BitVec 64) := relRows n (poM V)
def rfF (V : Vw) (n : Nat) : List (BitVec 64) := relRows n (rfM V)
def coF (V : Vw) (n : Nat) : List (BitVec 64) := relRows n (coM V)
def frF (V : Vw) (n : Nat) : List (BitVec 64) := relRows n (frM V)
def locF (V : Vw) (n : Nat) : List (BitVec 64) := relRows n (locM V)
noncomputable def swF (V : Vw) (n : Nat) : List (BitVec 64) := relRows n (bit (swRows V n))
def ecoF (V : Vw) (n : Nat) : List (BitVec 64) := plusM n (orM n [((n : Int), rfF V n), ((n : Int), coF V n), ((n : Int), frF V n)])
def porfF (V : Vw) (n : Nat) : List (BitVec 64) := plusM n (orM n [((n : Int), poF V n), ((n : Int), rfF V n)])
noncomputable def hbF (V : Vw) (n : Nat) : List (BitVec 64) := plusM n (orM n [((n : Int), poF V n), ((n : Int), swF V n)])
theorem viewOf_ok (g : Gr) (hg : Rd g) (h : GOk g) : Pure Try.prog γ false 47 [aGr g] (.tup [.vp (fun _ => aVw (viewG g)) 0, .b fun _ => true]) := viewOf_yes g hg h
theorem vpoF_ok (V : Vw) {n : Nat} (hV : Wf V n) : Pure Try.prog γ false 48 [pVw V, .fn 49 [.vp (fun _ => aVw V) 0] []] (encRel n (poF V n)) :=
 drel1_ok (γ := γ) V hV 49 (fun _ => aVw V) _ (fun a ha b hb => dpo_ok V hV a b ha hb)
theorem vrfF_ok (V : Vw) {n : Nat} (hV : Wf V n) : Pure Try.prog γ false 48 [pVw V, .fn 50 [.vp (fun _ => aVw V) 0] []] (encRel n (rfF V n)) :=
 drel1_ok (γ := γ) V hV 50 (fun _ => aVw V) _ (fun a ha b hb => drf_ok V hV a b ha hb)
theorem vcoF_ok (V : Vw) {n : Nat} (hV : Wf V n) : Pure Try.prog γ false 48 [pVw V, .fn 51 [.vp (fun _ => aVw V) 0] []] (encRel n (coF V n)) :=
 drel1_ok (γ := γ) V hV 51 (fun _ => aVw V) _ (fun a ha b hb => dco_ok V hV a b ha hb)
theorem vfrF_ok (V : Vw) {n : Nat} (hV : Wf V n) : Pure Try.prog γ false 48 [pVw V, .fn 52 [.vp (fun _ => aVw V) 0] []] (encRel n (frF V n)) :=
 drel1_ok (γ := γ) V hV 52 (fun _ => aVw V) _ (fun a ha b hb => dfr_ok V hV a b ha hb)
theorem vlocF_ok (V : Vw) {n : Nat} (hV : Wf V n) : Pure Try.prog γ false 48 [pVw V, .fn 55 [.vp (fun _ => aVw V) 0] []] (encRel n (locF V n)) :=
 drel1_ok (γ := γ) V hV 55 (fun _ => aVw V) _ (fun a ha b hb => dloc_ok V hV a b ha hb)
theorem vswF_ok (V : Vw) {n : Nat} (hV : Wf V n) : Pure Try.prog γ false 56 [pVw V] (encRel n (swF V n)) := dsw_ok V hV
theorem fits_poF (V : Vw) {n : Nat} (h : n ≤ 62) : Fits n (poF V n) := fits_rel (by omega) _
theorem fits_rfF (V : Vw) {n : Nat} (h : n ≤ 62) : Fits n (rfF V n) := fits_rel (by omega) _
theorem fits_coF (V : Vw) {n : Nat} (h : n ≤ 62) : Fits n (coF V n) := fits_rel (by omega) _
theorem fits_frF (V : Vw) {n : Nat} (h : n ≤ 62) : Fits n (frF V n) := fits_rel (by omega) _
theorem fits_swF (V : Vw) {n : Nat} (h : n ≤ 62) : Fits n (swF V n) := fits_rel (by omega) _
end Go.AL.Rl

namespace Go.AL.Rl
open Go Go.AL Go.Proofs
set_option maxRecDepth 100000
set_option maxHeartbeats 1600000
variable {γ : Nat → Option AV}

abbrev aDer (n : Int) (po rf co fr eco porf loc sw hb : List (BitVec 64)) : AV :=
 .agg [.i fun _ => n, .vs 1 fun _ => us po, .i fun _ => n, .vs 1 fun _ => us rf, .i fun _ => n, .vs 1 fun _ => us co, .i fun _ => n, .vs 1 fun _ => us fr, .i fun _ => n, .vs 1 fun _ => us eco, .i fun _ => n, .vs 1 fun _ => us porf, .i fun _ => n, .vs 1 fun _ => us loc, .i fun _ => n, .vs 1 fun _ => us sw, .i fun _ => n, .vs 1 fun _ => us hb]
theorem or3 (n : Nat) (a b c : List (BitVec 64)) (ha : Fits n a) (hb : Fits n b) (hc : Fits n c) : Pure Try.prog γ false 54 [.vs 2 fun _ => rls [((n : Int), a), ((n : Int), b), ((n : Int), c)]] (encRel n (orM n [((n : Int), a), ((n : Int), b), ((n : Int), c)])) :=
 or_yes _ (by simp) (alike3 n a b c ha hb hc) n rfl
theorem dAll_yes (g : Gr) (hg : Rd g) (h : GOk g) : Pure Try.prog γ false 39 [aGr g] (.tup [aDer (nG g : Nat) (poF (viewG g) (nG g)) (rfF (viewG g) (nG g)) (coF (viewG g) (nG g)) (frF (viewG g) (nG g)) (ecoF (viewG g) (nG g)) (porfF (viewG g) (nG g)) (locF (viewG g) (nG g)) (swF (viewG g) (nG g)) (hbF (viewG g) (nG g)), .i fun _ => 0]) := by
 have hV := viewG_wf h
 have a1 := vpoF_ok (γ := γ) (viewG g) hV
 have a2 := vrfF_ok (γ := γ) (viewG g) hV
 have a3 := vcoF_ok (γ := γ) (viewG g) hV
 have a4 := vfrF_ok (γ := γ) (viewG g) hV
 have a5 := vlocF_ok (γ := γ) (viewG g) hV
 have a6 := vswF_ok (γ := γ) (viewG g) hV
 have f1 := fits_poF (viewG g) hV.small
 have f2 := fits_rfF (viewG g) hV.small
 have f3 := fits_coF (viewG g) hV.small
 have f4 := fits_frF (viewG g) hV.small
 have f6 := fits_swF (viewG g) hV.small
 have o1 := or3 (γ := γ) (nG g) _ _ _ f2 f3 f4
 have o2 := or2 (γ := γ) (nG g) _ _ f1 f2
 have o3 := or2 (γ := γ) (nG g) _ _ f1 f6
 have p1 := plus_ok (γ := γ) (nG g) _ (fits_or (by have := hV.small; omega) (l := [((nG g : Int), rfF (viewG g) (nG g)), ((nG g : Int), coF (viewG g) (nG g)), ((nG g : Int), frF (viewG g) (nG g))]) (by simp [f2, f3, f4]))
 have p2 := plus_ok (γ := γ) (nG g) _ (fits_or2 f1 f2)
 have p3 := plus_ok (γ := γ) (nG g) _ (fits_or2 f1 f6)
 refine Pure.go (ty := ty) ty_eq mo Try.func39 rfl Try.ntmps39 Try.results39 Try.call39 (by simp) fun P C CQ D W F E hF => ?_
 cbv
 repeat' (first
  |(refine E.c (SCalls.of_le (p3) ?_ ?_);(· (cbv;(try simp only [nc] at *);first|done|(simp;done)|(simp (disch:=(first|omega|(simp only [lnS];omega))) only [rdT,rdS,anT];first|done|omega|(refine ⟨?_,?_⟩<;>omega))|(simp (disch:=(first|omega|(simp only [lnS];omega))) [rdT,rdS];done)));cbv)
  |(refine E.c (SCalls.of_le (p2) ?_ ?_);(· (cbv;(try simp only [nc] at *);first|done|(simp;done)|(simp (disch:=(first|omega|(simp only [lnS];omega))) only [rdT,rdS,anT];first|done|omega|(refine ⟨?_,?_⟩<;>omega))|(simp (disch:=(first|omega|(simp only [lnS];omega))) [rdT,rdS];done)));cbv)
  |(refine E.c (SCalls.of_le (p1) ?_ ?_);(· (cbv;(try simp only [nc] at *);first|done|(simp;done)|(simp (disch:=(first|omega|(simp only [lnS];omega))) only [rdT,rdS,anT];first|done|omega|(refine ⟨?_,?_⟩<;>omega))|(simp (disch:=(first|omega|(simp only [lnS];omega))) [rdT,rdS];done)));cbv)
  | (refine E.c (SCalls.of_bare (o3) rfl ?_ ?_); (· (cbv; simp [rls, ps, us, is, LV.of]; done)); cbv)
  | (refine E.c (SCalls.of_le (o3) ?_ ?_); (· (cbv; simp [rls, ps, us, is, LV.of]; done)); cbv)
  | (refine E.q (QCalls.of_le (o3) ?_ ?_); (· (cbv; simp [rls, ps, us, is, LV.of]; done)); cbv)
  | (refine E.c (SCalls.of_bare (o2) rfl ?_ ?_); (· (cbv; simp [rls, ps, us, is, LV.of]; done)); cbv)
  | (refine E.c (SCalls.of_le (o2) ?_ ?_); (· (cbv; simp [rls, ps, us, is, LV.of]; done)); cbv)
  | (refine E.q (QCalls.of_le (o2) ?_ ?_); (· (cbv; simp [rls, ps, us, is, LV.of]; done)); cbv)
  | (refine E.c (SCalls.of_bare (o1) rfl ?_ ?_); (· (cbv; simp [rls, ps, us, is, LV.of]; done)); cbv)
  | (refine E.c (SCalls.of_le (o1) ?_ ?_); (· (cbv; simp [rls, ps, us, is, LV.of]; done)); cbv)
  | (refine E.q (QCalls.of_le (o1) ?_ ?_); (· (cbv; simp [rls, ps, us, is, LV.of]; done)); cbv)
  |(refine E.c (SCalls.of_le (a6) ?_ ?_);(· (cbv;(try simp only [nc] at *);first|done|(simp;done)|(simp (disch:=(first|omega|(simp only [lnS];omega))) only [rdT,rdS,anT];first|done|omega|(refine ⟨?_,?_⟩<;>omega))|(simp (disch:=(first|omega|(simp only [lnS];omega))) [rdT,rdS];done)));cbv)
  |(refine E.c (SCalls.of_le (a5) ?_ ?_);(· (cbv;(try simp only [nc] at *);first|done|(simp;done)|(simp (disch:=(first|omega|(simp only [lnS];omega))) only [rdT,rdS,anT];first|done|omega|(refine ⟨?_,?_⟩<;>omega))|(simp (disch:=(first|omega|(simp only [lnS];omega))) [rdT,rdS];done)));cbv)
  |(refine E.c (SCalls.of_le (a4) ?_ ?_);(· (cbv;(try simp only [nc] at *);first|done|(simp;done)|(simp (disch:=(first|omega|(simp only [lnS];omega))) only [rdT,rdS,anT];first|done|omega|(refine ⟨?_,?_⟩<;>omega))|(simp (disch:=(first|omega|(simp only [lnS];omega))) [rdT,rdS];done)));cbv)
  |(refine E.c (SCalls.of_le (a3) ?_ ?_);(· (cbv;(try simp only [nc] at *);first|done|(simp;done)|(simp (disch:=(first|omega|(simp only [lnS];omega))) only [rdT,rdS,anT];first|done|omega|(refine ⟨?_,?_⟩<;>omega))|(simp (disch:=(first|omega|(simp only [lnS];omega))) [rdT,rdS];done)));cbv)
  |(refine E.c (SCalls.of_le (a2) ?_ ?_);(· (cbv;(try simp only [nc] at *);first|done|(simp;done)|(simp (disch:=(first|omega|(simp only [lnS];omega))) only [rdT,rdS,anT];first|done|omega|(refine ⟨?_,?_⟩<;>omega))|(simp (disch:=(first|omega|(simp only [lnS];omega))) [rdT,rdS];done)));cbv)
  |(refine E.c (SCalls.of_le (a1) ?_ ?_);(· (cbv;(try simp only [nc] at *);first|done|(simp;done)|(simp (disch:=(first|omega|(simp only [lnS];omega))) only [rdT,rdS,anT];first|done|omega|(refine ⟨?_,?_⟩<;>omega))|(simp (disch:=(first|omega|(simp only [lnS];omega))) [rdT,rdS];done)));cbv)
  |(refine E.c (SCalls.of_le (viewOf_ok g hg h) ?_ ?_);(· (cbv;(try simp only [nc] at *);first|done|(simp;done)|(simp (disch:=(first|omega|(simp only [lnS];omega))) only [rdT,rdS,anT];first|done|omega|(refine ⟨?_,?_⟩<;>omega))|(simp (disch:=(first|omega|(simp only [lnS];omega))) [rdT,rdS];done)));cbv)
  |(refine ⟨fun _ h_s=>?_,fun _ h_s=>?_⟩<;>(cbv;(try simp only [nc] at *);try simp (disch:=(first|omega|(simp only [lnS];omega))) only [rdT,rdS,reduceCtorEq,trT] at h_s))
  |(refine hF ?_;intro _;clear hF)
  |(refine hF ?_;cbv;clear hF)
  |(refine ⟨fun _=>?_,?_⟩;(· ((try simp only [nc] at *);first|done|omega|exact ⟨by omega,rfl⟩|(simp (disch:=(first|omega|(simp only [lnS];omega))) only [rdT,rdS];first|done|omega|rfl|exact ⟨by omega,rfl⟩|(simp;done)|(simp;omega))|(intros;trivial)));try cbv)
  | fail
 )
 all_goals (try simp only [nc] at *)
 all_goals (try simp (disch:=(first|omega|(simp only [lnS];omega))) only [rdT,rdS])
 simp [ecoF, porfF, hbF]
theorem dAll_no (g : Gr) (hg : Rd g) (h : ¬ GOk g) : Pure Try.prog γ false 39 [aGr g] (.tup [aDer 0 [] [] [] [] [] [] [] [] [], .i fun _ => 2]) := by
 refine Pure.go (ty := ty) ty_eq mo Try.func39 rfl Try.ntmps39 Try.results39 Try.call39 (by simp) fun P C CQ D W F E hF => ?_
 cbv
 repeat' (first
  |(refine E.c (SCalls.of_le (viewOf_no g hg h) ?_ ?_);(· (cbv;(try simp only [nc] at *);first|done|(simp;done)|(simp (disch:=(first|omega|(simp only [lnS];omega))) only [rdT,rdS,anT];first|done|omega|(refine ⟨?_,?_⟩<;>omega))|(simp (disch:=(first|omega|(simp only [lnS];omega))) [rdT,rdS];done)));cbv)
  |(refine ⟨fun _ h_s=>?_,fun _ h_s=>?_⟩<;>(cbv;(try simp only [nc] at *);try simp (disch:=(first|omega|(simp only [lnS];omega))) only [rdT,rdS,reduceCtorEq,trT] at h_s))
  |(refine hF ?_;intro _;clear hF)
  |(refine hF ?_;cbv;clear hF)
  |(refine ⟨fun _=>?_,?_⟩;(· ((try simp only [nc] at *);first|done|omega|exact ⟨by omega,rfl⟩|(simp (disch:=(first|omega|(simp only [lnS];omega))) only [rdT,rdS];first|done|omega|rfl|exact ⟨by omega,rfl⟩|(simp;done)|(simp;omega))|(intros;trivial)));try cbv)
  | fail
 )
 all_goals (try simp only [nc] at *)
 all_goals (try simp (disch:=(first|omega|(simp only [lnS];omega))) only [rdT,rdS])
 all_goals simp [us, LV.of, LV.l]
end Go.AL.Rl

namespace Go.AL.Rl
open Go Go.AL Go.Proofs
set_option maxRecDepth 100000
set_option maxHeartbeats 1600000
variable {γ : Nat → Option AV}

end Go.AL.Rl

namespace Go.AL.Rl
open Go Go.AL Go.Proofs
set_option maxRecDepth 100000
set_option maxHeartbeats 1600000
variable {γ : Nat → Option AV}

def tgtC (V : Vw) (n w : Nat) : BitVec 64 := maskTo (fun a => acqM (V.ev.getD a ev0) && behM V n (maskTo (rdrM V (1#64 <<< w)) n) a) n
def rowC (V : Vw) (n : Nat) : Nat → Nat → BitVec 64
 | 0, _ => 0#64
 | w + 1, r => if swR V w r = true then rowC V n w r ||| tgtC V n w else rowC V n w r
def swC (V : Vw) (n : Nat) : List (BitVec 64) := relRows n (bit (tab n (rowC V n n)))
theorem seq_plain {V : Vw} {n w : Nat} (hn : n ≤ 64) (hw : w < n) (h : ∀ i < n, (V.ev.getD i ev0).kind ≠ 3) : 1#64 <<< w = seqM V n w := by
 refine seq_unique hn hw ?_ (fun j hj => ?_) fun i hi hk => absurd hk (h i hi)
 ·rw [BitVec.getLsbD_shiftLeft, BitVec.getLsbD_one]; simp; omega
 ·rw [BitVec.getLsbD_shiftLeft, BitVec.getLsbD_one] at hj
  simp at hj
  have : j = w := by omega
  subst this
  exact .base
theorem rowC_eq {V : Vw} {n : Nat} (hn : n ≤ 64) (h : ∀ i < n, (V.ev.getD i ev0).kind ≠ 3) : ∀ k, k ≤ n → ∀ r, rowT V n k r = rowC V n k r
 | 0, _, _ => rfl
 | k + 1, hk, r => by
  have e : tgtM V n k = tgtC V n k := by unfold tgtM tgtC; rw [seq_plain hn (by omega) h]
  show (if swR V k r = true then rowT V n k r ||| tgtM V n k else rowT V n k r) = if swR V k r = true then rowC V n k r ||| tgtC V n k else rowC V n k r
  rw [rowC_eq hn h k (by omega) r, e]
theorem swC_eq {V : Vw} {n : Nat} (hn : n ≤ 64) (h : ∀ i < n, (V.ev.getD i ev0).kind ≠ 3) : swF V n = swC V n := by
 unfold swF swC swRows
 rw [show rowT V n n = rowC V n n from funext fun r => rowC_eq hn h n (Nat.le_refl _) r]
def vS (o : Int) : Vw := ⟨[⟨0, 0⟩, ⟨1, 0⟩, ⟨2, 0⟩], [⟨2, 0, 1, 0, 0⟩, ⟨2, 0, o, 0, 1⟩, ⟨1, 0, 3, 1, 0⟩], [-1, -1, 1], [0, 1, -1]⟩
end Go.AL.Rl

namespace Go.AL.Rl
open Go Go.AL Go.Proofs
set_option maxRecDepth 100000
set_option maxHeartbeats 1600000
variable {γ : Nat → Option AV}

end Go.AL.Rl

namespace Go.AL.Rl
open Go Go.AL Go.Proofs
set_option maxRecDepth 100000

end Go.AL.Rl

namespace Go.AL.Rl
open Go Go.AL Go.Proofs
set_option maxRecDepth 100000

section
variable {g : Gr} (hg : GOk g)
include hg
end
end Go.AL.Rl

namespace Go.AL.Rl
open Go Go.AL Go.Proofs
set_option maxRecDepth 100000
set_option maxHeartbeats 1600000
variable {γ : Nat → Option AV}

end Go.AL.Rl

namespace Go.AL.Rl
open Go Go.AL Go.Proofs
set_option maxRecDepth 100000
set_option maxHeartbeats 1600000
variable {γ : Nat → Option AV}

end Go.AL.Rl

namespace Go.AL.Rl
open Go Go.AL Go.Proofs
set_option maxRecDepth 100000
set_option maxHeartbeats 1600000
variable {γ : Nat → Option AV}

end Go.AL.Rl

namespace Go.AL.Rl
open Go Go.AL Go.Proofs
set_option maxRecDepth 100000
set_option maxHeartbeats 1600000
variable {γ : Nat → Option AV}

end Go.AL.Rl

namespace Go.AL.Rl
open Go Go.AL Go.Proofs
set_option maxRecDepth 100000
set_option maxHeartbeats 1600000
variable {γ : Nat → Option AV}

end Go.AL.Rl

namespace Go.AL.Rl
open Go Go.AL Go.Proofs
set_option maxRecDepth 100000
set_option maxHeartbeats 1600000
variable {γ : Nat → Option AV}

end Go.AL.Rl

namespace Go.AL.Rl
open Go Go.AL Go.Proofs
set_option maxRecDepth 100000
set_option maxHeartbeats 1600000
variable {γ : Nat → Option AV}

end Go.AL.Rl

namespace Go.AL.Rl
open Go Go.AL Go.Proofs
set_option maxRecDepth 100000
set_option maxHeartbeats 1600000
variable {γ : Nat → Option AV}

end Go.AL.Rl

namespace Go.AL.Rl
open Go Go.AL Go.Proofs
set_option maxRecDepth 100000
set_option maxHeartbeats 1600000
variable {γ : Nat → Option AV}

end Go.AL.Rl

namespace Go.AL.Rl
open Go Go.AL Go.Proofs
set_option maxRecDepth 100000
set_option maxHeartbeats 1600000
variable {γ : Nat → Option AV}

end Go.AL.Rl

namespace Go.AL.Rl
open Go Go.AL Go.Proofs
set_option maxRecDepth 100000
set_option maxHeartbeats 3200000
variable {γ : Nat → Option AV}

structure RV where
 n : Int
 rows : List (BitVec 64)
 sh : Int
 ids : List EId
 evs : List Ev
def aRV (v : RV) : AV := .agg [.i fun _ => v.n, .vs 1 fun _ => us v.rows, .i fun _ => v.sh, .vs 2 fun _ => ids v.ids, .vs 5 fun _ => evs v.evs]
def rv0 : RV := ⟨0, [], 0, [], []⟩
noncomputable def rvG (g : Gr) : RV := ⟨(nG g : Nat), hbF (viewG g) (nG g), (g.init.length : Nat), idsT g g.th.length, evsT g g.th.length⟩
noncomputable def rvO (g : Gr) : RV := if GOk g then rvG g else rv0
theorem rlook_no (g : Gr) (hg : Rd g) (h : ¬ GOk g) : Pure Try.prog γ false 28 [aGr g] (.tup [aRV rv0, .b fun _ => false]) := by
 have kd := dAll_no (γ := γ) g hg h
 refine Pure.go (ty := ty) ty_eq mo Try.func28 rfl Try.ntmps28 Try.results28 Try.call28 (by simp) fun P C CQ D W F E hF => ?_
 cbv
 repeat' (first
  |(refine E.c (SCalls.of_le (kd) ?_ ?_);(· (cbv;(try simp only [nc] at *);first|done|(simp;done)|(simp (disch:=(first|omega|(simp only [lnS];omega))) only [rdT,rdS,anT];first|done|omega|(refine ⟨?_,?_⟩<;>omega))|(simp (disch:=(first|omega|(simp only [lnS];omega))) [rdT,rdS];done)));cbv)
  |(refine ⟨fun _ h_s=>?_,fun _ h_s=>?_⟩<;>(cbv;(try simp only [nc] at *);try simp (disch:=(first|omega|(simp only [lnS];omega))) only [rdT,rdS,reduceCtorEq,trT] at h_s))
  |(refine hF ?_;intro _;clear hF)
  |(refine hF ?_;cbv;clear hF)
  |(refine ⟨fun _=>?_,?_⟩;(· ((try simp only [nc] at *);first|done|omega|exact ⟨by omega,rfl⟩|(simp (disch:=(first|omega|(simp only [lnS];omega))) only [rdT,rdS];first|done|omega|rfl|exact ⟨by omega,rfl⟩|(simp;done)|(simp;omega))|(intros;trivial)));(try (simp only [nc] at *));(try simp (disch:=(first|omega|(simp only [lnS];omega))) only [rdT,rdS]);(try cbv))
  | fail
 )
 all_goals first
  | (exfalso; revert h_s; simp; done)
  | (simp [is, us, ids, evs, rv0]; done)
theorem rlook_yes (g : Gr) (hg : Rd g) (h : GOk g) : Pure Try.prog γ false 28 [aGr g] (.tup [aRV (rvG g), .b fun _ => true]) := by
 have kd := dAll_yes (γ := γ) g hg h
 have hs := h.short
 have hin := h.short.init
 have hth := h.short.th
 have hle : ∀ t, (g.th.getD t []).length ≤ 14 := hs.at
 unfold rvG
 generalize poF (viewG g) (nG g) = q1 at *
 generalize rfF (viewG g) (nG g) = q2 at *
 generalize coF (viewG g) (nG g) = q3 at *
 generalize frF (viewG g) (nG g) = q4 at *
 generalize swF (viewG g) (nG g) = q5 at *
 generalize ecoF (viewG g) (nG g) = q6 at *
 generalize porfF (viewG g) (nG g) = q7 at *
 generalize hbF (viewG g) (nG g) = q8 at *
 generalize locF (viewG g) (nG g) = q9 at *
 obtain ⟨L, hL⟩ : ∃ L : Nat → Nat → List EId, ∀ t i, L t i = idsT g t ++ idsE t i := ⟨_, fun _ _ => rfl⟩
 obtain ⟨M, hM⟩ : ∃ M : Nat → Nat → List Ev, ∀ t i, M t i = evsT g t ++ (g.th.getD t []).take i := ⟨_, fun _ _ => rfl⟩
 have l0 : L 0 0 = [] := by rw [hL]; rfl
 have m0 : M 0 0 = [] := by rw [hM]; rfl
 have mS : ∀ t i, L t (i + 1) = L t i ++ [⟨t + 1, i⟩] := fun t i => by rw [hL, hL, idsE_succ]; simp only [List.append_assoc]
 have mE : ∀ t, L t (g.th.getD t []).length = L (t + 1) 0 := fun t => by rw [hL, hL, idsT_succ]; simp [idsE]
 have mF : L g.th.length 0 = idsT g g.th.length := by rw [hL]; simp [idsE]
 have vS : ∀ t i, i < (g.th.getD t []).length → M t (i + 1) = M t i ++ [(g.th.getD t []).getD i ev0] := fun t i hi => by
  rw [hM, hM]
  generalize g.th.getD t [] = l at hi ⊢
  rw [← List.take_append_getElem hi, ← List.append_assoc]
  simp [hi]
 have vE : ∀ t, M t (g.th.getD t []).length = M (t + 1) 0 := fun t => by rw [hM, hM, evsT_succ]; simp
 have vF : M g.th.length 0 = evsT g g.th.length := by rw [hM]; simp
 have mL : ∀ t i, (L t i).length ≤ 14 * t + i := fun t i => by
  have := evsT_len hs t
  rw [hL]; simp only [List.length_append, idsE_len, idsT_len]; omega
 have vL : ∀ t i, (M t i).length ≤ 14 * t + i := fun t i => by
  have := evsT_len hs t
  rw [hM]; simp only [List.length_append, List.length_take]; omega
 obtain ⟨G, hG⟩ : ∃ G : List EId → Nat, ∀ l, G l = l.length := ⟨_, fun _ => rfl⟩
 obtain ⟨G2, hG2⟩ : ∃ G : List Ev → Nat, ∀ l, G l = l.length := ⟨_, fun _ => rfl⟩
 have hG0 : G [] = 0 := by rw [hG]; rfl
 have hG20 : G2 [] = 0 := by rw [hG2]; rfl
 obtain ⟨gi, hgi⟩ : ∃ gi : Nat, gi = g.init.length := ⟨_, rfl⟩
 rw [← mF, ← vF, ← hgi]
 generalize nG g = n at *
 refine Pure.go (ty := ty) ty_eq mo Try.func28 rfl Try.ntmps28 Try.results28 Try.call28 (by simp) fun P C CQ D W F E hF => ?_
 cbv
 repeat' (first
  |(refine E.c (SCalls.of_le (kd) ?_ ?_);(· (cbv;(try simp only [nc] at *);first|done|(simp;done)|(simp (disch:=(first|omega|(simp only [lnS];omega))) only [rdT,rdS,anT];first|done|omega|(refine ⟨?_,?_⟩<;>omega))|(simp (disch:=(first|omega|(simp only [lnS];omega))) [rdT,rdS];done)));cbv)
  |(refine ⟨fun _ h_s=>?_,fun _ h_s=>?_⟩<;>(cbv;(try simp only [nc] at *);try simp (disch:=(first|omega|(simp only [lnS];omega))) only [rdT,rdS,reduceCtorEq,trT] at h_s))
  |(refine hF ?_;intro _;clear hF)
  |(refine hF ?_;cbv;clear hF)
  |(refine ⟨fun _=>?_,?_⟩;(· ((try simp only [nc] at *);first|done|omega|exact ⟨by omega,rfl⟩|(simp (disch:=(first|omega|(simp only [lnS];omega))) only [rdT,rdS];first|done|omega|rfl|exact ⟨by omega,rfl⟩|(simp;done)|(simp;omega))|(intros;trivial)));(try (simp only [nc] at *));(try simp (disch:=(first|omega|(simp only [lnS];omega))) only [rdT,rdS]);(try cbv))
  | fail
 )
 ·exact absurd trivial h_s
 clear kd
 refine E.w (AWP.ghostField 3 3 2 rfl rfl ?_)
 refine AWP.ghostField 3 4 5 rfl rfl ?_
 refine E.loopSA (ι:=Nat) (fun t=>t≤g.th.length) (fun t=>g.th.length - t) (fun t=>[(29,.i fun _=>((t : Nat) : Int))]) (fun t h=>((h.set 3 (.box (.agg [.i fun _=>(n : Int),.vs 1 fun _=>us q8,.i fun _=>(gi : Int),.sl 4 (G (L t 0)) 2 (fun _=>0) fun _=>(L t 0).length,.sl 5 (G2 (M t 0)) 5 (fun _=>0) fun _=>(M t 0).length]))).set 4 (.run (G (L t 0)) 2 fun _=>ids (L t 0))).set 5 (.run (G2 (M t 0)) 5 fun _=>evs (M t 0))) 0 (fun _=>by first|rfl|simp) (Nat.zero_le _) ?_ fun t ht I1 hI1=>?_
 ·cbv; simp [l0, hG0, m0, hG20, ids, evs, LV.of, hgi]
 cbv
 have hgt := hle t
 repeat' (first
  |(refine ⟨fun _ h_s=>?_,fun _ h_s=>?_⟩<;>(cbv;(try simp only [nc] at *);try simp (disch:=(first|omega|(simp only [lnS];omega))) only [rdT,rdS,reduceCtorEq,trT] at h_s))
  |(refine hF ?_;intro _;clear hF)
  |(refine hF ?_;cbv;clear hF)
  |(refine ⟨fun _=>?_,?_⟩;(· ((try simp only [nc] at *);first|done|omega|exact ⟨by omega,rfl⟩|(simp (disch:=(first|omega|(simp only [lnS];omega))) only [rdT,rdS];first|done|omega|rfl|exact ⟨by omega,rfl⟩|(simp;done)|(simp;omega))|(intros;trivial)));(try (simp only [nc] at *));(try simp (disch:=(first|omega|(simp only [lnS];omega))) only [rdT,rdS]);(try cbv))
  | fail
 )
 ·refine E.loopS (ι:=Nat) (fun i=>i≤(g.th.getD t []).length) (fun i=>(g.th.getD t []).length - i) (fun i=>[(36,.i fun _=>((i : Nat) : Int))]) (fun i h=>((h.set 3 (.box (.agg [.i fun _=>(n : Int),.vs 1 fun _=>us q8,.i fun _=>(gi : Int),.sl 4 (G (L t i)) 2 (fun _=>0) fun _=>(L t i).length,.sl 5 (G2 (M t i)) 5 (fun _=>0) fun _=>(M t i).length]))).set 4 (.run (G (L t i)) 2 fun _=>ids (L t i))).set 5 (.run (G2 (M t i)) 5 fun _=>evs (M t i))) 0 (fun _=>by first|rfl|simp) (Nat.zero_le _) ?_ fun i hi I2 hI2=>?_
  ·cbv; simp
  cbv
  have f1 := mS t i
  have f2 := mL t i
  have f3 := mE t
  have f4 := vS t i
  have f5 := vL t i
  have f6 := vE t
  skip
  repeat' (first
   |(refine hI1 (t + 1) ?_ ?_ ?_;rotate_left 1;(· ((try simp only [nc] at *);omega));(cbv;clear hI1;(try clear hF);(try simp only [nc] at *);(try simp (disch:=(first|omega|(simp only [lnS];omega))) only [rdT,rdS,anT]));rotate_left 1;(try ((try simp only [nc] at *);omega)))
   |(refine hI2 (i + 1) ?_ ?_ ?_;rotate_left 1;(· ((try simp only [nc] at *);omega));(cbv;clear hI2;(try clear hF);(try simp only [nc] at *);(try simp (disch:=(first|omega|(simp only [lnS];omega))) only [rdT,rdS,anT]));rotate_left 1;(try ((try simp only [nc] at *);omega)))
   |(refine ⟨fun _ h_s=>?_,fun _ h_s=>?_⟩<;>(cbv;(try simp only [nc] at *);try simp (disch:=(first|omega|(simp only [lnS];omega))) only [rdT,rdS,reduceCtorEq,trT] at h_s))
   |(refine hF ?_;intro _;clear hF)
   |(refine hF ?_;cbv;clear hF)
   |(refine ⟨fun _=>?_,?_⟩;(· ((try simp only [nc] at *);first|done|omega|exact ⟨by omega,rfl⟩|(simp (disch:=(first|omega|(simp only [lnS];omega))) only [rdT,rdS];first|done|omega|rfl|exact ⟨by omega,rfl⟩|(simp;done)|(simp;omega))|(intros;trivial)|exact ⟨by first|trivial|rfl,by first|trivial|rfl|simp,by first|trivial|simp,by simp;omega,by simp;omega,by simp [AV.flat,AV.cells,AV.one]⟩));(try (simp only [nc] at *));(try simp (disch:=(first|omega|(simp only [lnS];omega))) only [rdT,rdS]);(try cbv))
   | fail
  )
  ·have f4 := f4 (by ((try simp only [nc] at *); omega))
   simp [hG, hG2, f1, f4, ids, evs, setAll, AV.nrm, nrms, nrm1, List.getD_eq_getElem?_getD, aEv, ev0]
  ·have e : i = (g.th.getD t []).length := by ((try simp only [nc] at *); omega)
   subst e
   rw [f3, f6]
   exact ⟨by push_cast; rfl, ⟨⟨rfl, rfl⟩, rfl, rfl⟩, ⟨rfl, rfl⟩, rfl, rfl⟩
 ·have et : t = g.th.length := by ((try simp only [nc] at *); omega)
  subst et
  simp [hgi]
  exact ⟨List.take_of_length_le (by simp), List.take_of_length_le (by simp)⟩
theorem rlook_ok (g : Gr) (hg : Rd g) : Pure Try.prog γ false 28 [aGr g] (.tup [aRV (rvO g), .b fun _ => decide (GOk g)]) := by
 unfold rvO
 by_cases h : GOk g
 ·rw [if_pos h, decide_eq_true h]; exact rlook_yes g hg h
 ·rw [if_neg h, decide_eq_false h]; exact rlook_no g hg h

/-- a view of race that hangs together -/
structure RWf (v : RV) : Prop where
 len : v.evs.length = v.ids.length
 sh : 0 ≤ v.sh
 big : v.sh + v.ids.length ≤ v.rows.length
 small : v.rows.length ≤ 64
def rAt (v : RV) (a : Nat) : Ev := v.evs.getD a ev0
def rAhead (v : RV) (a b : Nat) : Bool := bit v.rows (a + v.sh.toNat) (b + v.sh.toNat)
def rWr (e : Ev) : Bool := decide (e.kind = 2) || decide (e.kind = 3)
def rPl (e : Ev) : Bool := decide (e.order = 1)
def oneM (v : RV) (a b : Nat) : Bool :=
 !(decide ((v.ids.getD a id0).t = (v.ids.getD b id0).t) || (decide ((rAt v a).kind = 4) || decide ((rAt v b).kind = 4)) || decide ((rAt v a).loc ≠ (rAt v b).loc)) &&
 ((rWr (rAt v a) || rWr (rAt v b)) && (rPl (rAt v a) || rPl (rAt v b)) && !rAhead v a b && !rAhead v b a)
section
variable (v : RV) (hv : RWf v)
include hv
theorem rwr_ok (a : Nat) (ha : a < v.ids.length) : Pure Try.prog γ false 43 [aRV v, .i fun _ => (a : Int)] (.b fun _ => rWr (rAt v a)) := by
 have h1 := hv.len
 refine Pure.go (ty := ty) ty_eq mo Try.func43 rfl Try.ntmps43 Try.results43 Try.call43 (by simp) fun P C CQ D W F E hF => ?_
 cbv
 repeat' (first
  |(refine ⟨fun _ h_s=>?_,fun _ h_s=>?_⟩<;>(cbv;(try simp only [nc] at *);try simp (disch:=(first|omega|(simp only [lnS];omega))) only [rdT,rdS,reduceCtorEq,trT] at h_s))
  |(refine hF ?_;intro _;clear hF)
  |(refine hF ?_;cbv;clear hF)
  |(refine ⟨fun _=>?_,?_⟩;(· ((try simp only [nc] at *);first|done|omega|exact ⟨by omega,rfl⟩|(simp (disch:=(first|omega|(simp only [lnS];omega))) only [rdT,rdS];first|done|omega|rfl|exact ⟨by omega,rfl⟩|(simp;done)|(simp;omega))|(intros;trivial)|exact ⟨by first|trivial|rfl,by first|trivial|rfl|simp,by first|trivial|simp,by simp;omega,by simp;omega,by simp [AV.flat,AV.cells,AV.one]⟩));(try (simp only [nc] at *));(try simp (disch:=(first|omega|(simp only [lnS];omega))) only [rdT,rdS]);(try cbv))
  | fail
 )
 all_goals (try simp only [nc] at *)
 all_goals (try simp (disch:=(first|omega|(simp only [lnS];omega))) only [rdT,rdS])
 all_goals simp_all [rWr, rAt, ev0]
theorem rpl_ok (a : Nat) (ha : a < v.ids.length) : Pure Try.prog γ false 36 [aRV v, .i fun _ => (a : Int)] (.b fun _ => rPl (rAt v a)) := by
 have h1 := hv.len
 refine Pure.go (ty := ty) ty_eq mo Try.func36 rfl Try.ntmps36 Try.results36 Try.call36 (by simp) fun P C CQ D W F E hF => ?_
 cbv
 repeat' (first
  |(refine ⟨fun _ h_s=>?_,fun _ h_s=>?_⟩<;>(cbv;(try simp only [nc] at *);try simp (disch:=(first|omega|(simp only [lnS];omega))) only [rdT,rdS,reduceCtorEq,trT] at h_s))
  |(refine hF ?_;intro _;clear hF)
  |(refine hF ?_;cbv;clear hF)
  |(refine ⟨fun _=>?_,?_⟩;(· ((try simp only [nc] at *);first|done|omega|exact ⟨by omega,rfl⟩|(simp (disch:=(first|omega|(simp only [lnS];omega))) only [rdT,rdS];first|done|omega|rfl|exact ⟨by omega,rfl⟩|(simp;done)|(simp;omega))|(intros;trivial)|exact ⟨by first|trivial|rfl,by first|trivial|rfl|simp,by first|trivial|simp,by simp;omega,by simp;omega,by simp [AV.flat,AV.cells,AV.one]⟩));(try (simp only [nc] at *));(try simp (disch:=(first|omega|(simp only [lnS];omega))) only [rdT,rdS]);(try cbv))
  | fail
 )
 all_goals (try simp only [nc] at *)
 all_goals (try simp (disch:=(first|omega|(simp only [lnS];omega))) only [rdT,rdS])
 all_goals simp_all [rPl, rAt, ev0]
theorem rfe_ok (a : Nat) (ha : a < v.ids.length) : Pure Try.prog γ false 42 [.i fun _ => (a : Int), .vp (fun _ => aRV v) 0] (.b fun _ => decide ((rAt v a).kind = 4)) := by
 have h1 := hv.len
 unfold aRV
 refine Pure.go (ty := ty) ty_eq mo Try.func42 rfl Try.ntmps42 Try.results42 Try.call42 (by simp) fun P C CQ D W F E hF => ?_
 cbv
 repeat' (first
  |(refine ⟨fun _ h_s=>?_,fun _ h_s=>?_⟩<;>(cbv;(try simp only [nc] at *);try simp (disch:=(first|omega|(simp only [lnS];omega))) only [rdT,rdS,reduceCtorEq,trT] at h_s))
  |(refine hF ?_;intro _;clear hF)
  |(refine hF ?_;cbv;clear hF)
  |(refine ⟨fun _=>?_,?_⟩;(· ((try simp only [nc] at *);first|done|omega|exact ⟨by omega,rfl⟩|(simp (disch:=(first|omega|(simp only [lnS];omega))) only [rdT,rdS];first|done|omega|rfl|exact ⟨by omega,rfl⟩|(simp;done)|(simp;omega))|(intros;trivial)|exact ⟨by first|trivial|rfl,by first|trivial|rfl|simp,by first|trivial|simp,by simp;omega,by simp;omega,by simp [AV.flat,AV.cells,AV.one]⟩));(try (simp only [nc] at *));(try simp (disch:=(first|omega|(simp only [lnS];omega))) only [rdT,rdS]);(try cbv))
  | fail
 )
 all_goals (try simp only [nc] at *)
 all_goals (try simp (disch:=(first|omega|(simp only [lnS];omega))) only [rdT,rdS])
 all_goals simp_all [rAt, ev0]
theorem rah_ok (a b : Nat) (ha : a < v.ids.length) (hb : b < v.ids.length) : Pure Try.prog γ false 44 [aRV v, .i fun _ => (a : Int), .i fun _ => (b : Int)] (.b fun _ => rAhead v a b) := by
 have h1 := hv.len
 have h2 := hv.sh
 have h3 := hv.big
 have h4 := hv.small
 refine Pure.go (ty := ty) ty_eq mo Try.func44 rfl Try.ntmps44 Try.results44 Try.call44 (by simp) fun P C CQ D W F E hF => ?_
 cbv
 repeat' (first
  |(refine ⟨fun _ h_s=>?_,fun _ h_s=>?_⟩<;>(cbv;(try simp only [nc] at *);try simp (disch:=(first|omega|(simp only [lnS];omega))) only [rdT,rdS,reduceCtorEq,trT] at h_s))
  |(refine hF ?_;intro _;clear hF)
  |(refine hF ?_;cbv;clear hF)
  |(refine ⟨fun _=>?_,?_⟩;(· ((try simp only [nc] at *);first|done|omega|exact ⟨by omega,rfl⟩|(simp (disch:=(first|omega|(simp only [lnS];omega))) only [rdT,rdS];first|done|omega|rfl|exact ⟨by omega,rfl⟩|(simp;done)|(simp;omega))|(intros;trivial)|exact ⟨by first|trivial|rfl,by first|trivial|rfl|simp,by first|trivial|simp,by simp;omega,by simp;omega,by simp [AV.flat,AV.cells,AV.one]⟩));(try (simp only [nc] at *));(try simp (disch:=(first|omega|(simp only [lnS];omega))) only [rdT,rdS]);(try cbv))
  |(refine E.d 13 (by decide +kernel) ?_;cbv;(fail_if_success guard_target =~ False))
  | fail
 )
 all_goals (try simp only [nc] at *)
 all_goals (try simp (disch:=(first|omega|(simp only [lnS];omega))) only [rdT,rdS])
 unfold rAhead
 rw [show ((a : Int) + v.sh).toNat = a + v.sh.toNat by omega, show ((b : Int) + v.sh).toNat = b + v.sh.toNat by omega]
 rw [decide_not]
 exact getLsb_and1 _ _
end
theorem reitherA_ok (v : RV) (f : Nat) (p : Nat → Bool) (m : Nat) (hp : ∀ a < m, Pure Try.prog γ false f [aRV v, .i fun _ => (a : Int)] (.b fun _ => p a)) (a b : Nat) (ha : a < m) (hb : b < m) :
  Pure Try.prog γ false 41 [.fn f [aRV v] [], .vp (fun _ => .i fun _ => (a : Int)) 0, .vp (fun _ => .i fun _ => (b : Int)) 0] (.b fun _ => p a || p b) := by
 have h1 := hp a ha
 have h2 := hp b hb
 unfold aRV at *
 refine Pure.go (ty := ty) ty_eq mo Try.func41 rfl Try.ntmps41 Try.results41 Try.call41 (by simp) fun P C CQ D W F E hF => ?_
 cbv
 repeat' (first
  |(refine E.c (SCalls.of_le (h2) ?_ ?_);(· (cbv;(try simp only [nc] at *);first|done|(simp;done)|(simp (disch:=(first|omega|(simp only [lnS];omega))) only [rdT,rdS,anT];first|done|omega|(refine ⟨?_,?_⟩<;>omega))|(simp (disch:=(first|omega|(simp only [lnS];omega))) [rdT,rdS];done)));cbv)
  |(refine E.c (SCalls.of_le (h1) ?_ ?_);(· (cbv;(try simp only [nc] at *);first|done|(simp;done)|(simp (disch:=(first|omega|(simp only [lnS];omega))) only [rdT,rdS,anT];first|done|omega|(refine ⟨?_,?_⟩<;>omega))|(simp (disch:=(first|omega|(simp only [lnS];omega))) [rdT,rdS];done)));cbv)
  |(refine ⟨fun _ h_s=>?_,fun _ h_s=>?_⟩<;>(cbv;(try simp only [nc] at *);try simp (disch:=(first|omega|(simp only [lnS];omega))) only [rdT,rdS,reduceCtorEq,trT] at h_s))
  |(refine hF ?_;intro _;clear hF)
  |(refine hF ?_;cbv;clear hF)
  |(refine ⟨fun _=>?_,?_⟩;(· ((try simp only [nc] at *);first|done|omega|exact ⟨by omega,rfl⟩|(simp (disch:=(first|omega|(simp only [lnS];omega))) only [rdT,rdS];first|done|omega|rfl|exact ⟨by omega,rfl⟩|(simp;done)|(simp;omega))|(intros;trivial)|exact ⟨by first|trivial|rfl,by first|trivial|rfl|simp,by first|trivial|simp,by simp;omega,by simp;omega,by simp [AV.flat,AV.cells,AV.one]⟩));(try (simp only [nc] at *));(try simp (disch:=(first|omega|(simp only [lnS];omega))) only [rdT,rdS]);(try cbv))
  | fail
 )
 all_goals (try simp only [nc] at *)
 all_goals (try simp (disch:=(first|omega|(simp only [lnS];omega))) only [rdT,rdS])
 all_goals simp_all
theorem reitherB_ok (v : RV) (f : Nat) (p : Nat → Bool) (m : Nat) (hp : ∀ a < m, Pure Try.prog γ false f [.i fun _ => (a : Int), .vp (fun _ => aRV v) 0] (.b fun _ => p a)) (a b : Nat) (ha : a < m) (hb : b < m) :
  Pure Try.prog γ false 41 [.fn f [] [.vp (fun _ => aRV v) 0], .vp (fun _ => .i fun _ => (a : Int)) 0, .vp (fun _ => .i fun _ => (b : Int)) 0] (.b fun _ => p a || p b) := by
 have h1 := hp a ha
 have h2 := hp b hb
 unfold aRV at *
 refine Pure.go (ty := ty) ty_eq mo Try.func41 rfl Try.ntmps41 Try.results41 Try.call41 (by simp) fun P C CQ D W F E hF => ?_
 cbv
 repeat' (first
  |(refine E.c (SCalls.of_le (h2) ?_ ?_);(· (cbv;(try simp only [nc] at *);first|done|(simp;done)|(simp (disch:=(first|omega|(simp only [lnS];omega))) only [rdT,rdS,anT];first|done|omega|(refine ⟨?_,?_⟩<;>omega))|(simp (disch:=(first|omega|(simp only [lnS];omega))) [rdT,rdS];done)));cbv)
  |(refine E.c (SCalls.of_le (h1) ?_ ?_);(· (cbv;(try simp only [nc] at *);first|done|(simp;done)|(simp (disch:=(first|omega|(simp only [lnS];omega))) only [rdT,rdS,anT];first|done|omega|(refine ⟨?_,?_⟩<;>omega))|(simp (disch:=(first|omega|(simp only [lnS];omega))) [rdT,rdS];done)));cbv)
  |(refine ⟨fun _ h_s=>?_,fun _ h_s=>?_⟩<;>(cbv;(try simp only [nc] at *);try simp (disch:=(first|omega|(simp only [lnS];omega))) only [rdT,rdS,reduceCtorEq,trT] at h_s))
  |(refine hF ?_;intro _;clear hF)
  |(refine hF ?_;cbv;clear hF)
  |(refine ⟨fun _=>?_,?_⟩;(· ((try simp only [nc] at *);first|done|omega|exact ⟨by omega,rfl⟩|(simp (disch:=(first|omega|(simp only [lnS];omega))) only [rdT,rdS];first|done|omega|rfl|exact ⟨by omega,rfl⟩|(simp;done)|(simp;omega))|(intros;trivial)|exact ⟨by first|trivial|rfl,by first|trivial|rfl|simp,by first|trivial|simp,by simp;omega,by simp;omega,by simp [AV.flat,AV.cells,AV.one]⟩));(try (simp only [nc] at *));(try simp (disch:=(first|omega|(simp only [lnS];omega))) only [rdT,rdS]);(try cbv))
  | fail
 )
 all_goals (try simp only [nc] at *)
 all_goals (try simp (disch:=(first|omega|(simp only [lnS];omega))) only [rdT,rdS])
 all_goals simp_all
theorem rone_ok (v : RV) (hv : RWf v) (a b : Nat) (ha : a < v.ids.length) (hb : b < v.ids.length) : Pure Try.prog γ false 33 [aRV v, .i fun _ => (a : Int), .i fun _ => (b : Int)] (.b fun _ => oneM v a b) := by
 have h1 := hv.len
 have k1 := reitherB_ok (γ := γ) v 42 _ v.ids.length (rfe_ok v hv) a b ha hb
 have k2 := reitherA_ok (γ := γ) v 43 _ v.ids.length (rwr_ok v hv) a b ha hb
 have k3 := reitherA_ok (γ := γ) v 36 _ v.ids.length (rpl_ok v hv) a b ha hb
 have k4 := rah_ok (γ := γ) v hv a b ha hb
 have k5 := rah_ok (γ := γ) v hv b a hb ha
 unfold oneM
 generalize rAhead v a b = x1 at *
 generalize rAhead v b a = x2 at *
 unfold aRV at *
 refine Pure.go (ty := ty) ty_eq mo Try.func33 rfl Try.ntmps33 Try.results33 Try.call33 (by simp) fun P C CQ D W F E hF => ?_
 cbv
 repeat' (first
  |((first|refine E.c (SCalls.of_le (k5) ?_ ?_)|refine E.q (QCalls.of_le (k5) ?_ ?_));(· (cbv;(try simp only [nc] at *);first|done|(simp;done)|(simp (disch:=(first|omega|(simp only [lnS];omega))) only [rdT,rdS,anT];first|done|omega|(refine ⟨?_,?_⟩<;>omega))|(simp (disch:=(first|omega|(simp only [lnS];omega))) [rdT,rdS];done)));cbv)
  |((first|refine E.c (SCalls.of_le (k4) ?_ ?_)|refine E.q (QCalls.of_le (k4) ?_ ?_));(· (cbv;(try simp only [nc] at *);first|done|(simp;done)|(simp (disch:=(first|omega|(simp only [lnS];omega))) only [rdT,rdS,anT];first|done|omega|(refine ⟨?_,?_⟩<;>omega))|(simp (disch:=(first|omega|(simp only [lnS];omega))) [rdT,rdS];done)));cbv)
  |(refine E.c (SCalls.of_bare (k3) rfl ?_ ?_);(· (cbv;(try simp only [nc] at *);first|done|(simp;done)|(simp (disch:=(first|omega|(simp only [lnS];omega))) only [rdT,rdS,anT];first|done|omega|(refine ⟨?_,?_⟩<;>omega))|(simp (disch:=(first|omega|(simp only [lnS];omega))) [rdT,rdS];done)));cbv)
  |(refine E.q (QCalls.of_bare (k3) rfl ?_ ?_);(· (cbv;(try simp only [nc] at *);first|done|(simp;done)|(simp (disch:=(first|omega|(simp only [lnS];omega))) only [rdT,rdS,anT];first|done|omega|(refine ⟨?_,?_⟩<;>omega))|(simp (disch:=(first|omega|(simp only [lnS];omega))) [rdT,rdS];done)));cbv)
  |(refine E.c (SCalls.of_bare (k2) rfl ?_ ?_);(· (cbv;(try simp only [nc] at *);first|done|(simp;done)|(simp (disch:=(first|omega|(simp only [lnS];omega))) only [rdT,rdS,anT];first|done|omega|(refine ⟨?_,?_⟩<;>omega))|(simp (disch:=(first|omega|(simp only [lnS];omega))) [rdT,rdS];done)));cbv)
  |(refine E.q (QCalls.of_bare (k2) rfl ?_ ?_);(· (cbv;(try simp only [nc] at *);first|done|(simp;done)|(simp (disch:=(first|omega|(simp only [lnS];omega))) only [rdT,rdS,anT];first|done|omega|(refine ⟨?_,?_⟩<;>omega))|(simp (disch:=(first|omega|(simp only [lnS];omega))) [rdT,rdS];done)));cbv)
  |(refine E.c (SCalls.of_bare (k1) rfl ?_ ?_);(· (cbv;(try simp only [nc] at *);first|done|(simp;done)|(simp (disch:=(first|omega|(simp only [lnS];omega))) only [rdT,rdS,anT];first|done|omega|(refine ⟨?_,?_⟩<;>omega))|(simp (disch:=(first|omega|(simp only [lnS];omega))) [rdT,rdS];done)));cbv)
  |(refine E.q (QCalls.of_bare (k1) rfl ?_ ?_);(· (cbv;(try simp only [nc] at *);first|done|(simp;done)|(simp (disch:=(first|omega|(simp only [lnS];omega))) only [rdT,rdS,anT];first|done|omega|(refine ⟨?_,?_⟩<;>omega))|(simp (disch:=(first|omega|(simp only [lnS];omega))) [rdT,rdS];done)));cbv)
  |(refine ⟨fun _ h_s=>?_,fun _ h_s=>?_⟩<;>(cbv;(try simp only [nc] at *);try simp (disch:=(first|omega|(simp only [lnS];omega))) only [rdT,rdS,reduceCtorEq,trT] at h_s))
  |(refine hF ?_;intro _;clear hF)
  |(refine hF ?_;cbv;clear hF)
  |(refine ⟨fun _=>?_,?_⟩;(· ((try simp only [nc] at *);first|done|omega|exact ⟨by omega,rfl⟩|(simp (disch:=(first|omega|(simp only [lnS];omega))) only [rdT,rdS];first|done|omega|rfl|exact ⟨by omega,rfl⟩|(simp;done)|(simp;omega))|(intros;trivial)|exact ⟨by first|trivial|rfl,by first|trivial|rfl|simp,by first|trivial|simp,by simp;omega,by simp;omega,by simp [AV.flat,AV.cells,AV.one]⟩));(try (simp only [nc] at *));(try simp (disch:=(first|omega|(simp only [lnS];omega))) only [rdT,rdS]);(try cbv))
  |(refine E.d 31 (by decide +kernel) ?_;cbv;(fail_if_success guard_target =~ False))
  | fail
 )
 all_goals (try simp only [nc] at *)
 all_goals (try simp (disch:=(first|omega|(simp only [lnS];omega))) only [rdT,rdS])
 all_goals (try (simp_all [rAt, ev0, id0]; done))
 all_goals (simp_all [rAt, ev0, id0]; intros; omega)
end Go.AL.Rl

namespace Go.AL.Rl
open Go Go.AL Go.Proofs
set_option maxRecDepth 100000
set_option maxHeartbeats 3200000
variable {γ : Nat → Option AV}

def rpB (v : RV) (a : Nat) : Nat → List (Nat × Nat)
 | 0 => []
 | b + 1 => rpB v a b ++ (if a < b ∧ oneM v a b = true then [(a, b)] else [])
def rpA (v : RV) (m : Nat) : Nat → List (Nat × Nat)
 | 0 => []
 | a + 1 => rpA v m a ++ rpB v a m
theorem rpB_low (v : RV) (a : Nat) : ∀ b, b ≤ a + 1 → rpB v a b = []
 | 0, _ => rfl
 | b + 1, h => by
  rw [rpB, rpB_low v a b (by omega), if_neg (by omega)]; rfl
theorem rpB_len (v : RV) (a : Nat) : ∀ b, (rpB v a b).length ≤ b
 | 0 => by simp [rpB]
 | b + 1 => by
  rw [rpB, List.length_append]
  have := rpB_len v a b
  split <;> simp <;> omega
theorem rpA_len (v : RV) (m : Nat) : ∀ a, (rpA v m a).length ≤ a * m
 | 0 => by simp [rpA]
 | a + 1 => by
  rw [rpA, List.length_append, Nat.succ_mul]
  have := rpA_len v m a
  have := rpB_len v a m
  omega
structure Rc where
 loc : Int
 a : EId
 b : EId
deriving DecidableEq
abbrev aRc (r : Rc) : AV := .agg [.i fun _ => r.loc, .i fun _ => r.a.t, .i fun _ => r.a.i, .i fun _ => r.b.t, .i fun _ => r.b.i]
def rcs (l : List Rc) : LV := LV.of (l.map aRc)
@[simp] theorem rcs_len (l : List Rc) : (rcs l).l.length = l.length := by simp [rcs]
abbrev rc0 : Rc := ⟨0, id0, id0⟩
theorem rcs_at (l : List Rc) (i : Nat) (h : i < l.length) : (rcs l).l.getD i .any = aRc (l.getD i rc0) := by simp [rcs, h, List.getD_eq_getElem?_getD]
def rcOf (v : RV) (p : Nat × Nat) : Rc := ⟨(rAt v p.1).loc, v.ids.getD p.1 id0, v.ids.getD p.2 id0⟩
/-- the heap of All while races are put -/
def hpA (g : Gr) (v : RV) (n : Nat) (L : List Rc) (l D : Nat) (oR oD : Obj) (s : Tr) (t : Array Value) : List Blk :=
 [.box (aGr g), .box (aRV v), .box (.sl 3 n 5 (fun _ => 0) fun _ => L.length), .run n 5 fun _ => rcs L, .obj D oD .nil #[], .obj l oR s t]
theorem YCall.mono {P : Program} {l : Nat} {args : List AV} {h : List Blk} {Q Q' : AV → List Blk → Prop} (hy : YCall P γ l args h Q) (hq : ∀ v h, Q v h → Q' v h) : YCall P γ l args h Q' := fun B S ρ w vals h1 h2 => by
 obtain ⟨f, tm, asg, bd, k1, k2⟩ := hy B S ρ w vals h1 h2
 exact ⟨f, tm, asg, bd, k1, fun n => (k2 n).mono fun e w' ⟨v, h', S', ρ', v', q1, q2, q3⟩ => ⟨v, h', S', ρ', v', q1, hq _ _ q2, q3⟩⟩
theorem YCall.to {P : Program} {l : Nat} {args args' : List AV} {h h' h2 : List Blk} {x : AV} {Q : AV → List Blk → Prop} (hy : YCall P γ l args' h' fun v h => v = x ∧ h = h2) (hn : h'.length = h.length) (ha : leVs h.length args' args) (hh : leH h.length h' h) (hq : Q x h2) : YCall P γ l args h Q := fun B S ρ w vals hr hv => by
 have h1 := hr.le hh hn
 have h2 := Rs_le _ _ _ ha hv
 have e : ρ.take h.length = ρ := List.take_of_length_le (by rw [hr.len]; exact Nat.le_refl _)
 rw [e] at h1 h2
 obtain ⟨f, tm, asg, bd, k1, k2⟩ := hy B S ρ w vals h1 h2
 exact ⟨f, tm, asg, bd, k1, fun n => (k2 n).mono fun e w' ⟨v, h', S', ρ', v', q1, ⟨q2, q3⟩, q4⟩ => ⟨v, h', S', ρ', v', q1, by rw [q2, q3]; exact hq, q4⟩⟩
theorem allA_ok (g : Gr) (v : RV) (hv : RWf v) (hsm : v.ids.length ≤ 64) (l D : Nat) (oR oD : Obj) (s : Tr) (t : Array Value) (hT : leT 6 s s) (G : List (Nat × Nat) → Nat)
  (hy : ∀ (pre : List (Nat × Nat)) (a b : Nat), b < v.ids.length → a < b → oneM v a b = true → pre.length ≤ 4096 → YCall Try.prog γ l [.i fun _ => (a : Int), .i fun _ => (b : Int)] (hpA g v (G pre) (pre.map (rcOf v)) l D oR oD s t) (fun x h => x = .tt ∧ h = hpA g v (G (pre ++ [(a, b)])) ((pre ++ [(a, b)]).map (rcOf v)) l D oR oD s t)) :
  SCalls Try.prog γ 40 [.raw (.func (.yield l) #[] #[]), .vp (fun _ => aRV v) 0] (hpA g v (G []) [] l D oR oD s t) (Post (.tup []) (hpA g v (G (rpA v v.ids.length v.ids.length)) ((rpA v v.ids.length v.ids.length).map (rcOf v)) l D oR oD s t)) := by
 have h1 := hv.len
 have k1 := fun (a b : Nat) (ha : a < v.ids.length) (hb : b < v.ids.length) => rone_ok (γ := γ) v hv a b ha hb
 have lA := rpA_len v v.ids.length
 have lB := fun a => rpB_len v a v.ids.length
 obtain ⟨N, hN⟩ : ∃ N, N = v.ids.length := ⟨_, rfl⟩
 rw [← hN] at hsm hy k1 lA lB ⊢
 unfold aRV hpA at *
 generalize hI : v.ids = I at *
 generalize v.evs = Es at *
 generalize v.rows = Rw at *
 generalize v.sh = Sh at *
 generalize v.n = Vn at *
 have hT2 := hT
 cbv at hT2
 have hA0 : rpA v N 0 = [] := rfl
 have hAS := fun a => show rpA v N (a + 1) = rpA v N a ++ rpB v a N from rfl
 have hBS := fun a b => show rpB v a (b + 1) = rpB v a b ++ (if a < b ∧ oneM v a b = true then [(a, b)] else []) from rfl
 have hBl := rpB_low v
 have lAB : ∀ a b, a < N → b ≤ N → (rpA v N a ++ rpB v a b).length ≤ 4096 := fun a b ha hb => by
  have q1 := lA a
  have q2 := rpB_len v a b
  have q3 := Nat.mul_le_mul (show a ≤ 63 by omega) hsm
  rw [List.length_append]
  omega
 refine SCalls.go (ty := ty) ty_eq mo Try.func40 rfl Try.ntmps40 Try.results40 Try.call40 (by simp) fun P C CQ D W F E hF => ?_
 cbv
 skip
 repeat' (first
  |(refine ⟨fun _ h_s=>?_,fun _ h_s=>?_⟩<;>(cbv;(try simp only [nc] at *);try simp (disch:=(first|omega|(simp only [lnS];omega))) only [rdT,rdS,hT2,reduceCtorEq,trT] at h_s))
  |(refine hF ?_;intro _;clear hF)
  |(refine hF ?_;cbv;clear hF)
  |(refine ⟨fun _=>?_,?_⟩;(· ((try simp only [nc] at *);first|done|omega|exact ⟨by omega,rfl⟩|(simp (disch:=(first|omega|(simp only [lnS];omega))) only [rdT,rdS,hT2];first|done|omega|rfl|exact ⟨by omega,rfl⟩|(simp;done)|(simp;omega))|(intros;trivial)));(try (simp only [nc] at *));(try simp (disch:=(first|omega|(simp only [lnS];omega))) only [rdT,rdS,hT2]);(try cbv))
  | fail
 )
 refine E.loopS (ι:=Nat) (fun a=>a≤N) (fun a=>N - a) (fun a=>[(8,.i fun _=>((a : Nat) : Int))]) (fun a h=>(h.set 2 (.box (.sl 3 (G (rpA v N a)) 5 (fun _=>0) fun _=>((rpA v N a).map (rcOf v)).length))).set 3 (.run (G (rpA v N a)) 5 fun _=>rcs ((rpA v N a).map (rcOf v)))) 0 (fun _=>by first|rfl|simp) (Nat.zero_le _) ?_ fun a ha I1 hI1=>?_
 ·cbv; simp [hT2, hA0]
 cbv
 repeat' (first
  |(refine ⟨fun _ h_s=>?_,fun _ h_s=>?_⟩<;>(cbv;(try simp only [nc] at *);try simp (disch:=(first|omega|(simp only [lnS];omega))) only [rdT,rdS,hT2,reduceCtorEq,trT] at h_s))
  |(refine hF ?_;intro _;clear hF)
  |(refine hF ?_;cbv;clear hF)
  |(refine ⟨fun _=>?_,?_⟩;(· ((try simp only [nc] at *);first|done|omega|exact ⟨by omega,rfl⟩|(simp (disch:=(first|omega|(simp only [lnS];omega))) only [rdT,rdS,hT2];first|done|omega|rfl|exact ⟨by omega,rfl⟩|(simp;done)|(simp;omega))|(intros;trivial)));(try (simp only [nc] at *));(try simp (disch:=(first|omega|(simp only [lnS];omega))) only [rdT,rdS,hT2]);(try cbv))
  | fail
 )
 ·refine E.loopS (ι:=Nat) (fun b=>a + 1≤b∧b≤N) (fun b=>N - b) (fun b=>[(4,.i fun _=>((b : Nat) : Int))]) (fun b h=>(h.set 2 (.box (.sl 3 (G (rpA v N a ++ rpB v a b)) 5 (fun _=>0) fun _=>((rpA v N a ++ rpB v a b).map (rcOf v)).length))).set 3 (.run (G (rpA v N a ++ rpB v a b)) 5 fun _=>rcs ((rpA v N a ++ rpB v a b).map (rcOf v)))) (a + 1) (fun _=>by first|rfl|simp) ?_ ?_ fun b hb I2 hI2=>?_
  ·((try simp only [nc] at *); omega)
  ·cbv; simp [hT2, hBl]; exact w64_of (by omega) (by omega)
  cbv
  repeat' (first
   |(refine hI1 (a + 1) ?_ ?_ ?_;rotate_left 1;(· ((try simp only [nc] at *);omega));(cbv;clear hI1;(try clear hF);(try simp only [nc] at *);(try simp (disch:=(first|omega|(simp only [lnS];omega))) only [rdT,rdS,hT2,anT]));rotate_left 1;(try ((try simp only [nc] at *);omega)))
   |(refine hI2 (b + 1) ?_ ?_ ?_;rotate_left 1;(· ((try simp only [nc] at *);omega));(cbv;clear hI2;(try clear hF);(try simp only [nc] at *);(try simp (disch:=(first|omega|(simp only [lnS];omega))) only [rdT,rdS,hT2,anT]));rotate_left 1;(try ((try simp only [nc] at *);omega)))
   | (refine E.y (YCall.to (hy (rpA v N a ++ rpB v a b) a b (by ((try simp only [nc] at *); omega)) (by ((try simp only [nc] at *); omega)) (by assumption) (lAB a b (by ((try simp only [nc] at *); omega)) (by ((try simp only [nc] at *); omega)))) (by cbv) (by cbv; simp) (by cbv; simp [hT2]) ?_); cbv)
   |(refine E.c (SCalls.of_le (k1 a b (by ((try simp only [nc] at *);omega)) (by ((try simp only [nc] at *);omega))) ?_ ?_);(· (cbv;(try simp only [nc] at *);first|done|(simp;done)|(simp (disch:=(first|omega|(simp only [lnS];omega))) only [rdT,rdS,hT2,anT];first|done|omega|(refine ⟨?_,?_⟩<;>omega))|(simp (disch:=(first|omega|(simp only [lnS];omega))) [rdT,rdS,hT2];done)));cbv)
   |(refine ⟨fun _ h_s=>?_,fun _ h_s=>?_⟩<;>(cbv;(try simp only [nc] at *);try simp (disch:=(first|omega|(simp only [lnS];omega))) only [rdT,rdS,hT2,reduceCtorEq,trT] at h_s))
   |(refine hF ?_;intro _;clear hF)
   |(refine hF ?_;cbv;clear hF)
   |(refine ⟨fun _=>?_,?_⟩;(· ((try simp only [nc] at *);first|done|omega|exact ⟨by omega,rfl⟩|(simp (disch:=(first|omega|(simp only [lnS];omega))) only [rdT,rdS,hT2];first|done|omega|rfl|exact ⟨by omega,rfl⟩|(simp;done)|(simp;omega))|(intros;trivial)));(try (simp only [nc] at *));(try simp (disch:=(first|omega|(simp only [lnS];omega))) only [rdT,rdS,hT2]);(try cbv))
   | fail
  )
  ·have ho : oneM v a b = true := by assumption
   rw [hBS a b, if_pos ⟨by ((try simp only [nc] at *); omega), ho⟩, ← List.append_assoc]
   simp
  ·have ho : oneM v a b = false := by assumption
   rw [hBS a b, if_neg (by rw [ho]; simp), List.append_nil]
   simp
  ·have e : b = N := by ((try simp only [nc] at *); omega)
   subst e
   rw [hAS]
   simp
 ·have e : a = N := by ((try simp only [nc] at *); omega)
  subst e
  simp [hT2]
theorem allA_to (g : Gr) (v : RV) (hv : RWf v) (hsm : v.ids.length ≤ 64) (l D : Nat) (oR oD : Obj) (s : Tr) (t : Array Value) (hT : leT 6 s s) (G : List (Nat × Nat) → Nat)
  (hy : ∀ (pre : List (Nat × Nat)) (a b : Nat), b < v.ids.length → a < b → oneM v a b = true → pre.length ≤ 4096 → YCall Try.prog γ l [.i fun _ => (a : Int), .i fun _ => (b : Int)] (hpA g v (G pre) (pre.map (rcOf v)) l D oR oD s t) (fun x h => x = .tt ∧ h = hpA g v (G (pre ++ [(a, b)])) ((pre ++ [(a, b)]).map (rcOf v)) l D oR oD s t)) :
  SCalls Try.prog γ 40 [.raw (.func (.yield l) #[] #[]), .vp (fun _ => aRV v) 0] (hpA g v (G []) [] l D oR oD s t) (fun _ h => h = (hpA g v (G (rpA v v.ids.length v.ids.length)) ((rpA v v.ids.length v.ids.length).map (rcOf v)) l D oR oD s t)) := by
 have hT2 := hT
 cbv at hT2
 exact SCalls.to (allA_ok g v hv hsm l D oR oD s t hT G hy) rfl (Nat.le_refl _) (by cbv; simp) (by cbv; simp [hT2]) rfl
end Go.AL.Rl

namespace Go.AL.Rl
open Go Go.AL Go.Proofs
set_option maxRecDepth 100000
set_option maxHeartbeats 1600000

end Go.AL.Rl

namespace Go.AL.Rl
open Go Go.AL Go.Proofs
set_option maxRecDepth 100000
set_option maxHeartbeats 1600000
variable {γ : Nat → Option AV}

def numI (l : List EId) (d : EId) : Int := match l.findIdx? (fun x => decide (x = d)) with | some k => (k : Nat) | none => -1
theorem numI_at {l : List EId} {d : EId} {k : Nat} (hk : k < l.length) (h : l.getD k id0 = d) (hb : ∀ j < k, l.getD j id0 ≠ d) : numI l d = k := by
 have e : l.findIdx? (fun x => decide (x = d)) = some k := by
  rw [List.findIdx?_eq_some_iff_getElem]
  refine ⟨hk, by simpa [hk] using h, fun j hj => ?_⟩
  have := hb j hj
  have hj' : j < l.length := by omega
  simpa [hj'] using this
 unfold numI; rw [e]
theorem numI_no {l : List EId} {d : EId} (hb : ∀ j < l.length, l.getD j id0 ≠ d) : numI l d = -1 := by
 have e : l.findIdx? (fun x => decide (x = d)) = none := by
  rw [List.findIdx?_eq_none_iff]
  intro x hx
  obtain ⟨j, hj, rfl⟩ := List.getElem_of_mem hx
  have := hb j hj
  simpa [hj] using this
 unfold numI; rw [e]
theorem numI_lt (l : List EId) (d : EId) : -1 ≤ numI l d ∧ numI l d < l.length := by
 unfold numI
 cases h : l.findIdx? (fun x => decide (x = d)) with
 | none => simp; omega
 | some k =>
  have := (List.findIdx?_eq_some_iff_getElem.1 h).1
  simp only; omega
theorem index_ok (l : List EId) (d : EId) (hl : (l.length : Int) ≤ 9223372036854775807) : Pure Try.prog γ false 32 [.vs 2 fun _ => ids l, aId d] (.i fun _ => numI l d) := by
 refine Pure.go (ty := ty) ty_eq mo Try.func32 rfl Try.ntmps32 Try.results32 Try.call32 (by simp) fun P C CQ D W F E hF => ?_
 cbv
 repeat' (first
  |(refine ⟨fun _ h_s=>?_,fun _ h_s=>?_⟩<;>(cbv;(try simp only [nc] at *);try simp (disch:=(first|omega|(simp only [lnS];omega))) only [rdT,rdS,reduceCtorEq,trT] at h_s))
  |(refine hF ?_;intro _;clear hF)
  |(refine hF ?_;cbv;clear hF)
  |(refine ⟨fun _=>?_,?_⟩;(· ((try simp only [nc] at *);first|done|omega|exact ⟨by omega,rfl⟩|(simp (disch:=(first|omega|(simp only [lnS];omega))) only [rdT,rdS];first|done|omega|rfl|exact ⟨by omega,rfl⟩|(simp;done)|(simp;omega))|(intros;trivial)));(try (simp only [nc] at *));(try simp (disch:=(first|omega|(simp only [lnS];omega))) only [rdT,rdS]);(try cbv))
  |(refine E.d 5 (by decide +kernel) ?_;cbv;(fail_if_success guard_target =~ False))
  | fail
 )
 refine E.loopS (ι:=Nat) (fun i=>i≤l.length∧(∀ k < i,l.getD k id0 ≠ d)) (fun i=>l.length - i) (fun i=>[(8,.i fun _=>((i : Nat) : Int))]) (fun i h=>h) 0 (fun _=>by first|rfl|simp) ⟨Nat.zero_le _,?_⟩ ?_ fun i hi I hI=>?_
 ·intro k hk; omega
 ·cbv; simp
 cbv
 obtain ⟨hi, hp⟩ := hi
 repeat' (first
  |(refine hI (i + 1) ?_ ?_ ?_;rotate_left 1;(· ((try simp only [nc] at *);omega));(cbv;clear hI;(try clear hF);(try simp only [nc] at *);(try simp (disch:=(first|omega|(simp only [lnS];omega))) only [rdT,rdS,anT]));rotate_left 1;(try ((try simp only [nc] at *);omega)))
  |(refine ⟨fun _ h_s=>?_,fun _ h_s=>?_⟩<;>(cbv;(try simp only [nc] at *);try simp (disch:=(first|omega|(simp only [lnS];omega))) only [rdT,rdS,reduceCtorEq,trT] at h_s))
  |(refine hF ?_;intro _;clear hF)
  |(refine hF ?_;cbv;clear hF)
  |(refine ⟨fun _=>?_,?_⟩;(· ((try simp only [nc] at *);first|done|omega|exact ⟨by omega,rfl⟩|(simp (disch:=(first|omega|(simp only [lnS];omega))) only [rdT,rdS];first|done|omega|rfl|exact ⟨by omega,rfl⟩|(simp;done)|(simp;omega))|(intros;trivial)));(try (simp only [nc] at *));(try simp (disch:=(first|omega|(simp only [lnS];omega))) only [rdT,rdS]);(try cbv))
  |(refine E.d 5 (by decide +kernel) ?_;cbv;(fail_if_success guard_target =~ False))
  | fail
 )
 ·simp only [Bool.and_true, Bool.and_eq_true, decide_eq_true_eq] at h_s
  have he : l.getD i id0 = d := (EId.ext' h_s.1 h_s.2).symm
  exact (numI_at (by ((try simp only [nc] at *); omega)) he hp).symm
 ·refine ⟨by ((try simp only [nc] at *); omega), fun k hk => ?_⟩
  rcases Nat.lt_or_ge k i with h1 | h1
  ·exact hp k h1
  ·obtain rfl : k = i := by omega
   intro e
   rw [← e] at h_s
   simp at h_s
 ·push_cast; rfl
 ·have e : i = l.length := by ((try simp only [nc] at *); omega)
  subst e
  exact (numI_no hp).symm
end Go.AL.Rl

namespace Go.AL.Rl
open Go Go.AL Go.Proofs
set_option maxRecDepth 100000
set_option maxHeartbeats 3200000
variable {γ : Nat → Option AV}

end Go.AL.Rl

namespace Go.AL.Rl
open Go Go.AL Go.Proofs
set_option maxRecDepth 100000
set_option maxHeartbeats 3200000
variable {γ : Nat → Option AV}

end Go.AL.Rl

namespace Go.AL.Rl
open Go Go.AL Go.Proofs
set_option maxRecDepth 100000
set_option maxHeartbeats 3200000
variable {γ : Nat → Option AV}

end Go.AL.Rl

namespace Go.AL.Rl
open Go Go.AL Go.Proofs
set_option maxRecDepth 100000
set_option maxHeartbeats 3200000
variable {γ : Nat → Option AV}

end Go.AL.Rl

namespace Go.AL.Rl
open Go Go.AL Go.Proofs
set_option maxRecDepth 100000
set_option maxHeartbeats 3200000
variable {γ : Nat → Option AV}

structure Mk where
 id : EId
 w : Bool
theorem Mk.ext' {a b : Mk} (h1 : a.id = b.id) (h2 : a.w = b.w) : a = b := by cases a; cases b; simp_all
instance : DecidableEq Mk := fun a b => decidable_of_iff (a.id = b.id ∧ a.w = b.w) ⟨fun h => Mk.ext' h.1 h.2, fun h => by subst h; exact ⟨rfl, rfl⟩⟩
abbrev mk0 : Mk := ⟨⟨0, 0⟩, false⟩
abbrev aMk (m : Mk) : AV := .agg [.i fun _ => m.id.t, .i fun _ => m.id.i, .b fun _ => m.w]
def mks (l : List Mk) : LV := LV.of (l.map aMk)
@[simp] theorem mks_len (l : List Mk) : (mks l).l.length = l.length := by simp [mks]
structure Sta where
 g : Gr
 ms : List Mk
 half : Int
def needM (d : EId) (k : Int) : List Mk := (if k = 2 then [] else [⟨d, false⟩]) ++ if k = 2 ∨ k = 3 then [⟨d, true⟩] else []
end Go.AL.Rl

namespace Go.AL.Rl
open Go Go.AL Go.Proofs
set_option maxRecDepth 100000
set_option maxHeartbeats 1600000

end Go.AL.Rl

namespace Go.AL
open Go Go.RowKit
section
variable {P : Program} {γ : Nat → Option AV} {C : EC} {CQ : List Blk → QC} {T : Nat → TI} {D : Array Oper → (St → Prop) → St → Prop} {W : Code → (Exit → St → Prop) → St → Prop}
theorem inBlk_mono {id : Nat} {Q Q' : Exit → St → Prop} (h : ∀ e A, Q e A → Q' e A) : ∀ e A, inBlk id Q e A → inBlk id Q' e A := by
 intro e A
 cases e with
 | exit id' => simp only [inBlk]; split <;> exact h _ _
 | _ => exact h _ _
/-- the last part of a block, and what stands behind it -/
theorem Env.blk (E : Env P γ C CQ T D W) {n id : Nat} {l r : List Code} {Q : Exit → St → Prop} {A : St} (h : vcl T γ C D W l (inBlk id (thenE (fun A => vcl T γ C D W r Q A) Q)) A) : AWPl P γ n l (inBlk id (thenE (fun A => AWPl P γ n r Q A) Q)) A :=
 (E.bl h).mono (inBlk_mono fun e A h' => by
  cases e with
  | normal => exact E.bl h'
  | _ => exact h')
end
end Go.AL
namespace Go.AL.Rl
open Go Go.AL Go.Proofs
set_option maxRecDepth 100000
set_option maxHeartbeats 3200000
variable {γ : Nat → Option AV}

abbrev gz : Gr := ⟨[], [], [], []⟩
end Go.AL.Rl

namespace Go.AL.Rl
open Go Go.AL Go.Proofs
set_option maxRecDepth 100000
set_option maxHeartbeats 3200000
variable {γ : Nat → Option AV}

/-- the last place of a mark among the first ones -/
def lastK (ms : List Mk) (d : Mk) : Nat → Option Nat
 | 0 => none
 | n + 1 => if ms.getD n mk0 = d then some n else lastK ms d n
def plK (ms : List Mk) (d : Mk) : Int := match lastK ms d ms.length with | some k => (k : Nat) | none => -1
/-- the last place, as long as they go up -/
def scanK (p : Mk → Int) (l : List Mk) : Option Int := l.foldl (fun s d => s.bind fun x => if x < p d then some (p d) else none) (some (-1))
def needE (t : Nat) (l : List Ev) (i : Nat) : List Mk := (List.range i).flatMap fun (j : Nat) => needM ⟨(t : Int) + 1, (j : Int)⟩ (l.getD j ev0).kind
def cntN (g : Gr) (t : Nat) : Nat := ((List.range t).map fun k => (needE k (g.th.getD k []) (g.th.getD k []).length).length).sum
def markedM (g : Gr) (ms : List Mk) : Bool := decide (∀ t < g.th.length, (scanK (plK ms) (needE t (g.th.getD t []) (g.th.getD t []).length)).isSome = true) && decide (cntN g g.th.length = ms.length)
end Go.AL.Rl

namespace Go.AL.Rl
open Go Go.AL Go.Proofs
set_option maxRecDepth 100000
set_option maxHeartbeats 3200000
variable {γ : Nat → Option AV}

end Go.AL.Rl

namespace Go.AL.Rl
open Go Go.AL Go.Proofs
set_option maxRecDepth 100000
set_option maxHeartbeats 3200000
variable {γ : Nat → Option AV}

end Go.AL.Rl

namespace Go.AL.Rl
open Go Go.AL Go.Proofs
set_option maxRecDepth 100000
set_option maxHeartbeats 3200000
variable {γ : Nat → Option AV}

def halfOk (s : Sta) : Bool := decide (0 ≤ s.half) && decide (s.half ≤ s.g.th.length) && (decide (s.half = 0) || (decide ((s.g.th.getD (s.half - 1).toNat []).length ≠ 0) && decide (((s.g.th.getD (s.half - 1).toNat []).getD ((s.g.th.getD (s.half - 1).toNat []).length - 1) ev0).kind = 1)))
def SOk (s : Sta) : Prop := GOk s.g ∧ markedM s.g s.ms = true ∧ halfOk s = true
instance (s : Sta) : Decidable (SOk s) := inferInstanceAs (Decidable (_ ∧ _))
end Go.AL.Rl

namespace Go.AL.Rl
open Go Go.AL Go.Proofs
set_option maxRecDepth 100000
set_option maxHeartbeats 3200000
variable {γ : Nat → Option AV}

abbrev sz : Sta := ⟨gz, [], 0⟩
end Go.AL.Rl

namespace Go.AL.Rl
open Go Go.AL Go.Proofs
set_option maxRecDepth 100000
set_option maxHeartbeats 3200000
variable {γ : Nat → Option AV}

theorem kids_ok (a b : List EId) (ha : (a.length : Int) ≤ 9223372036854775807) : Pure Try.prog γ false 23 [.vs 2 fun _ => ids a, .vs 2 fun _ => ids b] (.b fun _ => decide (a = b)) := by
 refine Pure.go (ty := ty) ty_eq mo Try.func23 rfl Try.ntmps23 Try.results23 Try.call23 (by simp) fun P C CQ D W F E hF => ?_
 cbv
 repeat' (first
  |(refine ⟨fun _ h_s=>?_,fun _ h_s=>?_⟩<;>(cbv;(try simp only [nc] at *);try simp (disch:=(first|omega|(simp only [lnS];omega))) only [rdT,rdS,reduceCtorEq,trT] at h_s))
  |(refine hF ?_;intro _;clear hF)
  |(refine hF ?_;cbv;clear hF)
  |(refine ⟨fun _=>?_,?_⟩;(· ((try simp only [nc] at *);first|done|omega|exact ⟨by omega,rfl⟩|(simp (disch:=(first|omega|(simp only [lnS];omega))) only [rdT,rdS];first|done|omega|rfl|exact ⟨by omega,rfl⟩|(simp;done)|(simp;omega))|(intros;trivial)));(try (simp only [nc] at *));(try simp (disch:=(first|omega|(simp only [lnS];omega))) only [rdT,rdS]);(try cbv))
  |(refine E.d 8 (by decide +kernel) ?_;cbv;(fail_if_success guard_target =~ False))
  | fail
 )
 ·simp
  intro e; subst e; simp_all
 ·refine E.loopS (ι:=Nat) (fun i=>i≤a.length∧(∀ k < i,a.getD k id0 = b.getD k id0)) (fun i=>a.length - i) (fun i=>[(5,.i fun _=>((i : Nat) : Int))]) (fun i h=>h) 0 (fun _=>by first|rfl|simp) ⟨Nat.zero_le _,?_⟩ ?_ fun i hi I hI=>?_
  ·intro k hk; omega
  ·cbv; simp
  cbv
  obtain ⟨hi, hp⟩ := hi
  repeat' (first
   |(refine hI (i + 1) ?_ ?_ ?_;rotate_left 1;(· ((try simp only [nc] at *);omega));(cbv;clear hI;(try clear hF);(try simp only [nc] at *);(try simp (disch:=(first|omega|(simp only [lnS];omega))) only [rdT,rdS,anT]));rotate_left 1;(try ((try simp only [nc] at *);omega)))
   |(refine ⟨fun _ h_s=>?_,fun _ h_s=>?_⟩<;>(cbv;(try simp only [nc] at *);try simp (disch:=(first|omega|(simp only [lnS];omega))) only [rdT,rdS,reduceCtorEq,trT] at h_s))
   |(refine hF ?_;intro _;clear hF)
   |(refine hF ?_;cbv;clear hF)
   |(refine ⟨fun _=>?_,?_⟩;(· ((try simp only [nc] at *);first|done|omega|exact ⟨by omega,rfl⟩|(simp (disch:=(first|omega|(simp only [lnS];omega))) only [rdT,rdS];first|done|omega|rfl|exact ⟨by omega,rfl⟩|(simp;done)|(simp;omega))|(intros;trivial)));(try (simp only [nc] at *));(try simp (disch:=(first|omega|(simp only [lnS];omega))) only [rdT,rdS]);(try cbv))
   |(refine E.d 8 (by decide +kernel) ?_;cbv;(fail_if_success guard_target =~ False))
   | fail
  )
  ·refine decide_eq_false fun e => ?_
   subst e
   simp at h_s
  ·refine ⟨by ((try simp only [nc] at *); omega), fun k hk => ?_⟩
   rcases Nat.lt_or_ge k i with h1 | h1
   ·exact hp k h1
   ·obtain rfl : k = i := by omega
    have h2 : (a.getD k id0).t = (b.getD k id0).t ∧ (a.getD k id0).i = (b.getD k id0).i := by simpa using h_s
    exact EId.ext' h2.1 h2.2
  ·push_cast; rfl
  ·refine decide_eq_true (List.ext_getElem (by ((try simp only [nc] at *); omega)) fun k h1 h2 => ?_)
   have := hp k (by ((try simp only [nc] at *); omega))
   simpa [h1, h2] using this
end Go.AL.Rl

namespace Go.AL.Rl
open Go Go.AL Go.Proofs
set_option maxRecDepth 100000
set_option maxHeartbeats 3200000
variable {γ : Nat → Option AV}

end Go.AL.Rl

namespace Go.AL.Rl
open Go Go.AL Go.Proofs
set_option maxRecDepth 100000
set_option maxHeartbeats 3200000

def evT (g : Gr) (d : EId) : Prop := 1 ≤ d.t ∧ d.t ≤ g.th.length ∧ 0 ≤ d.i ∧ d.i < (g.th.getD (d.t - 1).toNat []).length
def ahead (g : Gr) (a d : EId) : Prop := (a.t = d.t ∧ a.i < d.i) ∨ (readsM ((eventM g d).getD ev0) = true ∧ srcOf g d = a)
def Dn (g : Gr) (l : List EId) : Prop := ∀ d ∈ l, ∀ a, evT g a → ahead g a d → a ∈ l
/-- what is closed: events of threads, none twice, with all ahead of them -/
def ClG (g : Gr) (l : List EId) : Prop := l.Nodup ∧ (∀ d ∈ l, evT g d) ∧ Dn g l
end Go.AL.Rl

namespace Go.AL.Rl
open Go Go.AL Go.Proofs
set_option maxRecDepth 100000
set_option maxHeartbeats 3200000

section
variable {g : Gr} {l : List EId} (hg : GOk g) (hC : ClG g l)
include hg hC
omit hg hC in
omit hg hC in
omit hg hC in
omit hg hC in
omit hg hC in
omit hg hC in
end
end Go.AL.Rl

namespace Go.AL.Rl
open Go Go.AL Go.Proofs
set_option maxRecDepth 100000
set_option maxHeartbeats 3200000

section
variable {g : Gr} {l : List EId} (hg : GOk g) (hC : ClG g l)
include hg hC
end
theorem Sta.ext' {a b : Sta} (h1 : a.g = b.g) (h2 : a.ms = b.ms) (h3 : a.half = b.half) : a = b := by cases a; cases b; simp_all
end Go.AL.Rl

namespace Go.AL.Rl
open Go Go.AL Go.Proofs
set_option maxRecDepth 100000
set_option maxHeartbeats 1600000
variable {γ : Nat → Option AV}

structure Ft where
 a : Int
 b : Int
 br : Bool
structure Bk where
 rule : Int
 a : Int
 b : Int
 br : Bool
end Go.AL.Rl

namespace Go.AL.Rl
open Go Go.AL Go.Proofs
set_option maxRecDepth 100000
set_option maxHeartbeats 1600000

def flC (c : Nat → Bool) (f : Nat → List (Int × Int)) (k : Nat) : List (Int × Int) := (List.range k).flatMap fun i => if c i = true then f i else []
def crM (V : Vw) (w r : Nat) : Bool := relM (V.ev.getD r ev0) && (decide (r = w) || fenceM (V.ev.getD r ev0) && poM V r w)
def caM (V : Vw) (b a : Nat) : Bool := acqM (V.ev.getD a ev0) && (decide (a = b) || fenceM (V.ev.getD a ev0) && poM V b a)
def lA (V : Vw) (b r a : Nat) : List (Int × Int) := flC (caM V b) (fun a => [((r : Int), (a : Int))]) a
def lR (V : Vw) (n w b r : Nat) : List (Int × Int) := flC (crM V w) (fun r => lA V b r n) r
noncomputable def lB (V : Vw) (n w b : Nat) : List (Int × Int) := flC (rdrM V (seqM V n w)) (fun b => lR V n w b n) b
end Go.AL.Rl

namespace Go.AL.Rl
open Go Go.AL Go.Proofs
set_option maxRecDepth 100000
set_option maxHeartbeats 3200000

structure Emb (V U : Vw) (n m : Nat) (f : Nat → Nat) : Prop where
 lt : ∀ i < n, f i < m
 inj : ∀ i < n, ∀ j < n, f i = f j → i = j
 ids : ∀ i < n, U.ids.getD (f i) id0 = V.ids.getD i id0
 ev : ∀ i < n, U.ev.getD (f i) ev0 = V.ev.getD i ev0
 fr : ∀ i < n, ∀ j < n, V.fr.getD i 0 = (j : Nat) → U.fr.getD (f i) 0 = (f j : Nat)
 pl : ∀ i < n, ∀ j < n, nearM V i j = true → 0 ≤ V.pl.getD i 0 → V.pl.getD i 0 < V.pl.getD j 0 → 0 ≤ U.pl.getD (f i) 0 ∧ U.pl.getD (f i) 0 < U.pl.getD (f j) 0
 upd : ∀ i < n, (V.ev.getD i ev0).kind = 3 → U.pl.getD (f i) 0 = U.pl.getD (U.fr.getD (f i) 0).toNat 0 + 1 → V.pl.getD i 0 = V.pl.getD (V.fr.getD i 0).toNat 0 + 1
theorem hb_fits (V : Vw) {n : Nat} (h : n ≤ 62) : Fits n (hbF V n) := fits_plus (fits_or2 (fits_poF V h) (fits_swF V h))
section
variable {V U : Vw} {n m : Nat} {f : Nat → Nat} (E : Emb V U n m f) (hV : Wf V n) (hU : Wf U m)
include E
include hV
include hU
omit E hV hU in
omit E hV in
end
end Go.AL.Rl

namespace Go.AL
open Go Go.RowKit
section
variable {P : Program} {γ : Nat → Option AV}

theorem HeapR.grow {B : Nat} {S : Nat → Prop} {ρ : List Loc} {h : List Blk} {w : World} (hh : HeapR B S γ ρ h w) (K : Nat) (hK : K < w.heap.size) (hB : B ≤ K) (hno : ∀ (b : Nat) (loc : Loc), ρ[b]? = some loc → ¬ loc.has K) :
  HeapR B (fun k => S k ∨ k = K) γ ρ h w ∧ Ext B S ρ w (fun k => S k ∨ k = K) ρ w := by
 refine ⟨⟨hh.len, fun b blk loc h1 h2 => (hh.blk b blk loc h1 h2).mono (fun k hk => .inl hk) (fun _ _ => rfl) (LocsUp.refl ρ) fun _ _ => rfl, fun b loc k h1 h2 => ?_, hh.inj, fun k hk => ?_, fun g x hg => ?_, hh.bsz, hh.sok⟩,
  Fr.refl w, fun _ _ => rfl, fun k hk => .inl hk, fun _ _ => rfl, LocsUp.refl ρ, fun k hk => ?_⟩
 ·obtain ⟨k1, k2, k3⟩ := hh.own b loc k h1 h2
  refine ⟨fun hs => ?_, k2, k3⟩
  rcases hs with hs | hs
  ·exact k1 hs
  ·exact hno b loc h1 (by rw [← hs]; exact h2)
 ·rcases hk with hk | hk
  ·exact hh.sle k hk
  ·rw [hk]; exact hK
 ·exact R.mono (S := S) (fun k hk => .inl hk) (fun _ _ => rfl) (ρ := none) (ρ' := none) trivial _ _ (hh.gok g x hg)
 ·rcases hk with hk | hk
  ·exact .inl hk
  ·rw [hk]; exact .inr hB
end
end Go.AL

namespace Go.AL
open Go Go.RowKit
section
variable {P : Program} {γ : Nat → Option AV} {τ : Nat → TI} {C : EC}

end
section
variable {P : Program} {γ : Nat → Option AV}
end
end Go.AL

namespace Go.AL
open Go Go.RowKit
section
variable {P : Program} {γ : Nat → Option AV}

theorem AWPr.step {n : Nat} {c : Code} {Q : Exit → St → Prop} {A A' : St} (hs : Step γ A A') (h : AWPr P γ n c Q A') : AWPr P γ n c Q A := fun B S ρ a w h0 => by
 obtain ⟨S', ρ', h1, h2⟩ := hs B S ρ a w h0
 exact wp_mono (h B S' ρ' a w h1) fun e a' w' ⟨S'', ρ'', A'', q1, q2, q3⟩ => ⟨S'', ρ'', A'', q1, q2, h2.takeL.transR q3⟩
theorem AWPl.step {n : Nat} {l : List Code} {Q : Exit → St → Prop} {A A' : St} (hs : Step γ A A') (hl : l.isEmpty = false) (h : AWPl P γ n l Q A') : AWPl P γ n l Q A := by
 cases l with
 | nil => cases hl
 | cons c r => exact AWPr.step hs h
section
variable {C : EC} {CQ : List Blk → QC} {T : Nat → TI} {D : Array Oper → (St → Prop) → St → Prop} {W : Code → (Exit → St → Prop) → St → Prop}
/-- to stop behind the first 'k' items -/
theorem Env.at (E : Env P γ C CQ T D W) {n : Nat} {l : List Code} {Q : Exit → St → Prop} {A : St} (k : Nat)
  (h : ∀ I : St → Prop, (∀ {A'}, AWPl P γ n (l.drop k) Q A' → I A') → vcl T γ C D W (l.take k) (thenE I Q) A) : AWPl P γ n l Q A := by
 rw [← List.take_append_drop k l]
 exact AWPl.app ((E.bl (h (fun A' => AWPl P γ n (l.drop k) Q A') fun hl => hl)).mono fun e A' h => by cases e <;> exact h)
end

theorem Step.heap {A : St} {h' : List Blk} (hr : ∀ B S ρ w, HeapR B S γ ρ A.h w → ∃ S' ρ', HeapR B S' γ ρ' h' w ∧ Ext B S ρ w S' ρ' w) : Step γ A ⟨A.n, A.s, h'⟩ := fun B S ρ a w hs => by
 obtain ⟨S', ρ', h1, h2⟩ := hr B S ρ w hs.heap
 exact ⟨S', ρ', hs.ext h2 h1, h2⟩

theorem HeapR.adopt {B : Nat} {S : Nat → Prop} {ρ : List Loc} {h : List Blk} {w : World} (hh : HeapR B S γ ρ h w) (loc : Loc) (blk : Blk) (hsub : loc.sub = [])
  (hk : ∀ K, loc.k = some K → ¬ S K ∧ K < w.heap.size ∧ B ≤ K ∧ ∀ (b : Nat) (l : Loc), ρ[b]? = some l → ¬ l.has K) (hb : BlkR S w (ρ ++ [loc]) loc blk) :
  HeapR B S γ (ρ ++ [loc]) (h ++ [blk]) w ∧ Ext B S ρ w S (ρ ++ [loc]) w := by
 have hup := LocsUp.append ρ [loc]
 have key : ∀ (b : Nat) (lc : Loc), (ρ ++ [loc])[b]? = some lc → (b < ρ.length ∧ ρ[b]? = some lc) ∨ (b = ρ.length ∧ lc = loc) := by
  intro b lc h1
  by_cases hlt : b < ρ.length
  ·rw [List.getElem?_append_left hlt] at h1; exact .inl ⟨hlt, h1⟩
  ·rw [List.getElem?_append_right (by omega)] at h1
   have e1 : b - ρ.length = 0 := by
    have := (List.getElem?_eq_some_iff.1 h1).1; simp at this; omega
   rw [e1] at h1; simp at h1; exact .inr ⟨by omega, h1.symm⟩
 refine ⟨⟨by simp [hh.len], fun b bk lc h1 h2 => ?_, fun b lc K h1 h2 => ?_, fun b b' lc lc' K h1 h2 h3 h4 => ?_, hh.sle, hh.gok, hh.bsz, fun b lc h1 => ?_⟩, Fr.refl w, fun _ _ => rfl, fun _ h => h, fun _ _ => rfl, hup, fun _ h => .inl h⟩
 ·rcases key b lc h2 with ⟨a1, a2⟩ | ⟨a1, rfl⟩
  ·rw [List.getElem?_append_left (by rw [← hh.len]; exact a1)] at h1
   exact (hh.blk b bk lc h1 a2).mono (fun _ h => h) (fun _ _ => rfl) hup fun _ _ => rfl
  ·rw [a1, hh.len] at h1
   simp at h1; subst h1; exact hb
 ·rcases key b lc h1 with ⟨a1, a2⟩ | ⟨a1, rfl⟩
  ·exact hh.own b lc K a2 h2
  ·obtain ⟨k1, k2, k3, _⟩ := hk K (Loc.has_nil hsub h2)
   exact ⟨k1, k2, k3⟩
 ·rcases key b lc h1 with ⟨a1, a2⟩ | ⟨a1, rfl⟩
  ·rcases key b' lc' h2 with ⟨c1, c2⟩ | ⟨c1, rfl⟩
   ·exact hh.inj b b' lc lc' K a2 c2 h3 h4
   ·exact absurd h3 ((hk K (Loc.has_nil hsub h4)).2.2.2 b lc a2)
  ·rcases key b' lc' h2 with ⟨c1, c2⟩ | ⟨c1, rfl⟩
   ·exact absurd h4 ((hk K (Loc.has_nil hsub h3)).2.2.2 b' lc' c2)
   ·omega
 ·rcases key b lc h1 with ⟨a1, a2⟩ | ⟨a1, rfl⟩
  ·exact hh.sok b lc a2
  ·exact .nil hsub
/-- what was one block's is the other's -/
theorem HeapR.move {B : Nat} {S : Nat → Prop} {ρ : List Loc} {h : List Blk} {w : World} (hh : HeapR B S γ ρ h w) {b b2 : Nat} {loc loc2 loc' loc2' : Loc} {blk' : Blk} (hne : b ≠ b2) (hb : ρ[b]? = some loc) (hb2 : ρ[b2]? = some loc2)
  (hup : loc.up loc') (hup2 : loc2.up loc2') (hk : ∀ K, loc'.has K → loc.has K ∨ loc2.has K) (hk2 : ∀ K, ¬ loc2'.has K) (hsok : loc'.SubOk) (hsub2 : loc2'.sub = [])
  (hblk : BlkR S w ((ρ.set b loc').set b2 loc2') loc' blk') : HeapR B S γ ((ρ.set b loc').set b2 loc2') ((h.set b blk').set b2 .any) w ∧ Ext B S ρ w S ((ρ.set b loc').set b2 loc2') w := by
 have hblt : b < ρ.length := (List.getElem?_eq_some_iff.1 hb).1
 have hblt2 : b2 < ρ.length := (List.getElem?_eq_some_iff.1 hb2).1
 have key : ∀ (i : Nat) (l : Loc), ((ρ.set b loc').set b2 loc2')[i]? = some l → (i = b ∧ l = loc') ∨ (i = b2 ∧ l = loc2') ∨ (i ≠ b ∧ i ≠ b2 ∧ ρ[i]? = some l) := by
  intro i l hl
  by_cases e2 : b2 = i
  ·subst e2; simp [hblt2] at hl; exact .inr (.inl ⟨rfl, hl.symm⟩)
  ·rw [List.getElem?_set_ne e2] at hl
   by_cases e : b = i
   ·subst e; simp [hblt] at hl; exact .inl ⟨rfl, hl.symm⟩
   ·rw [List.getElem?_set_ne e] at hl; exact .inr (.inr ⟨fun h => e h.symm, fun h => e2 h.symm, hl⟩)
 have hlocs : LocsUp ρ ((ρ.set b loc').set b2 loc2') := by
  intro i l hl
  by_cases e2 : b2 = i
  ·subst e2; rw [hb2] at hl; cases hl
   exact ⟨loc2', by simp [hblt2], hup2⟩
  ·by_cases e : b = i
   ·subst e; rw [hb] at hl; cases hl
    exact ⟨loc', by rw [List.getElem?_set_ne e2]; simp [hblt], hup⟩
   ·exact ⟨l, by rw [List.getElem?_set_ne e2, List.getElem?_set_ne e]; exact hl, l.up_refl⟩
 refine ⟨⟨by simp [hh.len], fun i bk l h1 h2 => ?_, fun i l K h1 h2 => ?_, fun i j l l' K h1 h2 h3 h4 => ?_, hh.sle, hh.gok, hh.bsz, fun i l h1 => ?_⟩, Fr.refl w, fun _ _ => rfl, fun _ h => h, fun _ _ => rfl, hlocs, fun _ h => .inl h⟩
 ·rcases key i l h2 with ⟨rfl, rfl⟩ | ⟨rfl, rfl⟩ | ⟨n1, n2, h2⟩
  ·rw [List.getElem?_set_ne (fun e => hne e.symm)] at h1
   have : i < h.length := by rw [← hh.len]; exact hblt
   simp [this] at h1; subst h1; exact hblk
  ·have : i < (h.set b blk').length := by rw [List.length_set, ← hh.len]; exact hblt2
   rw [List.getElem?_set_self this] at h1; cases h1; trivial
  ·rw [List.getElem?_set_ne (fun e => n2 e.symm), List.getElem?_set_ne (fun e => n1 e.symm)] at h1
   exact (hh.blk i bk l h1 h2).mono (fun _ h => h) (fun _ _ => rfl) hlocs fun _ _ => rfl
 ·rcases key i l h1 with ⟨rfl, rfl⟩ | ⟨rfl, rfl⟩ | ⟨n1, n2, h1⟩
  ·rcases hk K h2 with e | e
   ·exact hh.own i loc K hb e
   ·exact hh.own b2 loc2 K hb2 e
  ·exact absurd h2 (hk2 K)
  ·exact hh.own i l K h1 h2
 ·have none2 : ∀ (i : Nat) (l : Loc), i ≠ b → i ≠ b2 → ρ[i]? = some l → l.has K → ¬ loc'.has K := fun i l n1 n2 g1 g2 g3 => by
   rcases hk K g3 with e | e
   ·exact n1 (hh.inj i b l loc K g1 hb g2 e)
   ·exact n2 (hh.inj i b2 l loc2 K g1 hb2 g2 e)
  rcases key i l h1 with ⟨rfl, rfl⟩ | ⟨rfl, rfl⟩ | ⟨n1, n2, g1⟩
  ·rcases key j l' h2 with ⟨rfl, rfl⟩ | ⟨rfl, rfl⟩ | ⟨m1, m2, g2⟩
   ·rfl
   ·exact absurd h4 (hk2 K)
   ·exact absurd h3 (none2 j l' m1 m2 g2 h4)
  ·exact absurd h3 (hk2 K)
  ·rcases key j l' h2 with ⟨rfl, rfl⟩ | ⟨rfl, rfl⟩ | ⟨m1, m2, g2⟩
   ·exact absurd h4 (none2 i l n1 n2 g1 h3)
   ·exact absurd h4 (hk2 K)
   ·exact hh.inj i j l l' K g1 g2 h3 h4
 ·rcases key i l h1 with ⟨rfl, rfl⟩ | ⟨rfl, rfl⟩ | ⟨_, _, g1⟩
  ·exact hsok
  ·exact .nil hsub2
  ·exact hh.sok i l g1
theorem Loc.SubOk.set {l l' : Loc} (h : l.SubOk) {i : Nat} (hs : l'.sub = l.sub.set i none) (hk : l'.k = l.k) : l'.SubOk where
 out := fun K hK => by
  rw [hs] at hK
  rw [hk]
  rcases List.mem_or_eq_of_mem_set hK with hK | hK
  ·exact h.out K hK
  ·cases hK
 one := fun a c K ha hc => by
  have key : ∀ a, l'.sub[a]? = some (some K) → l.sub[a]? = some (some K) := fun a ha => by
   rw [hs, List.getElem?_set] at ha
   split at ha
   ·split at ha <;> cases ha
   ·exact ha
  exact h.one a c K (key a ha) (key c hc)
theorem Loc.has_set {l l' : Loc} {i K : Nat} (hs : l'.sub = l.sub.set i none) (hk : l'.k = l.k) (h : l'.has K) : l.has K := by
 rcases h with h | h
 ·exact .inl (by rw [← hk]; exact h)
 ·rw [hs] at h
  rcases List.mem_or_eq_of_mem_set h with h | h
  ·exact .inr h
  ·cases h
theorem HeapR.drop {B : Nat} {S : Nat → Prop} {ρ : List Loc} {h : List Blk} {w : World} (hh : HeapR B S γ ρ h w) {b g q : Nat} {ess : Unit → List LV} (hb : h[b]? = some (.nest g q ess none)) (i : Unit → Nat) {loc : Loc} (hl : ρ[b]? = some loc) :
  HeapR B S γ (ρ.set b { loc with sub := loc.sub.set (i ()) none }) (h.set b (.nest g q ess (some (i, .any)))) w ∧ Ext B S ρ w S (ρ.set b { loc with sub := loc.sub.set (i ()) none }) w := by
 obtain ⟨d1, d2, d3, evs, d4, d5, d6, d7⟩ := hh.blk b _ loc hb hl
 refine hh.updS (loc' := { loc with sub := loc.sub.set (i ()) none }) hl (.inl ⟨_, rfl⟩) (fun K hK => .inl (Loc.has_set (l := loc) (l' := { loc with sub := loc.sub.set (i ()) none }) rfl rfl hK)) (Fr.refl w) (fun _ _ _ => rfl) ⟨d1, d2, d3, evs, d4, d5, by simp [d6], fun p es v s g1 g2 g3 => ?_⟩ ((hh.sok b loc hl).set rfl rfl)
 have hpl : p < loc.sub.length := by have := (List.getElem?_eq_some_iff.1 g2).1; omega
 have hold : InR S w q es v loc.sub[p] := d7 p es v _ g1 g2 (List.getElem?_eq_getElem hpl)
 have g3 : (loc.sub.set (i ()) none)[p]? = some s := g3
 rw [List.getElem?_set] at g3
 split at g3
 ·rename_i e
  rw [if_pos (by omega)] at g3
  cases g3
  obtain ⟨a, cap, ievs, rfl, _⟩ := hold
  exact .inl ⟨e.symm, rfl, trivial, rfl⟩
 ·rename_i e
  rw [List.getElem?_eq_getElem hpl] at g3
  cases g3
  exact .inr ⟨fun h => e h.symm, hold⟩
theorem Step.drop {A : St} (b : Nat) {g q : Nat} {ess : Unit → List LV} (hb : A.h[b]? = some (.nest g q ess none)) (i : Unit → Nat) : Step γ A ⟨A.n, A.s, A.h.set b (.nest g q ess (some (i, .any)))⟩ :=
 Step.heap fun B S ρ w hh => by
  have hlt : b < ρ.length := by rw [hh.len]; exact (List.getElem?_eq_some_iff.1 hb).1
  have := hh.drop hb i (List.getElem?_eq_getElem hlt)
  exact ⟨_, _, this.1, this.2⟩
theorem Step.take {A : St} (b : Nat) {g q : Nat} {ess : Unit → List LV} (hb : A.h[b]? = some (.nest g q ess none)) (i : Unit → Nat) (hi : ∀ _ : Unit, i () < (ess ()).length) :
  Step γ A ⟨A.n, A.s, (A.h.set b (.nest g q ess (some (i, .sl A.h.length 0 q (fun _ => 0) fun _ => ((ess ()).getD (i ()) .nil).l.length)))) ++ [.run 0 q fun _ => (ess ()).getD (i ()) .nil]⟩ :=
 Step.heap fun B S ρ w hh => by
  have hlt : b < ρ.length := by rw [hh.len]; exact (List.getElem?_eq_some_iff.1 hb).1
  obtain ⟨loc, hl⟩ : ∃ loc, ρ[b]? = some loc := ⟨_, List.getElem?_eq_getElem hlt⟩
  obtain ⟨d1, d2, d3, evs, d4, d5, d6, d7⟩ := hh.blk b _ loc hb hl
  have hi := hi ()
  obtain ⟨p1, p2⟩ := hh.drop hb i hl
  have hie : (ess ())[i ()]? = some ((ess ()).getD (i ()) .nil) := by rw [List.getD_eq_getElem?_getD, List.getElem?_eq_getElem hi]; rfl
  have hve : evs[i ()]? = some evs[i ()] := List.getElem?_eq_getElem (by omega)
  have hse : loc.sub[i ()]? = some loc.sub[i ()] := List.getElem?_eq_getElem (by omega)
  have hin : InR S w q ((ess ()).getD (i ()) .nil) evs[i ()] loc.sub[i ()] := d7 _ _ _ _ hie hve hse
  generalize hes : (ess ()).getD (i ()) .nil = es at hin hie
  generalize hv : evs[i ()]'(by omega) = v at hin hve
  generalize hs : loc.sub[i ()]'(by omega) = s at hin hse
  obtain ⟨a, cap, ievs, rfl, c2, c3, c4, c5, c6⟩ := hin
  have hil : ievs.length = es.l.length := Rs_len ((RL_iff _ _ _ _).1 c4)
  -- the run that comes
  obtain ⟨l2, hl2, hbl, hr⟩ : ∃ l2 : Loc, (l2.sub = [] ∧ l2.k = s ∧ l2.box = false ∧ l2.g = 0 ∧ l2.e = q) ∧ (∀ ρ2, BlkR S w ρ2 l2 (.run 0 q fun _ => es)) ∧
    (∀ ρ2 : List Loc, R S w (some (ρ2 ++ [l2])) (.sl ρ2.length 0 q (fun _ => 0) fun _ => es.l.length) (.slice a ievs.length cap)) := by
   rcases c6 with ⟨rfl, c6⟩ | ⟨K, c, ty, rfl, r2, r3, r4, r5⟩
   ·have : ievs = [] := List.eq_nil_of_length_eq_zero (by omega)
    subst this
    exact ⟨⟨false, 0, none, q, 0, []⟩, ⟨rfl, rfl, rfl, rfl, rfl⟩, fun ρ2 => ⟨rfl, rfl, rfl, [], c4, fun e he => (by cases he), .inl ⟨rfl, rfl⟩⟩,
     fun ρ2 => ⟨_, _, a, cap, rfl, getElem?_concat _ _, rfl, rfl, Nat.le_refl _, by rw [← hil], by rw [← hil]; exact c2, c3, fun _ => .inl ⟨rfl, c6, rfl⟩⟩⟩
   ·exact ⟨⟨false, 0, some K, q, c.size, []⟩, ⟨rfl, rfl, rfl, rfl, rfl⟩, fun ρ2 => ⟨rfl, rfl, rfl, ievs, c4, c5, .inr ⟨K, c, ty, rfl, r4, rfl, Nat.le_trans (Nat.mul_le_mul_right _ c2) r3, r5⟩⟩,
     fun ρ2 => ⟨_, _, a, cap, rfl, getElem?_concat _ _, rfl, rfl, Nat.le_refl _, by rw [← hil], by rw [← hil]; exact c2, c3, fun _ => .inr ⟨K, rfl, by simpa using r2, by simpa using r3⟩⟩⟩
  obtain ⟨m1, m2, m3, m4, m5⟩ := hl2
  obtain ⟨q1, q2⟩ := p1.adopt l2 (.run 0 q fun _ => es) m1 (fun K hK => by
   rw [m2] at hK
   obtain ⟨k1, k2, k3⟩ := hh.own b loc K hl (.inr (by rw [← hK, ← hs]; exact List.getElem_mem _))
   refine ⟨k1, k2, k3, fun b' l' hb' hK' => ?_⟩
   by_cases e : b = b'
   ·subst e
    rw [List.getElem?_set_self hlt] at hb'; cases hb'
    rcases hK' with hK' | hK'
    ·exact (hh.sok b loc hl).out K (by rw [← hK]; exact List.mem_of_getElem? hse) hK'
    ·obtain ⟨j, hj, hj2⟩ := List.getElem_of_mem hK'
     have hj3 : (loc.sub.set (i ()) none)[j]? = some (some K) := by rw [← hj2]; exact List.getElem?_eq_getElem hj
     rw [List.getElem?_set] at hj3
     split at hj3
     ·split at hj3 <;> cases hj3
     ·rename_i ne
      exact ne ((hh.sok b loc hl).one j (i ()) K hj3 (by rw [hse, hK])).symm
   ·rw [List.getElem?_set_ne e] at hb'
    exact e (hh.inj b b' loc l' K hl hb' (.inr (by rw [← hK]; exact List.mem_of_getElem? hse)) hK')) (hbl _)
  have hρ : (ρ.set b { loc with sub := loc.sub.set (i ()) none }).length = A.h.length := by rw [List.length_set, hh.len]
  have hT := q1.retell b (.nest g q ess (some (i, .sl A.h.length 0 q (fun _ => 0) fun _ => ((ess ()).getD (i ()) .nil).l.length))) fun loc3 h3 => by
   rw [List.getElem?_append_left (by rw [List.length_set]; exact hlt), List.getElem?_set_self hlt] at h3
   cases h3
   refine ⟨d1, d2, d3, evs, d4, d5, by simp [d6], fun p es' v' s' g1 g2 g3 => ?_⟩
   have hpl : p < loc.sub.length := by have := (List.getElem?_eq_some_iff.1 g2).1; omega
   have hold : InR S w q es' v' loc.sub[p] := d7 p es' v' _ g1 g2 (List.getElem?_eq_getElem hpl)
   have g3 : (loc.sub.set (i ()) none)[p]? = some s' := g3
   rw [List.getElem?_set] at g3
   split at g3
   ·rename_i e
    rw [if_pos (by omega)] at g3
    cases g3
    rw [← e, hve] at g2
    cases g2
    refine .inl ⟨e.symm, rfl, ?_, rfl⟩
    have := hr (ρ.set b { loc with sub := loc.sub.set (i ()) none })
    rw [hρ] at this
    simp only [hes]
    exact this
   ·rename_i e
    rw [List.getElem?_eq_getElem hpl] at g3
    cases g3
    exact .inr ⟨fun h => e h.symm, hold⟩
  refine ⟨S, _, ?_, p2.trans q2⟩
  rw [List.set_append_left _ _ (by rw [List.length_set]; exact (List.getElem?_eq_some_iff.1 hb).1), List.set_set] at hT
  simp only [hes] at hT
  exact hT
end
end Go.AL

namespace Go.AL
open Go Go.RowKit
section
variable {P : Program} {γ : Nat → Option AV}

theorem Step.put {A : St} (b b2 : Nat) {g q g2 g3 : Nat} {ess : Unit → List LV} {i off len : Unit → Nat} {es : Unit → LV} (hb : A.h[b]? = some (.nest g q ess (some (i, .sl b2 g2 q off len)))) (hb2 : A.h[b2]? = some (.run g3 q es))
  (hc : ∀ _ : Unit, g3 = g2 ∧ off () = 0 ∧ len () = (es ()).l.length) :
  Step γ A ⟨A.n, A.s, (A.h.set b (.nest g q (fun _ => (ess ()).set (i ()) (es ())) none)).set b2 .any⟩ :=
 Step.heap fun B S ρ w hh => by
  obtain ⟨rfl, c0, c1⟩ := hc ()
  have hne : b ≠ b2 := fun e => by subst e; rw [hb] at hb2; cases hb2
  have hlt : b < ρ.length := by rw [hh.len]; exact (List.getElem?_eq_some_iff.1 hb).1
  have hlt2 : b2 < ρ.length := by rw [hh.len]; exact (List.getElem?_eq_some_iff.1 hb2).1
  obtain ⟨loc, hl⟩ : ∃ loc, ρ[b]? = some loc := ⟨_, List.getElem?_eq_getElem hlt⟩
  obtain ⟨loc2, hl2⟩ : ∃ loc, ρ[b2]? = some loc := ⟨_, List.getElem?_eq_getElem hlt2⟩
  obtain ⟨d1, d2, d3, evs, d4, d5, d6, d7⟩ := hh.blk b _ loc hb hl
  obtain ⟨f1, f2, f3, ievs, f4, f5, f6⟩ := hh.blk b2 _ loc2 hb2 hl2
  have hil : ievs.length = (es ()).l.length := Rs_len ((RL_iff _ _ _ _).1 f4)
  have hk2 : ∀ K, some K ∈ (loc.sub.set (i ()) loc2.k) → some K ∈ loc.sub ∨ loc2.k = some K := fun K hK => by
   rcases List.mem_or_eq_of_mem_set hK with hK | hK
   ·exact .inl hK
   ·exact .inr hK.symm
  have hsi : ∀ s, loc.sub[i ()]? = some s → s = none := fun s hs => by
   have hil' : i () < loc.sub.length := (List.getElem?_eq_some_iff.1 hs).1
   rcases d7 (i ()) _ _ s (List.getElem?_eq_getElem (by omega)) (List.getElem?_eq_getElem (by omega)) hs with ⟨_, h, _⟩ | ⟨h, _⟩
   ·exact h
   ·exact absurd rfl h
  have hsub : ∀ K, loc2.k = some K → ¬ some K ∈ loc.sub ∧ loc.k ≠ some K := fun K hK => ⟨fun h => hne (hh.inj b b2 loc loc2 K hl hl2 (.inr h) (.inl hK)), fun h => hne (hh.inj b b2 loc loc2 K hl hl2 (.inl h) (.inl hK))⟩
  have hm := hh.move (loc' := { loc with sub := loc.sub.set (i ()) loc2.k }) (loc2' := { loc2 with g := g3 + 1, k := none, size := 0, sub := [] }) (blk' := .nest g q (fun _ => (ess ()).set (i ()) (es ())) none) hne hl hl2 (.inl ⟨_, rfl⟩)
   (.inr (.inl ⟨f1, f1, by show loc2.g < g3 + 1; omega, rfl⟩))
   (fun K hK => by
    rcases hK with hK | hK
    ·exact .inl (.inl hK)
    ·rcases hk2 K hK with h | h
     ·exact .inl (.inr h)
     ·exact .inr (.inl h))
   (fun K hK => by rcases hK with hK | hK <;> first | (cases hK; done) | exact absurd hK (by simp))
   ⟨fun K hK hk => by
    rcases hk2 K hK with h | h
    ·exact (hh.sok b loc hl).out K h hk
    ·exact (hsub K h).2 hk, fun x y K hx hy => by
    have key : ∀ x, (loc.sub.set (i ()) loc2.k)[x]? = some (some K) → (x = i () ∧ loc2.k = some K) ∨ (x ≠ i () ∧ loc.sub[x]? = some (some K)) := fun x hx => by
     rw [List.getElem?_set] at hx
     split at hx
     ·rename_i e
      split at hx
      ·left; exact ⟨e.symm, by simpa using hx⟩
      ·cases hx
     ·rename_i e; exact .inr ⟨fun h => e h.symm, hx⟩
    rcases key x hx with ⟨x1, x2⟩ | ⟨x1, x2⟩ <;> rcases key y hy with ⟨y1, y2⟩ | ⟨y1, y2⟩
    ·omega
    ·exact absurd (List.mem_of_getElem? y2) (hsub K x2).1
    ·exact absurd (List.mem_of_getElem? x2) (hsub K y2).1
    ·exact (hh.sok b loc hl).one x y K x2 y2⟩ rfl
   ⟨d1, d2, d3, evs, d4, by simp [d5], by simp [d6], fun p es' v s g1 g2 g4 => by
    have hpl : p < evs.length := (List.getElem?_eq_some_iff.1 g2).1
    by_cases hp : p = i ()
    ·subst hp
     have g1 : ((ess ()).set (i ()) (es ()))[i ()]? = some es' := g1
     rw [List.getElem?_set_self (by omega)] at g1
     cases g1
     have g4 : (loc.sub.set (i ()) loc2.k)[i ()]? = some s := g4
     rw [List.getElem?_set_self (by omega)] at g4
     cases g4
     rcases d7 (i ()) _ _ _ (List.getElem?_eq_getElem (by omega)) g2 (List.getElem?_eq_getElem (by omega)) with ⟨_, _, hr, _⟩ | ⟨h, _⟩
     ·obtain ⟨l, lc, a, cap, e0, q1, q2, q3, q4, rfl, q6, q7, q8⟩ := hr
      cases e0
      rw [hl2] at q1; cases q1
      refine ⟨a, cap, ievs, by rw [c1, hil], by omega, q7, f4, f5, ?_⟩
      rcases q8 f2 with ⟨r1, r2, _⟩ | ⟨K, r1, r2, r3⟩
      ·exact .inl ⟨r1, r2⟩
      ·rcases f6 with ⟨e1, _⟩ | ⟨K', c, ty, e1, e2, e3, e4, e5⟩
       ·rw [r1] at e1; cases e1
       ·rw [r1] at e1; cases e1
        rw [c0, Nat.zero_mul] at r2
        rw [c0, Nat.zero_add, f3] at r3
        rw [f3] at e5
        exact .inr ⟨K, c, ty, r1, r2, by omega, e2, e5⟩
     ·exact absurd rfl h
    ·have g1 : ((ess ()).set (i ()) (es ()))[p]? = some es' := g1
     rw [List.getElem?_set_ne (fun e => hp e.symm)] at g1
     have g4 : (loc.sub.set (i ()) loc2.k)[p]? = some s := g4
     rw [List.getElem?_set_ne (fun e => hp e.symm)] at g4
     rcases d7 p es' v s g1 g2 g4 with ⟨h, _⟩ | ⟨_, h⟩
     ·exact absurd h hp
     ·exact h⟩
  exact ⟨S, _, hm.1, hm.2⟩

theorem Step.putE {A : St} (b b2 : Nat) {g q g2 g3 : Nat} {ess : Unit → List LV} {i off len : Unit → Nat} {es : Unit → LV} (ess' : Unit → List LV) (hb : A.h[b]? = some (.nest g q ess (some (i, .sl b2 g2 q off len)))) (hb2 : A.h[b2]? = some (.run g3 q es))
  (hc : ∀ _ : Unit, (g3 = g2 ∧ off () = 0 ∧ len () = (es ()).l.length) ∧ (ess ()).set (i ()) (es ()) = ess' ()) :
  Step γ A ⟨A.n, A.s, (A.h.set b (.nest g q ess' none)).set b2 .any⟩ := by
 have h := Step.put (γ := γ) b b2 hb hb2 fun _ => (hc ()).1
 have e1 : (fun _ : Unit => (ess ()).set (i ()) (es ())) = ess' := funext fun _ => (hc ()).2
 rw [e1] at h
 exact h

end
end Go.AL

namespace Go.AL
open Go Go.RowKit

section
variable {P : Program} {γ : Nat → Option AV} {τ : Nat → TI} {C : EC} {CQ : List Blk → QC}

def AWPx (P : Program) (γ : Nat → Option AV) (ro : Option Nat) (ds : List Deferred) (c : Code) (Q : Exit → St → Prop) (A : St) : Prop :=
 ∀ B S ρ a w n, Sim B S γ ρ A a w → c.wpIn (RF ro) n P (fun e a' w' => ∃ a0 S' ρ' A', a' = df ds a0 ∧ Q e A' ∧ Sim B S' γ ρ' A' a0 w' ∧ Ext B S ρ w S' ρ' w') (df ds a) w

variable {ro : Option Nat} {ds : List Deferred}
theorem AWPx.mono {c : Code} {Q Q' : Exit → St → Prop} {A : St} (h : AWPx P γ ro ds c Q A) (hq : ∀ e A, Q e A → Q' e A) : AWPx P γ ro ds c Q' A :=
 fun B S ρ a w n hs => wpIn_mono (h B S ρ a w n hs) fun e a' w' ⟨a0, S', ρ', A', h0, h1, h2, h3⟩ => ⟨a0, S', ρ', A', h0, hq _ _ h1, h2, h3⟩
theorem AWPx.skip {Q : Exit → St → Prop} {A : St} (h : Q .normal A) : AWPx P γ ro ds .skip Q A := fun B S ρ a w n hs => wpIn_skip ⟨a, S, ρ, A, rfl, h, hs, Ext.refl _ _ _ _⟩
theorem AWPx.exit {id : Nat} {Q : Exit → St → Prop} {A : St} (h : Q (.exit id) A) : AWPx P γ ro ds (.exit id) Q A := fun B S ρ a w n hs => wpIn_exit ⟨a, S, ρ, A, rfl, h, hs, Ext.refl _ _ _ _⟩
theorem AWPx.ret {Q : Exit → St → Prop} {A : St} (h : Q .ret A) : AWPx P γ ro ds .ret Q A := fun B S ρ a w n hs => wpIn_ret ⟨a, S, ρ, A, rfl, h, hs, Ext.refl _ _ _ _⟩
theorem AWPx.seq {x y : Code} {Q : Exit → St → Prop} {A : St} (h : AWPx P γ ro ds x (thenE (fun A => AWPx P γ ro ds y Q A) Q) A) : AWPx P γ ro ds (.seq x y) Q A := by
 intro B S ρ a w n hs
 refine wpIn_seq (wpIn_mono (h B S ρ a w n hs) fun e a' w' ⟨a0, S', ρ', A', h0, h1, h2, h3⟩ => ?_)
 cases e with
 | normal => subst h0; exact wpIn_mono (h1 B S' ρ' a0 w' n h2) fun e a'' w'' ⟨a1, S'', ρ'', A'', k0, k1, k2, k3⟩ => ⟨a1, S'', ρ'', A'', k0, k1, k2, h3.trans k3⟩
 | _ => exact ⟨a0, S', ρ', A', h0, h1, h2, h3⟩
theorem AWPx.cond {c : Operand} {x y : Code} {Q : Exit → St → Prop} {A : St} (h : br (A.ev γ c) (fun _ => AWPx P γ ro ds x Q A) (fun _ => AWPx P γ ro ds y Q A)) : AWPx P γ ro ds (.cond c x y) Q A := by
 intro B S ρ a w n hs
 obtain ⟨b, h1, h2⟩ := br_val h
 refine wpIn_cond (t := b) (by rw [df_eval]; exact h1 S w (some ρ) _ (hs.ev c)) ?_
 cases b
 ·exact h2 B S ρ a w n hs
 ·exact h2 B S ρ a w n hs
theorem AWPx.block {id : Nat} {c : Code} {Q : Exit → St → Prop} {A : St} (h : AWPx P γ ro ds c (inBlk id Q) A) : AWPx P γ ro ds (.block id c) Q A := by
 intro B S ρ a w n hs
 refine wpIn_block (wpIn_mono (h B S ρ a w n hs) fun e a' w' ⟨a0, S', ρ', A', h0, h1, h2, h3⟩ => ?_)
 cases e with
 | exit id' =>
  simp only [inBlk] at h1
  simp only [Exit.inBlock]
  split
  ·rename_i e; rw [if_pos e] at h1; exact ⟨a0, S', ρ', A', h0, h1, h2, h3⟩
  ·rename_i e; rw [if_neg e] at h1; exact ⟨a0, S', ρ', A', h0, h1, h2, h3⟩
 | _ => exact ⟨a0, S', ρ', A', h0, h1, h2, h3⟩

/-- what lies behind a region, told of its last state -/
def regQ (γ : Nat → Option AV) (B : Nat) (S : Nat → Prop) (ρ : List Loc) (w : World) (K : St → Prop) : Exit → Act → World → Prop := fun e a' w' => e = .normal ∧ ∃ S' ρ' A', K A' ∧ Sim B S' γ ρ' A' a' w' ∧ Ext B S ρ w S' ρ' w'

theorem AWPx.region {id : Nat} {ops : Array Oper} {Q : Exit → St → Prop} {A : St} (hd : ops.toList.all (fun o => !isDef o) = true) (hτ : ∀ t, τ t = tiOf P t) (hC : ∀ f args h Q, C f args h Q → PC P γ f args h Q) (hv : vops τ γ C ops.toList ops.toList A (Q .normal)) : AWPx P γ ro ds (.region id ops false) Q A := by
 intro B S ρ a w n hs
 refine wpIn_region_list (list_bridge (Q := regQ γ B S ρ w (Q .normal)) (fun e a w h => h.1) ?_ _ a w hd ?_)
 ·rintro a' w' ⟨_, S', ρ', A', h1, h2, h3⟩
  exact ⟨a', S', ρ', A', rfl, h1, h2, h3⟩
 ·exact vops_sound hτ hC _ A B S ρ a w hs hv fun S' ρ' A' _ _ h1 h2 h3 => ⟨rfl, S', ρ', A', h1, h2, h3⟩

theorem AWPx.draw {id : Nat} {ops : Array Oper} {Q : Exit → St → Prop} {A : St} (hd : ops.toList.all (fun o => !isDef o) = true) (hτ : ∀ t, τ t = tiOf P t) (hC : ∀ f args h Q, C f args h Q → PC P γ f args h Q) (hCQ : ∀ h f args k, CQ h f args k → QCalls P γ h f args k) (hm : P.follows .mixedOrders = true)
  (n0 : Nat) (hB : drawB ops n0 = true) (hv : vhd τ γ CQ ops (ops.toList.take n0) A fun A => vops τ γ C ops.toList (ops.toList.drop n0) A (Q .normal)) : AWPx P γ ro ds (.region id ops true) Q A := by
 intro B S ρ a w n hs
 refine wpIn_region_any hm (any_bridge (Q := regQ γ B S ρ w (Q .normal)) hd (fun e a w h => h.1) ?_ _ _ a _ (any_region_A n0 hB hs (vhd_sound hτ hCQ _ _ hv) fun S' A' a' w' hv' hs' hx => ?_))
 ·rintro a' w' ⟨_, S', ρ', A', h1, h2, h3⟩
  exact ⟨a', S', ρ', A', rfl, h1, h2, h3⟩
 ·exact vops_sound hτ hC _ A' B S' ρ a' w' hs' hv' fun S'' ρ'' A'' a'' w'' h1 h2 h3 => ⟨rfl, S'', ρ'', A'', h1, h2, hx.trans h3⟩

/-- no deferred call is put down -/
def noDef : Code → Bool
 | .seq x y => noDef x && noDef y
 | .cond _ x y => noDef x && noDef y
 | .block _ c => noDef c
 | .region _ ops _ => ops.toList.all fun o => !isDef o
 | .skip | .exit _ | .ret => true
 | _ => false

theorem vcx_sound {D : Array Oper → (St → Prop) → St → Prop} (hτ : ∀ t, τ t = tiOf P t) (hC : ∀ f args h Q, C f args h Q → PC P γ f args h Q)
  (hD : ∀ id ops K (Q : Exit → St → Prop) A, ops.toList.all (fun o => !isDef o) = true → (∀ A, K A → Q .normal A) → D ops K A → AWPx P γ ro ds (.region id ops true) Q A) :
  ∀ (c : Code) (Q : Exit → St → Prop) (A : St), noDef c = true → vc τ γ C D (fun _ _ _ => False) c Q A → AWPx P γ ro ds c Q A
 | .skip, Q, A, _, h => AWPx.skip h
 | .seq x y, Q, A, hd, h => by
  simp only [noDef, Bool.and_eq_true] at hd
  refine AWPx.seq ((vcx_sound hτ hC hD x _ _ hd.1 h).mono fun e A' h' => ?_)
  cases e with
  | normal => exact vcx_sound hτ hC hD y _ _ hd.2 h'
  | _ => exact h'
 | .cond c x y, Q, A, hd, h => by
  simp only [noDef, Bool.and_eq_true] at hd
  refine AWPx.cond ?_
  simp only [vc] at h
  generalize A.ev γ c = v at *
  cases v
  all_goals first | exact h.elim | skip
  all_goals simp only [br] at h ⊢
  all_goals first | exact vcx_sound hτ hC hD x _ _ hd.1 h | exact vcx_sound hτ hC hD y _ _ hd.2 h | skip
  exact ⟨fun u hu => vcx_sound hτ hC hD x _ _ hd.1 (h.1 u hu), fun u hu => vcx_sound hτ hC hD y _ _ hd.2 (h.2 u hu)⟩
 | .block id c, Q, A, hd, h => AWPx.block (vcx_sound hτ hC hD c _ _ hd h)
 | .exit id, Q, A, _, h => AWPx.exit h
 | .ret, Q, A, _, h => AWPx.ret h
 | .region id ops false, Q, A, hd, h => AWPx.region hd hτ hC h
 | .region id ops true, Q, A, hd, h => hD id ops _ Q A hd (fun _ h => h) h
 | .loop c, Q, A, _, h => h.elim
 | .scope c, Q, A, hd, h => by simp [noDef] at hd
 | .goto _, _, _, _, h => h.elim
 | .label _, Q, A, hd, h => by simp [noDef] at hd
 | .refuse _, _, _, _, h => h.elim
 | .rangeFunc .., _, _, _, h => h.elim

/-- what a walk of straight code may lean on -/
structure EnvX (P : Program) (γ : Nat → Option AV) (C : EC) (CQ : List Blk → QC) (T : Nat → TI) (D : Array Oper → (St → Prop) → St → Prop) : Prop where
 c : ∀ {f args h Q}, SCalls P γ f args h Q → C (.inl f) args h Q
 q : ∀ {h f args k}, QCalls P γ h f args k → CQ h f args k
 d : ∀ n {ops K A}, drawB ops n = true → vhd T γ CQ ops (ops.toList.take n) A (fun A => vops T γ C ops.toList (ops.toList.drop n) A K) → D ops K A

def Dx (P : Program) (γ : Nat → Option AV) (ops : Array Oper) (K : St → Prop) (A : St) : Prop := ops.toList.all (fun o => !isDef o) = true → ∀ ro ds id, AWPx P γ ro ds (.region id ops true) (thenE K fun _ _ => False) A
theorem EnvX.top {ty : Program → Nat → TI} (hτ : ∀ t, ty P t = tiOf P t) (hm : P.follows .mixedOrders = true) : EnvX P γ (PC P γ) (fun h f args k => QCalls P γ h f args k) (ty P) (Dx P γ) where
 c := fun h => h
 q := fun h => h
 d := fun n {ops K A} h1 h2 hd ro ds id => AWPx.draw (Q := thenE K fun _ _ => False) hd hτ (fun _ _ _ _ h => h) (fun _ _ _ _ h => h) hm n h1 h2
theorem EnvX.to {ty : Program → Nat → TI} (hτ : ∀ t, ty P t = tiOf P t) (hm : P.follows .mixedOrders = true) {c : Code} {Q : Exit → St → Prop} {A : St} (hd : noDef c = true) (h : vc (ty P) γ (PC P γ) (Dx P γ) (fun _ _ _ => False) c Q A) : AWPx P γ ro ds c Q A :=
 vcx_sound hτ (fun _ _ _ _ h => h) (fun id ops K Q A hd hK h => (h hd ro ds id).mono fun e A' he => by
  cases e with
  | normal => exact hK A' he
  | _ => exact he.elim) c Q A hd h
end
end Go.AL

namespace Go.AL
open Go Go.RowKit

section
variable {P : Program} {γ : Nat → Option AV}

def noCells (o : Obj) : Prop := ∀ c t f, o ≠ .cells c t f

theorem HeapR.addObj {B : Nat} {S : Nat → Prop} {ρ : List Loc} {h : List Blk} {w : World} (hh : HeapR B S γ ρ h w) (loc : Loc) (K : Nat) (hk : loc.k = some K) (hsub : loc.sub = []) (hS : ¬ S K) (hK : K < w.heap.size) (hB : B ≤ K)
  (hn : ∀ (b : Nat) (lc : Loc), ρ[b]? = some lc → ¬ lc.has K) (blk : Blk) (hb : BlkR S w (ρ ++ [loc]) loc blk) : HeapR B S γ (ρ ++ [loc]) (h ++ [blk]) w := by
 have hup := LocsUp.append ρ [loc]
 have key : ∀ (b : Nat) (lc : Loc), (ρ ++ [loc])[b]? = some lc → (b < ρ.length ∧ ρ[b]? = some lc) ∨ (b = ρ.length ∧ lc = loc) := by
  intro b lc h1
  by_cases hlt : b < ρ.length
  ·rw [List.getElem?_append_left hlt] at h1; exact .inl ⟨hlt, h1⟩
  ·rw [List.getElem?_append_right (by omega)] at h1
   have e1 : b - ρ.length = 0 := by
    have := (List.getElem?_eq_some_iff.1 h1).1; simp at this; omega
   rw [e1] at h1; simp at h1; exact .inr ⟨by omega, h1.symm⟩
 refine ⟨by simp [hh.len], fun b bk lc h1 h2 => ?_, fun b lc K h1 h2 => ?_, fun b b' lc lc' K' h1 h2 h3 h4 => ?_, hh.sle, hh.gok, hh.bsz, fun b lc h1 => ?_⟩
 ·rcases key b lc h2 with ⟨a1, a2⟩ | ⟨a1, rfl⟩
  ·rw [List.getElem?_append_left (by rw [← hh.len]; exact a1)] at h1
   exact (hh.blk b bk lc h1 a2).mono (fun _ h => h) (fun _ _ => rfl) hup fun _ _ => rfl
  ·rw [a1, hh.len] at h1
   simp at h1; subst h1; exact hb
 ·rcases key b lc h1 with ⟨a1, a2⟩ | ⟨a1, rfl⟩
  ·exact hh.own b lc K a2 h2
  ·have h2 := Loc.has_nil hsub h2; rw [hk] at h2; cases h2; exact ⟨hS, hK, hB⟩
 ·rcases key b lc h1 with ⟨a1, a2⟩ | ⟨a1, rfl⟩
  ·rcases key b' lc' h2 with ⟨c1, c2⟩ | ⟨c1, rfl⟩
   ·exact hh.inj b b' lc lc' K' a2 c2 h3 h4
   ·have h4 := Loc.has_nil hsub h4; rw [hk] at h4; cases h4; exact absurd h3 (hn b lc a2)
  ·have h3 := Loc.has_nil hsub h3; rw [hk] at h3; cases h3
   rcases key b' lc' h2 with ⟨c1, c2⟩ | ⟨c1, rfl⟩
   ·exact absurd h4 (hn b' lc' c2)
   ·omega
 ·rcases key b lc h1 with ⟨a1, a2⟩ | ⟨a1, rfl⟩
  ·exact hh.sok b lc a2
  ·exact .nil hsub

/-- a new object -/
theorem HeapR.allocObj {B : Nat} {S : Nat → Prop} {ρ : List Loc} {h : List Blk} {w : World} (hh : HeapR B S γ ρ h w) (o : Obj) (ho : noCells o) (s : Tr) (t : Array Value) (hs : ∀ n, R S w (some ρ) (s.get n) (t.getD n Go.undef)) :
  ∃ ρ', HeapR B S γ ρ' (h ++ [.obj w.heap.size o s t]) (w.alloc o) ∧ Ext B S ρ w S ρ' (w.alloc o) := by
 have hq : ExtQ S w S (w.alloc o) := ⟨Fr.alloc w o fun c t lo hi e => absurd e (ho c t (lo, hi)), fun k hk => Below.heap_alloc w _ k hk, fun _ h => h, fun _ h => .inl h⟩
 have hsz : (w.alloc o).heap.size = w.heap.size + 1 := World.size_alloc ..
 refine ⟨ρ ++ [⟨true, 0, some w.heap.size, 0, 0, []⟩], (hh.q hq).addObj _ w.heap.size rfl rfl (fun hk => by have := hh.sle _ hk; omega) (by omega) hh.bsz (fun b lc h1 h2 => by have := (hh.own b lc _ h1 h2).2.1; omega) _
  ⟨rfl, rfl, World.alloc_heap_new w o, fun n => ?_⟩, ?_⟩
 ·exact R.mono (fun _ h => h) (fun k hk => hq.same k (hh.sle k hk)) (ρ := some ρ) (ρ' := some (ρ ++ [_])) (LocsUp.append ρ _) _ _ (hs n)
 ·exact (hh.ext hq).trans ⟨Fr.refl _, fun _ _ => rfl, fun _ h => h, fun _ _ => rfl, LocsUp.append ρ _, fun _ h => .inl h⟩

/-- an object is turned into another -/
theorem HeapR.putObj {B : Nat} {S : Nat → Prop} {ρ : List Loc} {h : List Blk} {w : World} (hh : HeapR B S γ ρ h w) {b K : Nat} {o : Obj} (o' : Obj) {s : Tr} {t : Array Value} (hb : h[b]? = some (.obj K o s t)) (ho : noCells o) (ho' : noCells o') :
  w.heap[K]? = some o ∧ HeapR B S γ ρ (h.set b (.obj K o' s t)) (w.putObj K o') ∧ Ext B S ρ w S ρ (w.putObj K o') ∧ ∀ n, R S w (some ρ) (s.get n) (t.getD n Go.undef) := by
 have hblt : b < ρ.length := by rw [hh.len]; exact (List.getElem?_eq_some_iff.1 hb).1
 obtain ⟨loc, hloc⟩ : ∃ loc, ρ[b]? = some loc := ⟨_, List.getElem?_eq_getElem hblt⟩
 obtain ⟨k1, k2, k3, k4⟩ := hh.blk b _ loc hb hloc
 obtain ⟨m1, m2, m3⟩ := hh.own b loc K hloc (.inl k2)
 have same : SameOn S w (w.putObj K o') := fun k hk => World.putObj_heap_other (fun e => m1 (e ▸ hk))
 have fro : ∀ a, (w.putObj K o').frozen? a = w.frozen? a := fun a => by
  by_cases e : a.block = K
  ·simp only [World.frozen?, e, World.putObj_heap_same m2, k3]
   cases o' <;> first | exact absurd rfl (ho' _ _ _) | (cases o <;> first | exact absurd rfl (ho _ _ _) | rfl)
  ·simp only [World.frozen?, World.putObj_heap_other e]
 have fr : Fr w (w.putObj K o') := ⟨rfl, rfl, rfl, by simp, fun a _ => fro a⟩
 refine ⟨k3, ⟨by simp [hh.len], fun b' bk lc h1 h2 => ?_, fun b' lc K' h1 h2 => by have := hh.own b' lc K' h1 h2; simpa using this, hh.inj, fun k hk => by simpa using hh.sle k hk, fun g x hg => ?_, by simpa using hh.bsz, hh.sok⟩,
  ⟨fr, fun k hk => World.putObj_heap_other (by omega), fun _ h => h, same, LocsUp.refl ρ, fun _ h => .inl h⟩, k4⟩
 ·by_cases e : b = b'
  ·subst e
   rw [hloc] at h2; cases h2
   rw [List.getElem?_set_self (by rw [← hh.len]; exact hblt)] at h1
   cases h1
   exact ⟨k1, k2, World.putObj_heap_same m2, fun n => R.mono (fun _ h => h) same (ρ := some ρ) (ρ' := some ρ) (LocsUp.refl ρ) _ _ (k4 n)⟩
  ·rw [List.getElem?_set_ne e] at h1
   refine (hh.blk b' bk lc h1 h2).mono (fun _ h => h) same (LocsUp.refl ρ) fun K' hK' => World.putObj_heap_other fun e' => e ?_
   subst e'
   exact hh.inj b b' loc lc _ hloc h2 (.inl k2) hK'
 ·exact R.mono (fun _ h => h) same (ρ := none) (ρ' := none) trivial _ _ (hh.gok g x hg)
end
end Go.AL
