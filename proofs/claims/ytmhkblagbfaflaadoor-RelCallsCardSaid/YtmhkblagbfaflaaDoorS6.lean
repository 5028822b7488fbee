import Derived.Test.YtmhkblagbfaflaaDoorS5
set_option linter.unusedVariables false
set_option linter.unusedSimpArgs false
namespace Go.AL.Rl
open Go Go.AL Go.Proofs
variable {γ : Nat → Option AV}
set_option maxRecDepth 100000

/-! ### Pairs -/
theorem prow_full (i : Nat) (row : BitVec 64) (n : Nat) (h : ∀ j, row.getLsbD j = true → j < n) : ∀ d, prow i row (n + d) = prow i row n
  | 0 => rfl
  | d + 1 => by
    rw [← Nat.add_assoc, prow_succ, prow_full i row n h d, if_neg]
    intro hb
    have := h _ hb
    omega
theorem rpairs_no (n : Int) (rows : List (BitVec 64)) (h : ¬ Fits n rows) : Pure Tryd.prog γ false 37 [encRel n rows] (.vs 2 fun _ => ps []) := by
  refine Pure.go (ty := ty) ty_eq mo Tryd.func37 rfl Tryd.ntmps37 Tryd.results37 Tryd.call37 (by simp) fun P C CQ D W F E hF => ?_
  cbv
  refine E.loop (ι := Unit) (fun _ => True) (fun _ => 0) (fun _ => [(3, .nils), (4, .i fun _ => 0)]) (fun _ => [.box (encRel n rows)]) () rfl (fun _ => rfl) trivial ?_ fun m hm I hI => ?_
  · cbv
    simp
  cbv
  refine ⟨fun _ h4 => ?_, fun _ h4 => ?_⟩
  · cbv
    refine E.c (SCalls.of_le (rcheck_ok n rows) ?_ ?_)
    · cbv; all_goals simp
    cbv
    refine br_f (by simp [checkM, h]) ?_
    cbv
    refine hF ?_
    cbv
    simp [LV.l]
  · cbv
    refine hF ?_
    cbv
    simp [LV.l]
theorem rpairs_yes (n : Nat) (rows : List (BitVec 64)) (hf : Fits n rows) : Pure Tryd.prog γ false 37 [encRel n rows] (.vs 2 fun _ => ps (pairsM rows)) := by
  obtain ⟨la, e1, hla, hl64⟩ := fits_len hf
  obtain rfl : n = la := by omega
  refine Pure.go (ty := ty) ty_eq mo Tryd.func37 rfl Tryd.ntmps37 Tryd.results37 Tryd.call37 (by simp) fun P C CQ D W F E hF => ?_
  cbv
  refine E.w (AWP.ghostSlot 3 2 rfl (by omega) (E.loopA (ι := Nat × Nat) (fun m => m.1 ≤ n) (fun m => n - m.1) (fun m => [(3, .sl 1 m.2 2 (fun _ => 0) fun _ => (prows rows m.1).length), (4, .i fun _ => (m.1 : Int))])
    (fun m => [.box (encRel n rows), .run m.2 2 fun _ => ps (prows rows m.1)])
    (0, 0) rfl (fun _ => rfl) (Nat.zero_le _) ?_ fun m hm I hI => ?_))
  · cbv
    simp [prows]
  obtain ⟨m, g⟩ := m
  simp only at hm
  cbv
  refine ⟨fun _ h4 => ?_, fun _ h4 => ?_⟩
  · cbv
    have hmm : m < n := by simp at h4; omega
    refine E.c (SCalls.of_le (rcheck_ok n rows) ?_ ?_)
    · cbv; all_goals simp
    cbv
    refine br_t (by simp [checkM, hf]) ?_
    cbv
    have hps := prows_succ rows m
    have hpl := prows_len rows m
    have hrow : ∀ j, (rows.getD m 0).getLsbD j = true → j < n := fun j hj => by have := (fits_bits hf (i := m) hj).2; omega
    have h64 : prow m (rows.getD m 0) 64 = prow m (rows.getD m 0) n := by
      have := prow_full m (rows.getD m 0) n hrow (64 - n)
      rwa [show n + (64 - n) = 64 by omega] at this
    generalize hrg : rows.getD m 0 = row at hps hrow h64
    refine E.loop (ι := Nat × Nat) (fun q => q.1 ≤ n) (fun q => n - q.1) (fun q => [(3, .sl 1 q.2 2 (fun _ => 0) fun _ => (prows rows m ++ prow m row q.1).length), (5, .i fun _ => (q.1 : Int))])
      (fun q => [.box (encRel n rows), .run q.2 2 fun _ => ps (prows rows m ++ prow m row q.1)]) (0, g) rfl (fun _ => rfl) (Nat.zero_le _) ?_ fun q hq I2 hI2 => ?_
    · cbv
      simp [prow]
    obtain ⟨q, g2⟩ := q
    simp only at hq
    cbv
    refine ⟨fun _ h5 => ?_, fun _ h5 => ?_⟩
    · cbv
      have hqq : q < n := by simp at h5; omega
      have hsh : (BitVec.ofInt 64 (q : Int)).toNat = q := by simp; omega
      have hbit := cnt_full_bits row q
      have hpr := prow_succ m row q
      have hprl := prow_len m row q
      refine ⟨fun _ => by simp; omega, fun _ => by rw [nct, us_get _ m (by omega)]; rfl, fun _ => by simp, ?_⟩
      simp only [nct, us_get _ m (show m < rows.length by omega), at_u, nc, hsh, hrg]
      refine ⟨fun _ h6 => ?_, fun _ h6 => ?_⟩
      · cbv
        have hb := hbit.1 (by simpa using h6)
        rw [if_pos hb] at hpr
        refine ⟨fun _ => ⟨rfl, rfl, by simp, by simp; omega, by simp; omega, by simp [AV.flat, AV.cells, AV.one]⟩, ?_⟩
        refine hI2 (q + 1, g2 + 1) (by simp; omega) (by simp; omega) ?_
        cbv
        clear hI hI2
        simp [hpr, ps, Nat.add_assoc]
        exact w64_of (by omega) (by omega)
      · cbv
        rw [if_neg (fun hb => absurd (hbit.2 hb) (by simpa using h6))] at hpr
        refine hI2 (q + 1, g2) (by simp; omega) (by simp; omega) ?_
        cbv
        clear hI hI2
        simp [hpr]
        exact w64_of (by omega) (by omega)
    · cbv
      have hqn : q = n := by simp at h5; omega
      refine hI (m + 1, g2) (by simp; omega) (by simp; omega) ?_
      cbv
      clear hI hI2
      simp [hps, h64, hqn]
      exact w64_of (by omega) (by omega)
  · cbv
    refine hF ?_
    cbv
    clear hI
    have hml : m = n := by simp at h4; omega
    subst hml
    simp [pairsM, hla]
    rw [List.take_of_length_le (by simp)]

/-! ### Then -/
theorem reachTo_all (rows : List (BitVec 64)) (f : BitVec 64) (q : Nat) (hq : rows.length ≤ q) : reachTo q rows f = reachM rows f := by
  apply BitVec.eq_of_getLsbD_eq
  intro j hj
  rw [Bool.eq_iff_iff, bit_reachTo, bit_reach]
  constructor
  · rintro ⟨p, _, h⟩; exact ⟨p, h⟩
  · rintro ⟨p, h1, h2⟩
    refine ⟨p, ?_, h1, h2⟩
    rcases Nat.lt_or_ge p rows.length with h | h
    · omega
    · rw [bit_out h] at h2; cases h2
theorem rthen_no (l : List RelV) (hl : l.length < 4611686018427387904) (h : ¬ Alike l) : Pure Tryd.prog γ false 42 [.vs 2 fun _ => rls l] (encRel 0 []) := by
  refine Pure.go (ty := ty) ty_eq mo Tryd.func42 rfl Tryd.ntmps42 Tryd.results42 Tryd.call42 (by simp) fun P C CQ D W F E hF => ?_
  cbv
  refine E.c (SCalls.of_le (ralike_ok l hl) ?_ ?_)
  · cbv; all_goals simp
  cbv
  refine br_t (by simp [h]) ?_
  cbv
  refine hF ?_
  cbv
  simp [us]
theorem or_one (n : Nat) (rows : List (BitVec 64)) (hl : rows.length = n) : orM n [((n : Int), rows)] = rows := by
  unfold orM
  subst hl
  conv => rhs; rw [← tab_self rows]
  exact tab_congr fun i _ => by simp [orV]
theorem alike1 (n : Int) (a : List (BitVec 64)) (ha : Fits n a) : Alike [(n, a)] := by
  refine ⟨by simp, fun i hi => ?_⟩
  have : i = 0 := by simp at hi; omega
  subst this; simp [ha]
theorem rthen_yes (l : List RelV) (hl : l.length < 4611686018427387904) (h : Alike l) (n : Nat) (hn : (l.getD 0 (0, [])).1 = n) : Pure Tryd.prog γ false 42 [.vs 2 fun _ => rls l] (encRel n (thenM n l)) := by
  have hl0 := h.1
  obtain ⟨h64, hall⟩ := alike_all h hn
  have h0 := (h.2 0 h.1).1
  have hz := hall 0 hl0
  have hto : tab n (thenV l 0) = (l.getD 0 (0, [])).2 := by
    have := tab_self (l.getD 0 (0, [])).2
    rw [hz] at this; exact this
  refine Pure.go (ty := ty) ty_eq mo Tryd.func42 rfl Tryd.ntmps42 Tryd.results42 Tryd.call42 (by simp) fun P C CQ D W F E hF => ?_
  cbv
  refine E.c (SCalls.of_le (ralike_ok l hl) ?_ ?_)
  · cbv; all_goals simp
  cbv
  refine br_f (by simp [h]) ?_
  cbv
  refine ⟨fun _ => by simp; omega, fun _ => by rw [show (0 : Int).toNat = 0 from rfl, rls_get _ 0 hl0]; rfl, ?_⟩
  cbv
  simp only [show (0 : Int).toNat = 0 from rfl, rls_get _ 0 hl0, at_r0, at_r1, hn]
  rw [hn] at h0
  refine E.c (SCalls.of_le (ror_yes [((n : Int), (l.getD 0 (0, [])).2)] (by simp) (alike1 _ _ h0) n rfl) ?_ ?_)
  · cbv; all_goals simp [rls, ps, us, is, LV.of]
  cbv
  rw [or_one n _ hz, ← hto]
  refine E.loop (ι := Nat) (fun k => k + 1 ≤ l.length) (fun k => l.length - k) (fun k => [(4, .i fun _ => ((k + 1 : Nat) : Int))])
    (fun k => [.box (.agg [.lit 0, .nils]), .box (encRel n (tab n (thenV l k)))]) 0 rfl (fun _ => rfl) hl0 ?_ fun k hk I hI => ?_
  · cbv
    simp
  cbv
  refine ⟨fun _ h4 => ?_, fun _ h4 => ?_⟩
  · cbv
    have hkk : k + 1 < l.length := by simp at h4; omega
    have hsu := thenV_succ l k hkk
    have hrl := hall (k + 1) hkk
    refine E.c (SCalls.of_owns (rnone_in (n : Int) (by omega) (by omega)) ?_ ?_)
    · cbv; all_goals simp
    cbv
    simp only [Int.toNat_natCast, nc]
    refine E.loop (ι := Nat) (fun i => i ≤ n) (fun i => n - i) (fun i => [(6, .i fun _ => (i : Int))])
      (fun i => [.box (.agg [.lit 0, .nils]), .box (encRel n (tab n (thenV l k))), .any, .run 0 1 fun _ => us (tab n fun p => if p < i then thenV l (k + 1) p else 0#64), .box (.agg [.i fun _ => (n : Int), .sl 3 0 1 (fun _ => 0) fun _ => n])])
      0 rfl (fun _ => rfl) (Nat.zero_le _) ?_ fun i hi I2 hI2 => ?_
    · cbv
      simp [← tab_zero]
    cbv
    refine ⟨fun _ h5 => ?_, fun _ h5 => ?_⟩
    · cbv
      have hii : i < n := by simp at h5; omega
      refine E.loop (ι := Nat) (fun j => j ≤ n) (fun j => n - j) (fun j => [(7, .i fun _ => (j : Int))])
        (fun j => [.box (.agg [.lit 0, .nils]), .box (encRel n (tab n (thenV l k))), .any, .run 0 1 fun _ => us (tab n fun p => if p < i then thenV l (k + 1) p else if p = i then reachTo j (l.getD (k + 1) (0, [])).2 (thenV l k i) else 0#64), .box (.agg [.i fun _ => (n : Int), .sl 3 0 1 (fun _ => 0) fun _ => n])])
        0 rfl (fun _ => rfl) (Nat.zero_le _) ?_ fun j hj I3 hI3 => ?_
      · cbv
        simp
        refine congrArg us (tab_congr fun p _ => ?_)
        by_cases hpi : p < i
        · simp [hpi]
        · by_cases e : p = i <;> simp [hpi, e, reachTo]
      cbv
      refine ⟨fun _ h6 => ?_, fun _ h6 => ?_⟩
      · cbv
        have hjj : j < n := by simp at h6; omega
        have hsh : (BitVec.ofInt 64 (j : Int)).toNat = j := by simp; omega
        have hbit := cnt_full_bits (thenV l k i) j
        have hrs := reachTo_succ j (l.getD (k + 1) (0, [])).2 (thenV l k i)
        refine ⟨fun _ => by simp; omega, fun _ => by rw [nct, us_get _ i (by simpa using hii)]; rfl, fun _ => by simp, ?_⟩
        simp only [nct, us_get _ i (show i < (tab n _).length by simpa using hii), at_u, nc, hsh, tab_get n _ i hii]
        refine ⟨fun _ h7 => ?_, fun _ h7 => ?_⟩
        · cbv
          rw [if_pos (hbit.1 (by simpa using h7))] at hrs
          refine E.d 17 (by kernel_rfl) ?_
          cbv
          have hk1 : ((NatCast.natCast (k + 1) : Int)).toNat = k + 1 := rfl
          simp only [nct, hk1, rls_get _ (k + 1) hkk, at_r1]
          refine ⟨fun _ => by simp; omega, fun _ => ⟨by first | rfl | trivial, by simp; omega⟩, fun _ => by rw [Nat.zero_add, us_get _ i (by simpa using hii)]; rfl, fun _ => by simp; omega, fun _ => rfl, fun _ => by simp only [us_len, nc]; omega, fun _ => by rw [us_get _ j (by omega)]; rfl, fun _ => by simp; omega,
            fun _ => ⟨by first | rfl | trivial, by simp; omega, by rw [Nat.zero_add, us_get _ i (by simpa using hii)]; rfl⟩, ?_⟩
          refine hI3 (j + 1) (by omega) (by omega) ?_
          cbv
          clear hI hI2 hI3
          simp only [Nat.zero_add, nct, us_get _ i (show i < (tab n _).length by simpa using hii), us_get (l.getD (k + 1) (0, [])).2 j (by omega), at_u, upd_u, us_set, us_of, nc, tab_get n _ i hii]
          simp only [implies_true, and_true, true_and, forall_const]
          refine ⟨w64_of (by omega) (by omega), congrArg us (tab_set i _ hii (by simp only [Nat.lt_irrefl, if_false, if_true]; exact hrs) fun p _ hp => ?_)⟩
          by_cases h : p < i <;> simp [h, hp]
        · cbv
          rw [if_neg (fun hb => absurd (hbit.2 hb) (by simpa using h7))] at hrs
          refine hI3 (j + 1) (by omega) (by omega) ?_
          cbv
          clear hI hI2 hI3
          simp only [hrs]
          simp
          exact w64_of (by omega) (by omega)
      · cbv
        have hjn : j = n := by simp at h6; omega
        have hra := reachTo_all (l.getD (k + 1) (0, [])).2 (thenV l k i) n (by omega)
        refine hI2 (i + 1) (by omega) (by omega) ?_
        cbv
        clear hI hI2 hI3
        subst hjn
        simp
        refine ⟨w64_of (by omega) (by omega), congrArg us (tab_congr fun p _ => ?_)⟩
        by_cases hpi : p < i
        · simp [hpi, show p < i + 1 by omega]
        · by_cases e : p = i
          · subst e; simp; rw [hsu p, ← List.getD_eq_getElem?_getD, hra]
          · rw [if_neg hpi, if_neg e, if_neg (by omega)]
    · cbv
      have hin : i = n := by simp at h5; omega
      refine hI (k + 1) (by omega) (by omega) ?_
      cbv
      clear hI hI2
      subst hin
      simp
      exact ⟨w64_of (by omega) (by omega), by rw [List.take_of_length_le (by simp)]; exact congrArg (fun x => (us x).l) (tab_congr fun p hp => by simp [hp])⟩
  · cbv
    refine hF ?_
    cbv
    clear hI
    have hml : k = l.length - 1 := by simp at h4; omega
    subst hml
    simp [thenM]
end Go.AL.Rl

namespace Go.AL.Rl
open Go Go.AL Go.Proofs
variable {γ : Nat → Option AV}
set_option maxRecDepth 100000

/-! ### Plus -/
def cntR (rows : List (BitVec 64)) : Nat := (rows.map cnt).sum
theorem cnt_mono {a b : BitVec 64} (h : ∀ p, a.getLsbD p = true → b.getLsbD p = true) : cnt a ≤ cnt b ∧ (a ≠ b → cnt a < cnt b) := by
  have hle : ∀ l : List Nat, l.countP (fun p => a.getLsbD p) ≤ l.countP fun p => b.getLsbD p := fun l => by
    induction l with
    | nil => simp
    | cons x l ih =>
      have := h x
      simp only [List.countP_cons]
      cases ha : a.getLsbD x <;> cases hb : b.getLsbD x <;> simp_all <;> omega
  refine ⟨hle _, fun hne => ?_⟩
  have : ∃ p, b.getLsbD p = true ∧ a.getLsbD p = false := by
    apply Classical.byContradiction
    intro hno
    apply hne
    apply BitVec.eq_of_getLsbD_eq
    intro i _
    cases ha : a.getLsbD i with
    | true => exact (h i ha).symm
    | false =>
      cases hb : b.getLsbD i with
      | false => rfl
      | true => exact absurd ⟨i, hb, ha⟩ hno
  obtain ⟨p, h1, h2⟩ := this
  have hp : p < 64 := by
    rcases Nat.lt_or_ge p 64 with h' | h'
    · exact h'
    · rw [BitVec.getLsbD_of_ge _ _ h'] at h1; cases h1
  exact countP_lt _ _ _ (fun x _ hx => h x hx) ⟨p, by simpa using hp, h1, h2⟩
theorem cntR_le : ∀ (rows : List (BitVec 64)), cntR rows ≤ 64 * rows.length
  | [] => by simp [cntR]
  | r :: rows => by
    have := cntR_le rows
    have := cnt_le r
    simp only [cntR, List.map_cons, List.sum_cons, List.length_cons] at *
    omega
theorem cntR_mono : ∀ {a b : List (BitVec 64)}, a.length = b.length → (∀ i j, bit a i j = true → bit b i j = true) → cntR a ≤ cntR b ∧ (a ≠ b → cntR a < cntR b)
  | [], [], _, _ => ⟨Nat.le_refl _, fun h => absurd rfl h⟩
  | x :: a, y :: b, hl, h => by
    obtain ⟨h1, h2⟩ := cntR_mono (a := a) (b := b) (by simpa using hl) fun i j hij => by
      have := h (i + 1) j
      unfold bit at this hij ⊢
      simpa using this (by simpa using hij)
    obtain ⟨h3, h4⟩ := cnt_mono (a := x) (b := y) fun p hp => by
      have := h 0 p
      unfold bit at this
      simpa using this (by simpa using hp)
    simp only [cntR, List.map_cons, List.sum_cons] at *
    refine ⟨by omega, fun hne => ?_⟩
    by_cases hxy : x = y
    · subst hxy
      have := h2 (fun e => hne (by rw [e]))
      omega
    · have := h4 hxy
      omega

theorem rplus_no (n : Int) (rows : List (BitVec 64)) (h : ¬ Fits n rows) : Pure Tryd.prog γ false 44 [encRel n rows] (encRel 0 []) := by
  refine Pure.go (ty := ty) ty_eq mo Tryd.func44 rfl Tryd.ntmps44 Tryd.results44 Tryd.call44 (by simp) fun P C CQ D W F E hF => ?_
  cbv
  refine E.c (SCalls.of_le (rcheck_ok n rows) ?_ ?_)
  · cbv; all_goals simp
  cbv
  refine br_t (by simp [checkM, h]) ?_
  cbv
  refine hF ?_
  cbv
  simp [us]
theorem ror2 (n : Nat) (a b : List (BitVec 64)) (ha : Fits n a) (hb : Fits n b) : Pure Tryd.prog γ false 38 [.vs 2 fun _ => rls [((n : Int), a), ((n : Int), b)]] (encRel n (orM n [((n : Int), a), ((n : Int), b)])) :=
  ror_yes _ (by simp) ((alike2 _ _ _ _).2 ⟨ha, hb, rfl⟩) n rfl
theorem rthen2 (n : Nat) (a b : List (BitVec 64)) (ha : Fits n a) (hb : Fits n b) : Pure Tryd.prog γ false 42 [.vs 2 fun _ => rls [((n : Int), a), ((n : Int), b)]] (encRel n (thenM n [((n : Int), a), ((n : Int), b)])) :=
  rthen_yes _ (by simp) ((alike2 _ _ _ _).2 ⟨ha, hb, rfl⟩) n rfl
theorem rplus_yes (n : Nat) (rows : List (BitVec 64)) (hf : Fits n rows) : Pure Tryd.prog γ false 44 [encRel n rows] (encRel n (plusM n rows)) := by
  obtain ⟨la, e1, hla, hl64⟩ := fits_len hf
  obtain rfl : n = la := by omega
  have hp := fits_plus hf
  have hpt := fun i k j => plus_trans hf (i := i) (k := k) (j := j)
  have hpe := fun i j => plus_edge (n := (n : Int)) (rows := rows) (i := i) (j := j)
  have hpl := fun (T : Nat → Nat → Prop) h1 h2 i j => plus_least (n := (n : Int)) (rows := rows) T h1 h2 (i := i) (j := j)
  generalize plusM (n : Int) rows = p at hp hpt hpe hpl
  refine Pure.go (ty := ty) ty_eq mo Tryd.func44 rfl Tryd.ntmps44 Tryd.results44 Tryd.call44 (by simp) fun P C CQ D W F E hF => ?_
  cbv
  refine E.c (SCalls.of_le (rcheck_ok n rows) ?_ ?_)
  · cbv; all_goals simp
  cbv
  refine br_f (by simp [checkM, hf]) ?_
  cbv
  refine E.c (SCalls.of_le (ror_yes [((n : Int), rows)] (by simp) (alike1 _ _ hf) n rfl) ?_ ?_)
  · cbv; all_goals simp [rls, ps, us, is, LV.of]
  cbv
  rw [or_one n rows hla]
  refine E.loop (ι := List (BitVec 64)) (fun out => Fits n out ∧ (∀ i j, bit rows i j = true → bit out i j = true) ∧ ∀ i j, bit out i j = true → bit p i j = true) (fun out => 64 * n - cntR out) (fun _ => [])
    (fun out => [.box (encRel n rows), .box (.agg [.lit 0, .nils]), .box (encRel n out)]) rows rfl (fun _ => rfl) ⟨hf, fun _ _ h => h, hpe⟩ ?_ fun out hout I hI => ?_
  · cbv
    simp
  obtain ⟨ho1, ho2, ho3⟩ := hout
  have hoo := fits_then2 ho1 ho1
  have hnx := fits_or2 ho1 hoo
  have hnb := bit_or2 ho1 hoo
  obtain ⟨lo, e2, hlo, _⟩ := fits_len ho1
  cbv
  refine E.da 8 24 (by kernel_rfl) (by kernel_rfl) rfl rfl rfl ?_
  cbv
  refine E.q (QCalls.of_le (rthen2 n out out ho1 ho1) ?_ ?_)
  · cbv; all_goals simp [rls, ps, us, is, LV.of]
  cbv
  refine E.q (QCalls.of_le (ror2 n out (thenM n [((n : Int), out), ((n : Int), out)]) ho1 hoo) ?_ ?_)
  · cbv; all_goals simp [rls, ps, us, is, LV.of]
  cbv
  generalize hnext : orM n [((n : Int), out), ((n : Int), thenM n [((n : Int), out), ((n : Int), out)])] = next at hnx hnb
  obtain ⟨ln, e3, hln, _⟩ := fits_len hnx
  have hoL : out.length = n := by simp only [nc] at e2; omega
  have hnL : next.length = n := by simp only [nc] at e3; omega
  refine E.c (SCalls.of_le (rsame_ok n n next out (by omega)) ?_ ?_)
  · cbv; all_goals simp
  cbv
  refine ⟨fun _ h4 => ?_, fun _ h4 => ?_⟩
  · cbv
    have heq : next = out := by simp at h4; exact h4.2
    have hop : out = p := fits_ext ho1 hp fun i j => ⟨ho3 i j, fun h => by
      refine hpl (fun i j => bit out i j = true) ho2 (fun i k j h1 h2 => ?_) i j h
      rw [← heq, hnb]
      exact .inr ((bit_then2 ho1 i j).2 ⟨k, h1, h2⟩)⟩
    refine hF ?_
    cbv
    clear hI
    subst hop
    simp
  · cbv
    have hne : out ≠ next := fun e => by
      rw [← e] at h4
      simp [ho1] at h4
    have hm := (cntR_mono (a := out) (b := next) (by omega) fun i j h => (hnb i j).2 (.inl h)).2 hne
    have hle := cntR_le next
    rw [hnL] at hle
    refine hI next ⟨hnx, fun i j h => (hnb i j).2 (.inl (ho2 i j h)), fun i j h => ?_⟩ (by omega) ?_
    · rcases (hnb i j).1 h with h | h
      · exact ho3 i j h
      · obtain ⟨k, h1, h2⟩ := (bit_then2 ho1 i j).1 h
        exact hpt i k j (ho3 _ _ h1) (ho3 _ _ h2)
    · cbv
      clear hI
      simp

/-! ### Acyclic -/
theorem racyclic_ok (n : Int) (rows : List (BitVec 64)) : Pure Tryd.prog γ false 33 [encRel n rows] (.b fun _ => acyM n rows) := by
  by_cases hf : Fits n rows
  case neg =>
    have ha : acyM n rows = false := by simp [acyM, hf]
    rw [ha]
    refine Pure.go (ty := ty) ty_eq mo Tryd.func33 rfl Tryd.ntmps33 Tryd.results33 Tryd.call33 (by simp) fun P C CQ D W F E hF => ?_
    cbv
    refine E.c (SCalls.of_le (rplus_no n rows hf) ?_ ?_)
    · cbv; all_goals simp
    cbv
    refine E.loop (ι := Unit) (fun _ => True) (fun _ => 0) (fun _ => [(4, .i fun _ => 0)]) (fun _ => [.box (encRel n rows), .box (encRel 0 [])]) () rfl (fun _ => rfl) trivial ?_ fun m hm I hI => ?_
    · cbv
      simp
    cbv
    refine br_f (by simp) ?_
    cbv
    refine E.c (SCalls.of_le (rcheck_ok n rows) ?_ ?_)
    · cbv; all_goals simp
    cbv
    refine hF ?_
    cbv
    simp [checkM, hf]
  obtain ⟨la, rfl, hla, hl64⟩ := fits_len hf
  have hp := fits_plus hf
  have hacy := acy_iff (n := (la : Int)) (rows := rows)
  have hpy := rplus_yes (γ := γ) la rows hf
  obtain ⟨lp, e2, hlp, _⟩ := fits_len hp
  have hlp' : (plusM (la : Int) rows).length = la := by omega
  clear hlp e2
  generalize plusM (la : Int) rows = p at hp hacy hpy hlp'
  refine Pure.go (ty := ty) ty_eq mo Tryd.func33 rfl Tryd.ntmps33 Tryd.results33 Tryd.call33 (by simp) fun P C CQ D W F E hF => ?_
  cbv
  refine E.c (SCalls.of_le (hpy) ?_ ?_)
  · cbv; all_goals simp
  cbv
  refine E.loop (ι := Nat) (fun i => i ≤ la ∧ ∀ k < i, bit p k k = false) (fun i => la - i) (fun i => [(4, .i fun _ => (i : Int))]) (fun _ => [.box (encRel la rows), .box (encRel la p)]) 0 rfl (fun _ => rfl) ⟨Nat.zero_le _, by simp⟩ ?_ fun i hi I hI => ?_
  · cbv
    simp
  cbv
  refine ⟨fun _ h4 => ?_, fun _ h4 => ?_⟩
  · cbv
    have hii : i < la := by simp at h4; omega
    have hsh : (BitVec.ofInt 64 (i : Int)).toNat = i := by simp; omega
    have hbit := cnt_full_bits (p.getD i 0) i
    refine ⟨fun _ => by simp; omega, fun _ => by rw [nct, us_get _ i (by omega)]; rfl, fun _ => by simp, ?_⟩
    simp only [nct, us_get _ i (show i < p.length by omega), at_u, nc, hsh]
    refine ⟨fun _ h5 => ?_, fun _ h5 => ?_⟩
    · cbv
      refine hF ?_
      cbv
      clear hI
      intro _
      have hb : bit p i i = true := hbit.1 (by simpa using h5)
      cases ha : acyM la rows with
      | false => rfl
      | true => rw [(hacy.1 ha).2 i] at hb; cases hb
    · cbv
      refine hI (i + 1) ⟨by omega, fun k hk => ?_⟩ (by omega) ?_
      · by_cases e : k = i
        · subst e
          cases hb : bit p k k with
          | false => rfl
          | true => exact absurd (hbit.2 hb) (by simpa using h5)
        · exact hi.2 k (by omega)
      · cbv
        clear hI
        simp
        exact w64_of (by omega) (by omega)
  · cbv
    clear hI
    have : i = la := by simp at h4; omega
    subst this
    have ha : acyM i rows = true := hacy.2 ⟨hf, fun k => by
      rcases Nat.lt_or_ge k i with h | h
      · exact hi.2 k h
      · exact bit_out (by omega) k⟩
    refine E.c (SCalls.of_le (rcheck_ok i rows) ?_ ?_)
    · cbv; all_goals simp
    cbv
    refine hF ?_
    cbv
    simp [checkM, hf, ha]

/-! ### Sort -/
theorem cnt_full (n : Nat) (h : n ≤ 64) : cnt (fullM n) = n := by
  have key : ∀ m, (List.range m).countP (fun p => decide (p < n)) = min m n := fun m => by
    induction m with
    | zero => simp
    | succ m ih =>
      rw [List.range_succ, List.countP_append, ih]
      simp only [List.countP_cons, List.countP_nil]
      by_cases h : m < n <;> simp [h] <;> omega
  have : cnt (fullM n) = (List.range 64).countP fun p => decide (p < n) := by
    unfold cnt
    refine List.countP_congr fun p hp => ?_
    rw [fullM_bit n h p (by simpa using hp)]
  rw [this, key]; omega
theorem cnt_zero (x : BitVec 64) (h : cnt x = 0) : x = 0#64 := by
  apply BitVec.eq_of_getLsbD_eq
  intro i hi
  rw [BitVec.getLsbD_zero]
  unfold cnt at h
  rw [List.countP_eq_zero] at h
  have := h i (by simpa using hi)
  simpa using this
theorem mod2 (y : BitVec 64) : y % 2#64 = 0#64 ∨ y % 2#64 = 1#64 := by
  have h : y.toNat % 2 = 0 ∨ y.toNat % 2 = 1 := by omega
  rcases h with h | h
  · left; apply BitVec.eq_of_toNat_eq; simp [BitVec.toNat_umod, h]
  · right; apply BitVec.eq_of_toNat_eq; simp [BitVec.toNat_umod, h]
theorem rsort_no (n : Int) (rows : List (BitVec 64)) (hc : acyM n rows = false) : Pure Tryd.prog γ false 31 [encRel n rows] (.tup [.vs 1 fun _ => is [], .b fun _ => false]) := by
  refine Pure.go (ty := ty) ty_eq mo Tryd.func31 rfl Tryd.ntmps31 Tryd.results31 Tryd.call31 (by simp) fun P C CQ D W F E hF => ?_
  cbv
  refine E.c (SCalls.of_le (racyclic_ok n rows) ?_ ?_)
  · cbv; all_goals simp
  cbv
  refine br_t (by simp [hc]) ?_
  cbv
  refine hF ?_
  cbv
  simp [is]
theorem rsort_yes (n : Nat) (rows : List (BitVec 64)) (hc : acyM n rows = true) (res : List Int) (hs : Sorts (turnM rows) rows.length (fullM n) [] res) :
    Pure Tryd.prog γ false 31 [encRel n rows] (.tup [.vs 1 fun _ => is res, .b fun _ => true]) := by
  have hf := (acy_iff.1 hc).1
  obtain ⟨la, e1, hla, hl64⟩ := fits_len hf
  obtain rfl : n = la := by omega
  have ht := fits_turn hf
  have htu := rturn_yes (γ := γ) n rows hf
  have hcf := cnt_full n hl64
  have htl : (turnM rows).length = n := by rw [turnM, tOut_len, hla]
  rw [hla] at hs
  generalize turnM rows = ah at hs ht htu htl
  have hfb := fullM_bit n hl64
  obtain ⟨fm, hfm⟩ : ∃ F, F = fullM (n : Int) := ⟨_, rfl⟩
  rw [← hfm] at hs hcf hfb
  clear hfm
  refine Pure.go (ty := ty) ty_eq mo Tryd.func31 rfl Tryd.ntmps31 Tryd.results31 Tryd.call31 (by simp) fun P C CQ D W F E hF => ?_
  cbv
  refine E.c (SCalls.of_le (racyclic_ok n rows) ?_ ?_)
  · cbv; all_goals simp
  cbv
  refine br_f (by simp [hc]) ?_
  cbv
  refine E.c (SCalls.of_le (htu) ?_ ?_)
  · cbv; all_goals simp
  cbv
  refine E.w (AWP.ghostSlot 5 1 rfl (by omega) (E.loopA (ι := BitVec 64 × List Int × Nat) (fun m => Sorts ah n (fm &&& ~~~ m.1) m.2.1 res ∧ m.2.1.length + cnt (fm &&& ~~~ m.1) = n) (fun m => cnt (fm &&& ~~~ m.1))
    (fun m => [(5, .sl 2 m.2.2 1 (fun _ => 0) fun _ => m.2.1.length), (6, .u fun _ => m.1)])
    (fun m => [.box (encRel n rows), .box (encRel n ah), .run m.2.2 1 fun _ => is m.2.1]) (0#64, [], 0) rfl (fun _ => rfl) (by rw [BitVec.not_zero, BitVec.and_allOnes]; exact ⟨hs, by simpa using hcf⟩) ?_ fun m hm I hI => ?_))
  · cbv
    simp [is]
    rfl
  obtain ⟨done, acc, g⟩ := m
  simp only at hm
  obtain ⟨hj1, hj2⟩ := hm
  cbv
  refine ⟨fun _ h4 => ?_, fun _ h4 => ?_⟩
  · cbv
    have h0 : fm &&& ~~~ done ≠ 0#64 := fun h => by rw [h] at hj2; simp [cnt] at hj2; simp at h4; omega
    obtain ⟨m, hm1, hm2, hm3, hm4⟩ := hj1.inv h0
    have hcc := cnt_clear (fm &&& ~~~ done) m (by omega) hm2.1
    have hlf : ∀ i, i < n → ((fm &&& ~~~ done).getLsbD i = true ↔ done.getLsbD i = false) := fun i hi => by
      rw [BitVec.getLsbD_and, BitVec.getLsbD_not, hfb i (by omega)]
      simp [hi, show i < 64 by omega]
    have hal : ∀ i, i < n → (ah.getD i 0 &&& (fm &&& ~~~ done) = 0#64 ↔ ah.getD i 0 &&& ~~~ done = 0#64) := fun i hi => by
      have : ah.getD i 0 &&& fm = ah.getD i 0 := by
        apply BitVec.eq_of_getLsbD_eq
        intro p hp
        rw [BitVec.getLsbD_and, hfb p hp]
        cases hb : (ah.getD i 0).getLsbD p with
        | false => rfl
        | true =>
          have := (fits_bits ht (i := i) hb).2
          simp; omega
      rw [← BitVec.and_assoc, this]
    have hnd : fm &&& ~~~ (done ||| 1#64 <<< m) = (fm &&& ~~~ done) &&& ~~~ (1#64 <<< m) := by
      rw [BitVec.not_or, BitVec.and_assoc]
    rw [← hnd] at hcc hm4
    refine E.loop (ι := Nat) (fun i => i ≤ m) (fun i => m - i) (fun i => [(5, .sl 2 g 1 (fun _ => 0) fun _ => acc.length), (6, .u fun _ => done), (7, .i fun _ => (i : Int))])
      (fun _ => [.box (encRel n rows), .box (encRel n ah), .run g 1 fun _ => is acc]) 0 rfl (fun _ => rfl) (Nat.zero_le _) ?_ fun i hi I2 hI2 => ?_
    · cbv
      simp
    cbv
    refine br_t (by simp; omega) ?_
    cbv
    have hsh : (BitVec.ofInt 64 (i : Int)).toNat = i := by simp; omega
    have hai : i < ah.length := by omega
    have hbit := cnt_full_bits done i
    have hin : i < n := by omega
    have no : ¬ cand ah (fm &&& ~~~ done) i → i + 1 ≤ m := fun h => by
      rcases Nat.lt_or_ge i m with h' | h'
      · exact h'
      · have : i = m := by omega
        subst this; exact absurd hm2 h
    refine ⟨fun _ => by simp, fun _ h5 => ?_, fun _ h5 => ?_⟩
    · cbv
      refine ⟨fun _ => by simp; omega, fun _ => by rw [nct, us_get _ i hai]; rfl, ?_⟩
      simp only [nct, us_get _ i hai, at_u, nc, hsh] at h5 ⊢
      have h5' : done.getLsbD i = false := by
        cases h : done.getLsbD i with
        | false => rfl
        | true =>
          have := hbit.2 h
          simp at h5 this
          rw [this] at h5; cases h5
      refine ⟨fun _ h6 => ?_, fun _ h6 => ?_⟩
      · cbv
        have hcd : cand ah (fm &&& ~~~ done) i := ⟨(hlf i hin).2 h5', (hal i hin).2 (by simpa using h6)⟩
        have him : i = m := by
          rcases Nat.lt_or_ge i m with h | h
          · exact absurd hcd (hm3 i h)
          · omega
        subst him
        refine ⟨fun _ => ⟨rfl, rfl, by simp, by simp; omega, by simp; omega, by simp [AV.flat, AV.cells, AV.one]⟩, ?_⟩
        have hsh' : i % 18446744073709551616 = i := by omega
        cbv
        clear hI2
        refine hI (done ||| 1#64 <<< i, acc ++ [(i : Int)], g + 1) ⟨hm4, by simp; omega⟩ (by simp; omega) ?_
        cbv
        clear hI
        simp [hsh', is]
      · cbv
        have hi1 : i + 1 ≤ m := no fun hc => by
          have := (hal i hin).1 hc.2
          simp at h6; exact h6 this
        refine hI2 (i + 1) hi1 (by omega) ?_
        cbv
        clear hI hI2
        simp
        exact w64_of (by omega) (by omega)
    · cbv
      have hi1 : i + 1 ≤ m := no fun hc => by
        have := (hlf i hin).1 hc.1
        simp only [nc, hsh] at h5
        rcases mod2 (done >>> i) with h | h
        · simp only [decide_eq_false_iff_not] at h5; exact h5 h
        · rw [hbit.1 h] at this; cases this
      refine hI2 (i + 1) hi1 (by omega) ?_
      cbv
      clear hI hI2
      simp
      exact w64_of (by omega) (by omega)
  · cbv
    refine hF ?_
    cbv
    clear hI
    have hz : fm &&& ~~~ done = 0#64 := cnt_zero _ (by simp at h4; omega)
    rw [hz] at hj1
    have := hj1.fin
    subst this
    simp [is]
    rw [List.take_of_length_le (by simp)]
end Go.AL.Rl

namespace Go.AL.Rl
open Go Go.AL Go.Proofs
variable {γ : Nat → Option AV}
set_option maxRecDepth 100000

theorem both_or (l : List RelV) (hl : l.length < 4611686018427387904) : ∃ (n : Int) (rows : List (BitVec 64)), rows.length < 4611686018427387904 ∧
    Pure Tryd.prog γ false 25 [.vs 2 fun _ => rls l] (encRel n rows) ∧ Pure Tryd.prog γ false 38 [.vs 2 fun _ => rls l] (encRel n rows) := by
  by_cases h : Alike l
  · obtain ⟨k, e, h2, h3⟩ := fits_len (h.2 0 h.1).1
    exact ⟨k, orM k l, by simp [orM]; omega, or_yes l hl h k e, ror_yes l hl h k e⟩
  · exact ⟨0, [], by simp, or_no l hl h, ror_no l hl h⟩
theorem both_then (hγ : γ 0 = some tabAV) (l : List RelV) (hl : l.length < 4611686018427387904) : ∃ (n : Int) (rows : List (BitVec 64)), rows.length < 4611686018427387904 ∧
    Pure Tryd.prog γ false 24 [.vs 2 fun _ => rls l] (encRel n rows) ∧ Pure Tryd.prog γ false 42 [.vs 2 fun _ => rls l] (encRel n rows) := by
  by_cases h : Alike l
  · obtain ⟨k, e, h2, h3⟩ := fits_len (h.2 0 h.1).1
    exact ⟨k, thenM k l, by simp [thenM]; omega, then_yes hγ l hl h k e, rthen_yes l hl h k e⟩
  · exact ⟨0, [], by simp, then_no l hl h, rthen_no l hl h⟩
theorem both_and (n m : Int) (a b : List (BitVec 64)) : ∃ (k : Int) (rows : List (BitVec 64)), rows.length < 4611686018427387904 ∧
    Pure Tryd.prog γ false 29 [encRel n a, encRel m b] (encRel k rows) ∧ Pure Tryd.prog γ false 39 [encRel n a, encRel m b] (encRel k rows) := by
  by_cases h : Fits n a ∧ Fits m b ∧ m = n
  · obtain ⟨k, rfl, h2, h3⟩ := fits_len h.1
    obtain ⟨h1, h4, rfl⟩ := h
    exact ⟨k, andM k a b, by simp [andM]; omega, and_yes k a b h1 h4, rand_yes k a b h1 h4⟩
  · exact ⟨0, [], by simp, and_no n m a b h, rand_no n m a b h⟩
theorem both_less (n m : Int) (a b : List (BitVec 64)) : ∃ (k : Int) (rows : List (BitVec 64)), rows.length < 4611686018427387904 ∧
    Pure Tryd.prog γ false 40 [encRel n a, encRel m b] (encRel k rows) ∧ Pure Tryd.prog γ false 41 [encRel n a, encRel m b] (encRel k rows) := by
  by_cases h : Fits n a ∧ Fits m b ∧ m = n
  · obtain ⟨k, rfl, h2, h3⟩ := fits_len h.1
    obtain ⟨h1, h4, rfl⟩ := h
    exact ⟨k, lessM k a b, by simp [lessM]; omega, less_yes k a b h1 h4, rless_yes k a b h1 h4⟩
  · exact ⟨0, [], by simp, less_no n m a b h, rless_no n m a b h⟩
theorem both_turn (hγ : γ 0 = some tabAV) (n : Int) (a : List (BitVec 64)) : ∃ (k : Int) (rows : List (BitVec 64)), rows.length < 4611686018427387904 ∧
    Pure Tryd.prog γ false 27 [encRel n a] (encRel k rows) ∧ Pure Tryd.prog γ false 43 [encRel n a] (encRel k rows) := by
  by_cases h : Fits n a
  · obtain ⟨k, rfl, h2, h3⟩ := fits_len h
    exact ⟨k, turnM a, by rw [turnM, tOut_len]; omega, turn_ok hγ k a h, rturn_yes k a h⟩
  · exact ⟨0, [], by simp, turn_no n a h, rturn_no n a h⟩
theorem both_plus (n : Int) (a : List (BitVec 64)) : ∃ (k : Int) (rows : List (BitVec 64)), rows.length < 4611686018427387904 ∧
    Pure Tryd.prog γ false 12 [encRel n a] (encRel k rows) ∧ Pure Tryd.prog γ false 44 [encRel n a] (encRel k rows) := by
  by_cases h : Fits n a
  · obtain ⟨k, rfl, h2, h3⟩ := fits_len h
    exact ⟨k, plusM k a, by rw [plusM_len]; omega, plus_ok k a h, rplus_yes k a h⟩
  · exact ⟨0, [], by simp, plus_no n a h, rplus_no n a h⟩
theorem both_only (hγ : γ 0 = some tabAV) (n : Int) (a : List (BitVec 64)) (f t : BitVec 64) : ∃ (k : Int) (rows : List (BitVec 64)), rows.length < 4611686018427387904 ∧
    Pure Tryd.prog γ false 45 [encRel n a, .u fun _ => f, .u fun _ => t] (encRel k rows) ∧ Pure Tryd.prog γ false 46 [encRel n a, .u fun _ => f, .u fun _ => t] (encRel k rows) := by
  by_cases h : Fits n a
  · obtain ⟨k, rfl, h2, h3⟩ := fits_len h
    exact ⟨k, onlyM k a f t, by simp [onlyM]; omega, only_yes hγ k a f t h, ronly_yes k a f t h⟩
  · exact ⟨0, [], by simp, only_no n a f t h, ronly_no n a f t h⟩
theorem both_pairs (hγ : γ 0 = some tabAV) (n : Int) (a : List (BitVec 64)) : ∃ l : List (Int × Int), l.length < 4611686018427387904 ∧
    Pure Tryd.prog γ false 30 [encRel n a] (.vs 2 fun _ => ps l) ∧ Pure Tryd.prog γ false 37 [encRel n a] (.vs 2 fun _ => ps l) := by
  by_cases h : Fits n a
  · obtain ⟨k, rfl, h2, h3⟩ := fits_len h
    exact ⟨pairsM a, by have := prows_len a a.length; unfold pairsM; omega, pairs_yes hγ k a h, rpairs_yes k a h⟩
  · exact ⟨[], by simp, pairs_no n a h, rpairs_no n a h⟩
theorem both_sort (hγ : γ 0 = some tabAV) (n : Int) (a : List (BitVec 64)) : ∃ (l : List Int) (b : Bool), l.length < 4611686018427387904 ∧
    Pure Tryd.prog γ false 28 [encRel n a] (.tup [.vs 1 fun _ => is l, .b fun _ => b]) ∧ Pure Tryd.prog γ false 31 [encRel n a] (.tup [.vs 1 fun _ => is l, .b fun _ => b]) := by
  cases hc : acyM n a with
  | true =>
    have hf := (acy_iff.1 hc).1
    obtain ⟨k, rfl, h2, h3⟩ := fits_len hf
    obtain ⟨tl, ht1, ht2, ht3, ht4, ht5⟩ := sort_ex hc
    exact ⟨_, true, by simp; omega, sort_yes hγ k a hc _ ht1, rsort_yes k a hc _ ht1⟩
  | false => exact ⟨[], false, by simp, sort_no n a hc, rsort_no n a hc⟩

theorem relCalls_ok (hγ : γ 0 = some tabAV) (n m k : Int) (a b c : List (BitVec 64)) (f t : BitVec 64) (hn : n ≤ 9223372036854775807) (hb : b.length ≤ 9223372036854775807) :
    Pure Tryd.prog γ false 8 [encRel n a, encRel m b, encRel k c, .u fun _ => f, .u fun _ => t] (.b fun _ => true) := by
  obtain ⟨sl, sb, s1, s2, s3⟩ := both_sort hγ n a
  obtain ⟨pl, p1, p2, p3⟩ := both_pairs hγ n a
  obtain ⟨o1, o2, o3, o4, o5⟩ := both_or (γ := γ) [(n, a), (m, b), (k, c)] (by simp)
  obtain ⟨a1, a2, a3, a4, a5⟩ := both_and (γ := γ) n m a b
  obtain ⟨l1, l2, l3, l4, l5⟩ := both_less (γ := γ) n m a b
  obtain ⟨t1, t2, t3, t4, t5⟩ := both_then hγ [(n, a), (m, b), (k, c)] (by simp)
  obtain ⟨u1, u2, u3, u4, u5⟩ := both_turn hγ n a
  obtain ⟨v1, v2, v3, v4, v5⟩ := both_plus (γ := γ) n a
  obtain ⟨y1, y2, y3, y4, y5⟩ := both_only hγ n a f t
  obtain ⟨z1, z2, z3, z4, z5⟩ := both_then hγ [(n, a)] (by simp)
  refine Pure.go (ty := ty) ty_eq mo Tryd.func8 rfl Tryd.ntmps8 Tryd.results8 Tryd.call8 (by simp) fun P C CQ D W F E hF => ?_
  cbv
  refine E.c (SCalls.of_le (lives_ok hγ) ?_ ?_)
  · cbv; all_goals simp
  cbv
  refine br_f (rfl) ?_
  cbv
  refine E.c (SCalls.of_le (s2) ?_ ?_)
  · cbv; all_goals simp
  cbv
  refine E.c (SCalls.of_le (s3) ?_ ?_)
  · cbv; all_goals simp
  cbv
  refine E.d 42 (by kernel_rfl) ?_
  cbv
  refine E.q (QCalls.of_le (ints_ok sl sl s1) ?_ ?_)
  · cbv; all_goals simp
  cbv
  refine br_f (by simp) ?_
  cbv
  refine br_f (by simp) ?_
  cbv
  refine E.q (QCalls.of_le (acyclic_ok n a) ?_ ?_)
  · cbv; all_goals simp
  cbv
  refine E.q (QCalls.of_le (racyclic_ok n a) ?_ ?_)
  · cbv; all_goals simp
  cbv
  refine br_f (by simp) ?_
  cbv
  refine E.q (QCalls.of_le (image_ok hγ n a f) ?_ ?_)
  · cbv; all_goals simp
  cbv
  refine E.q (QCalls.of_le (rimage_ok n a f hn) ?_ ?_)
  · cbv; all_goals simp
  cbv
  refine br_f (by simp) ?_
  cbv
  refine E.q (QCalls.of_le (same_ok n m a b) ?_ ?_)
  · cbv; all_goals simp
  cbv
  refine E.q (QCalls.of_le (rsame_ok n m a b hb) ?_ ?_)
  · cbv; all_goals simp
  cbv
  refine br_f (by simp) ?_
  cbv
  refine E.q (QCalls.of_le (p2) ?_ ?_)
  · cbv; all_goals simp
  cbv
  refine E.q (QCalls.of_le (p3) ?_ ?_)
  · cbv; all_goals simp
  cbv
  refine E.q (QCalls.of_le (kitPairs_ok pl pl p1) ?_ ?_)
  · cbv; all_goals simp
  cbv
  refine br_f (by simp) ?_
  cbv
  refine E.d 82 (by kernel_rfl) ?_
  cbv
  refine E.q (QCalls.of_le (o4) ?_ ?_)
  · cbv; all_goals simp [rls, ps, us, is, LV.of]
  cbv
  refine E.q (QCalls.of_le (o5) ?_ ?_)
  · cbv; all_goals simp [rls, ps, us, is, LV.of]
  cbv
  refine E.q (QCalls.of_le (kitRel_ok o1 o1 o2 o2 o3) ?_ ?_)
  · cbv; all_goals simp
  cbv
  refine br_t (by simp) ?_
  cbv
  refine E.q (QCalls.of_le (a4) ?_ ?_)
  · cbv; all_goals simp
  cbv
  refine E.q (QCalls.of_le (a5) ?_ ?_)
  · cbv; all_goals simp
  cbv
  refine E.q (QCalls.of_le (kitRel_ok a1 a1 a2 a2 a3) ?_ ?_)
  · cbv; all_goals simp
  cbv
  refine br_t (by simp) ?_
  cbv
  refine E.q (QCalls.of_le (l4) ?_ ?_)
  · cbv; all_goals simp
  cbv
  refine E.q (QCalls.of_le (l5) ?_ ?_)
  · cbv; all_goals simp
  cbv
  refine E.q (QCalls.of_le (kitRel_ok l1 l1 l2 l2 l3) ?_ ?_)
  · cbv; all_goals simp
  cbv
  refine br_t (by simp) ?_
  cbv
  refine E.q (QCalls.of_le (t4) ?_ ?_)
  · cbv; all_goals simp [rls, ps, us, is, LV.of]
  cbv
  refine E.q (QCalls.of_le (t5) ?_ ?_)
  · cbv; all_goals simp [rls, ps, us, is, LV.of]
  cbv
  refine E.q (QCalls.of_le (kitRel_ok t1 t1 t2 t2 t3) ?_ ?_)
  · cbv; all_goals simp
  cbv
  refine br_t (by simp) ?_
  cbv
  refine E.q (QCalls.of_le (u4) ?_ ?_)
  · cbv; all_goals simp
  cbv
  refine E.q (QCalls.of_le (u5) ?_ ?_)
  · cbv; all_goals simp
  cbv
  refine E.q (QCalls.of_le (kitRel_ok u1 u1 u2 u2 u3) ?_ ?_)
  · cbv; all_goals simp
  cbv
  refine br_t (by simp) ?_
  cbv
  refine E.q (QCalls.of_le (v4) ?_ ?_)
  · cbv; all_goals simp
  cbv
  refine E.q (QCalls.of_le (v5) ?_ ?_)
  · cbv; all_goals simp
  cbv
  refine E.q (QCalls.of_le (kitRel_ok v1 v1 v2 v2 v3) ?_ ?_)
  · cbv; all_goals simp
  cbv
  refine br_t (by simp) ?_
  cbv
  refine E.q (QCalls.of_le (y4) ?_ ?_)
  · cbv; all_goals simp
  cbv
  refine E.q (QCalls.of_le (y5) ?_ ?_)
  · cbv; all_goals simp
  cbv
  refine E.q (QCalls.of_le (kitRel_ok y1 y1 y2 y2 y3) ?_ ?_)
  · cbv; all_goals simp
  cbv
  refine br_t (by simp) ?_
  cbv
  refine E.q (QCalls.of_le (or_no [] (by simp) (by simp [Alike])) ?_ ?_)
  · cbv
    all_goals first | rfl | simp [rls, LV.l]
  cbv
  refine E.q (QCalls.of_le (kitRel_ok 0 0 [] [] (by simp)) ?_ ?_)
  · cbv
    all_goals first | rfl | simp [us, LV.l]
  cbv
  refine br_t (by simp) ?_
  cbv
  refine E.q (QCalls.of_le (z4) ?_ ?_)
  · cbv; all_goals simp [rls, ps, us, is, LV.of]
  cbv
  refine E.q (QCalls.of_le (z5) ?_ ?_)
  · cbv; all_goals simp [rls, ps, us, is, LV.of]
  cbv
  refine E.q (QCalls.of_le (kitRel_ok z1 z1 z2 z2 z3) ?_ ?_)
  · cbv; all_goals simp
  cbv
  refine hF ?_
  cbv
  simp
end Go.AL.Rl
