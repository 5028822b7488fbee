import Derived.Test.YtmhkblagbfaflaaDoorS4
set_option linter.unusedVariables false
set_option linter.unusedSimpArgs false
namespace Go.AL.Rl
open Go Go.AL Go.Proofs
variable {γ : Nat → Option AV}
set_option maxRecDepth 100000

theorem relNames_ok (hγ : γ 0 = some tabAV) : Pure Tryd.prog γ false 5 [] (.b fun _ => true) := by
  refine Pure.go (ty := ty) ty_eq mo Tryd.func5 rfl Tryd.ntmps5 Tryd.results5 Tryd.call5 (by simp) fun P C CQ D W F E hF => ?_
  cbv
  refine E.c (SCalls.of_le (lives_ok hγ) ?_ ?_)
  · cbv; all_goals simp
  cbv
  refine br_t (rfl) ?_
  cbv
  refine E.c (SCalls.of_le (of_in 2 [(0, 1), (1, 0)] (by omega) (by omega) (by simp)) ?_ ?_)
  · cbv
    simp [ps]
  cbv
  refine E.c (SCalls.of_le (acyclic_ok 2 (ofTo 2 [(0, 1), (1, 0)] 2)) ?_ ?_)
  · cbv; all_goals simp
  cbv
  refine br_t (by decide +kernel) ?_
  cbv
  refine E.c (SCalls.of_le (self_in 1 (by omega)) ?_ ?_)
  · cbv; all_goals simp
  cbv
  refine E.c (SCalls.of_le (acyclic_ok 1 (selfM 1)) ?_ ?_)
  · cbv; all_goals simp
  cbv
  refine br_t (by decide +kernel) ?_
  cbv
  refine E.c (SCalls.of_le (none_ok 0 (by omega)) ?_ ?_)
  · cbv; all_goals simp
  cbv
  refine E.c (SCalls.of_le (acyclic_ok 0 (List.replicate 0 0#64)) ?_ ?_)
  · cbv; all_goals simp
  cbv
  refine br_t (by decide +kernel) ?_
  cbv
  refine E.c (SCalls.of_le (of_in 3 [(0, 1)] (by omega) (by omega) (by simp)) ?_ ?_)
  · cbv
    simp [ps]
  cbv
  refine E.c (SCalls.of_le (of_in 3 [(1, 2)] (by omega) (by omega) (by simp)) ?_ ?_)
  · cbv
    simp [ps]
  cbv
  refine E.c (SCalls.of_le (then2 hγ 3 (ofTo 3 [(0, 1)] 1) (ofTo 3 [(1, 2)] 1) (by decide +kernel) (by decide +kernel)) ?_ ?_)
  · cbv
    simp [rls]
  cbv
  refine E.c (SCalls.of_le (of_in 3 [(0, 2)] (by omega) (by omega) (by simp)) ?_ ?_)
  · cbv
    simp [ps]
  cbv
  refine E.c (SCalls.of_le (kitRel_ok 3 3 (thenM 3 [((3 : Int), ofTo 3 [(0, 1)] 1), ((3 : Int), ofTo 3 [(1, 2)] 1)]) (ofTo 3 [(0, 2)] 1) (by simp [thenM])) ?_ ?_)
  · cbv; all_goals simp
  cbv
  refine br_t (by decide +kernel) ?_
  cbv
  refine E.c (SCalls.of_le (check_ok 1 []) ?_ ?_)
  · cbv
    simp [us, LV.l]
  cbv
  refine br_t (by decide +kernel) ?_
  cbv
  refine E.c (SCalls.of_le (none_out 65 (by omega)) ?_ ?_)
  · cbv; all_goals simp
  cbv
  refine E.c (SCalls.of_le (kitRel_ok 0 0 [] [] (by simp)) ?_ ?_)
  · cbv
    simp [us, LV.l]
  cbv
  refine hF ?_
  cbv
  simp
end Go.AL.Rl

namespace Go.AL.Rl
open Go Go.AL Go.Proofs
variable {γ : Nat → Option AV}
set_option maxRecDepth 100000

/-! ### cantileverref01: None, Self, Check, Has, Of -/
theorem rnone_in (n : Int) (h0 : 0 ≤ n) (h1 : n ≤ 64) : Owns Tryd.prog γ 17 [.i fun _ => n] (.agg [.i fun _ => n, .sl 1 0 1 (fun _ => 0) fun _ => n.toNat]) [.any, .run 0 1 fun _ => us (List.replicate n.toNat 0#64)] := by
  refine Owns.go (ty := ty) ty_eq mo Tryd.func17 rfl Tryd.ntmps17 Tryd.results17 Tryd.call17 (by simp) fun P C CQ D W F E hF => ?_
  cbv
  refine br_f (by simp; omega) ?_
  cbv
  refine br_f (by simp; omega) ?_
  cbv
  refine ⟨fun _ => by simp; omega, ?_⟩
  cbv
  refine hF ?_ ?_
  · cbv; simp
  · cbv; simp [us]
theorem rnone_out (n : Int) (h : ¬ (0 ≤ n ∧ n ≤ 64)) : Pure Tryd.prog γ false 17 [.i fun _ => n] (encRel 0 []) := by
  refine Pure.go (ty := ty) ty_eq mo Tryd.func17 rfl Tryd.ntmps17 Tryd.results17 Tryd.call17 (by simp) fun P C CQ D W F E hF => ?_
  cbv
  refine ⟨fun _ h0 => ?_, fun _ h0 => ?_⟩
  · cbv
    refine hF ?_
    cbv
    simp [us]
  cbv
  refine br_t (by simp at h0 ⊢; omega) ?_
  cbv
  refine hF ?_
  cbv
  simp [us]
theorem rnone_ok (n : Nat) (h : n ≤ 64) : Pure Tryd.prog γ false 17 [.i fun _ => (n : Int)] (encRel n (List.replicate n 0#64)) :=
  Pure.of_owns (rnone_in (n : Int) (by omega) (by omega)) (by
    cbv
    simp
    rw [List.take_of_length_le (by simp)])
theorem rself_in (n : Nat) (h : n ≤ 64) : Pure Tryd.prog γ false 19 [.i fun _ => (n : Int)] (encRel n (selfM n)) := by
  refine Pure.go (ty := ty) ty_eq mo Tryd.func19 rfl Tryd.ntmps19 Tryd.results19 Tryd.call19 (by simp) fun P C CQ D W F E hF => ?_
  cbv
  refine E.c (SCalls.of_owns (rnone_in (n : Int) (by omega) (by omega)) ?_ ?_)
  · cbv; all_goals simp
  cbv
  simp only [Int.toNat_natCast, nc]
  refine E.loop (ι := Nat) (fun m => m ≤ n) (fun m => n - m) (fun m => [(4, .i fun _ => (m : Int))])
    (fun m => [.box (.agg [.lit 0, .nils]), .any, .run 0 1 fun _ => us (tab n fun j => if j < m then 1#64 <<< j else 0#64), .box (.agg [.i fun _ => (n : Int), .sl 2 0 1 (fun _ => 0) fun _ => n])])
    0 rfl (fun _ => rfl) (Nat.zero_le _) ?_ fun m hm I hI => ?_
  · cbv
    simp [← tab_zero]
  cbv
  refine ⟨fun _ h4 => ?_, fun _ h4 => ?_⟩
  · cbv
    have hmm : m < n := by simp at h4; omega
    have hsh : (BitVec.ofInt 64 (m : Int)).toNat = m := by simp; omega
    refine ⟨fun _ => by simp; omega, fun _ => ⟨rfl, by simp; omega, by rw [Nat.zero_add, nct, us_get _ m (by simpa using hmm)]; rfl⟩, ?_⟩
    refine hI (m + 1) (by omega) (by omega) ?_
    cbv
    clear hI
    simp only [Nat.zero_add, nct, us_get _ m (show m < (tab n _).length by simpa using hmm), upd_u, us_set, us_of, nc, hsh]
    simp only [implies_true, and_true, true_and, forall_const]
    refine ⟨w64_of (by omega) (by omega), congrArg us (tab_set m _ hmm (by simp) fun j _ hj => ?_)⟩
    by_cases h : j < m <;> simp [h] <;> omega
  · cbv
    refine hF ?_
    cbv
    clear hI
    have hml : m = n := by simp at h4; omega
    subst hml
    simp [selfM]
    rw [List.take_of_length_le (by simp)]
    exact congrArg (fun x => (us x).l) (tab_congr fun i hi => by simp [hi])
theorem rself_out (n : Int) (h : ¬ (0 ≤ n ∧ n ≤ 64)) : Pure Tryd.prog γ false 19 [.i fun _ => n] (encRel 0 []) := by
  refine Pure.go (ty := ty) ty_eq mo Tryd.func19 rfl Tryd.ntmps19 Tryd.results19 Tryd.call19 (by simp) fun P C CQ D W F E hF => ?_
  cbv
  refine E.c (SCalls.of_le (rnone_out n h) ?_ ?_)
  · cbv; all_goals simp
  cbv
  refine E.loop (ι := Unit) (fun _ => True) (fun _ => 0) (fun _ => [(4, .i fun _ => 0)]) (fun _ => [.box (.agg [.lit 0, .nils]), .box (encRel 0 [])]) () rfl (fun _ => rfl) trivial ?_ fun m hm I hI => ?_
  · cbv
    simp
  cbv
  refine br_f (by simp) ?_
  cbv
  refine hF ?_
  cbv
  simp
theorem self_out (n : Int) (h : ¬ (0 ≤ n ∧ n ≤ 64)) : Pure Tryd.prog γ false 18 [.i fun _ => n] (encRel 0 []) := by
  refine Pure.go (ty := ty) ty_eq mo Tryd.func18 rfl Tryd.ntmps18 Tryd.results18 Tryd.call18 (by simp) fun P C CQ D W F E hF => ?_
  cbv
  refine E.c (SCalls.of_le (none_out n h) ?_ ?_)
  · cbv; all_goals simp
  cbv
  refine E.loop (ι := Unit) (fun _ => True) (fun _ => 0) (fun _ => [(10, .i fun _ => 0)]) (fun _ => [.box (.agg [.lit 0, .nils]), .box (encRel 0 [])]) () rfl (fun _ => rfl) trivial ?_ fun m hm I hI => ?_
  · cbv
    simp
  cbv
  refine br_f (by simp [us, LV.l]) ?_
  cbv
  refine hF ?_
  cbv
  simp

theorem rcheck_ok (n : Int) (rows : List (BitVec 64)) : Pure Tryd.prog γ false 20 [encRel n rows] (.i fun _ => checkM n rows) := by
  refine Pure.go (ty := ty) ty_eq mo Tryd.func20 rfl Tryd.ntmps20 Tryd.results20 Tryd.call20 (by simp) fun P C CQ D W F E hF => ?_
  cbv
  refine ⟨fun _ h0 => ?_, fun _ h0 => ?_⟩
  · cbv
    refine hF ?_
    cbv
    simp at h0
    intro _
    simp [checkM, Fits]; omega
  cbv
  refine ⟨fun _ h1 => ?_, fun _ h1 => ?_⟩
  · cbv
    refine hF ?_
    cbv
    simp at h0 h1
    intro _
    simp [checkM, Fits]; omega
  cbv
  refine ⟨fun _ h2 => ?_, fun _ h2 => ?_⟩
  · cbv
    refine hF ?_
    cbv
    simp at h0 h1 h2
    intro _
    simp [checkM, Fits]; omega
  cbv
  obtain ⟨la, rfl⟩ : ∃ la : Nat, n = la := ⟨n.toNat, by simp at h0; omega⟩
  have hl64 : la ≤ 64 := by simp at h1; omega
  have hla : rows.length = la := by simp at h2; omega
  clear h0 h1 h2
  have bad : ∀ i j, la ≤ j → bit rows i j = true → checkM la rows = 2 := fun i j h1 h2 => by
    have : ¬ Fits la rows := fun hf => by have := (fits_bits hf h2).2; omega
    simp [checkM, this]
  refine E.loop (ι := Nat) (fun i => i ≤ la ∧ ∀ k < i, ∀ j, la ≤ j → bit rows k j = false) (fun i => la - i) (fun i => [(3, .i fun _ => (i : Int))]) (fun _ => [.box (encRel la rows)]) 0 rfl (fun _ => rfl) ⟨Nat.zero_le _, by simp⟩ ?_ fun i hi I hI => ?_
  · cbv
    simp
  cbv
  refine ⟨fun _ h3 => ?_, fun _ h3 => ?_⟩
  · cbv
    have hii : i < la := by simp at h3; omega
    refine E.loop (ι := Nat) (fun j => la ≤ j ∧ j ≤ 64 ∧ ∀ k < j, la ≤ k → bit rows i k = false) (fun j => 64 - j) (fun j => [(4, .i fun _ => (j : Int))]) (fun _ => [.box (encRel la rows)]) la rfl (fun _ => rfl) ⟨Nat.le_refl _, hl64, fun k h1 h2 => by omega⟩ ?_ fun j hj I2 hI2 => ?_
    · cbv
      simp
    cbv
    refine ⟨fun _ h4 => ?_, fun _ h4 => ?_⟩
    · cbv
      have hjj : j < 64 := by simp at h4; omega
      have hsh : (BitVec.ofInt 64 (j : Int)).toNat = j := by simp; omega
      refine ⟨fun _ => by simp; omega, fun _ => by rw [nct, us_get _ i (by omega)]; rfl, fun _ => by simp, ?_⟩
      simp only [nct, us_get _ i (show i < rows.length by omega), at_u, nc, hsh]
      have hbit := cnt_full_bits (rows.getD i 0) j
      refine ⟨fun _ h5 => ?_, fun _ h5 => ?_⟩
      · cbv
        refine hF ?_
        cbv
        intro _
        exact (bad i j hj.1 (hbit.1 (by simpa using h5))).symm
      · cbv
        refine hI2 (j + 1) ⟨by omega, by omega, fun k h1 h2 => ?_⟩ (by omega) ?_
        · by_cases e : k = j
          · subst e
            cases hb : bit rows i k with
            | false => rfl
            | true => exact absurd (hbit.2 hb) (by simpa using h5)
          · exact hj.2.2 k (by omega) h2
        · cbv
          clear hI hI2
          simp
          exact w64_of (by omega) (by omega)
    · cbv
      refine hI (i + 1) ⟨by omega, fun k hk j' hj' => ?_⟩ (by omega) ?_
      · by_cases e : k = i
        · subst e
          have hj64 : j = 64 := by simp at h4; omega
          by_cases h64 : j' < 64
          · exact hj.2.2 j' (by omega) hj'
          · unfold bit; exact BitVec.getLsbD_of_ge _ _ (by omega)
        · exact hi.2 k (by omega) j' hj'
      · cbv
        clear hI hI2
        simp
        exact w64_of (by omega) (by omega)
  · cbv
    refine hF ?_
    cbv
    clear hI
    intro _
    have : i = la := by simp at h3; omega
    subst this
    have : Fits i rows := fits_mk hl64 hla fun k j hb => by
      rcases Nat.lt_or_ge j i with h | h
      · exact h
      · rcases Nat.lt_or_ge k i with h' | h'
        · rw [hi.2 k h' j h] at hb; cases hb
        · rw [bit_out (by omega)] at hb; cases hb
    simp [checkM, this]

theorem rhas_ok (n : Int) (rows : List (BitVec 64)) (i j : Int) : Pure Tryd.prog γ false 22 [encRel n rows, .i fun _ => i, .i fun _ => j] (.b fun _ => hasM n rows i j) := by
  refine Pure.go (ty := ty) ty_eq mo Tryd.func22 rfl Tryd.ntmps22 Tryd.results22 Tryd.call22 (by simp) fun P C CQ D W F E hF => ?_
  cbv
  refine E.c (SCalls.of_le (rcheck_ok n rows) ?_ ?_)
  · cbv; all_goals simp
  cbv
  by_cases hf : Fits n rows
  case neg =>
    refine br_f (by simp [checkM, hf]) ?_
    cbv
    refine hF ?_
    cbv
    simp [hasM, hf]
  refine br_t (by simp [checkM, hf]) ?_
  cbv
  refine ⟨fun _ h1 => ?_, fun _ h1 => ?_⟩
  rotate_left
  · cbv
    refine hF ?_
    cbv
    intro _
    simp at h1
    simp [hasM]; omega
  cbv
  refine ⟨fun _ h2 => ?_, fun _ h2 => ?_⟩
  rotate_left
  · cbv
    refine hF ?_
    cbv
    intro _
    simp at h1 h2
    simp [hasM]; omega
  cbv
  refine ⟨fun _ h3 => ?_, fun _ h3 => ?_⟩
  rotate_left
  · cbv
    refine hF ?_
    cbv
    intro _
    simp at h1 h2 h3
    simp [hasM]; omega
  cbv
  refine ⟨fun _ h4 => ?_, fun _ h4 => ?_⟩
  rotate_left
  · cbv
    refine hF ?_
    cbv
    intro _
    simp at h1 h2 h3 h4
    simp [hasM]; omega
  cbv
  obtain ⟨len, rfl, hl, hl2⟩ := fits_len hf
  simp at h1 h2 h3 h4
  obtain ⟨p, rfl⟩ : ∃ p : Nat, i = p := ⟨i.toNat, by omega⟩
  obtain ⟨q, rfl⟩ : ∃ q : Nat, j = q := ⟨j.toNat, by omega⟩
  have hp : p < rows.length := by omega
  have h5 : (p : Int) < len ∧ (q : Int) < len := ⟨h2, h4⟩
  have hsh : (BitVec.ofInt 64 (q : Int)).toNat = q := by simp; omega
  refine ⟨fun _ => by simp; omega, fun _ => by rw [nct, us_get _ p hp]; rfl, fun _ => by simp, ?_⟩
  cbv
  refine hF ?_
  cbv
  intro _
  simp only [nct, us_get _ p hp, at_u, nc, hsh]
  have hb := cnt_full_bits (rows.getD p 0) q
  simp only [hasM, hf, h5, Int.toNat_natCast]
  unfold bit
  simp
  rw [Bool.eq_iff_iff, decide_eq_true_iff]
  simpa using hb

theorem rof_in (n : Int) (l : List (Int × Int)) (h0 : 0 ≤ n) (h1 : n ≤ 64) (hl : l.length < 4611686018427387904) : Pure Tryd.prog γ false 15 [.i fun _ => n, .vs 2 fun _ => ps l] (encRel n (ofTo n l l.length)) := by
  refine Pure.go (ty := ty) ty_eq mo Tryd.func15 rfl Tryd.ntmps15 Tryd.results15 Tryd.call15 (by simp) fun P C CQ D W F E hF => ?_
  cbv
  refine E.c (SCalls.of_owns (rnone_in n h0 h1) ?_ ?_)
  · cbv; all_goals simp
  cbv
  obtain ⟨len, hlen⟩ : ∃ len : Nat, n = len := ⟨n.toNat, by omega⟩
  subst hlen
  simp only [Int.toNat_natCast, nc]
  have hln : len ≤ 64 := by omega
  refine E.loop (ι := Nat) (fun m => m ≤ l.length) (fun m => l.length - m) (fun m => [(6, .i fun _ => (m : Int))])
    (fun m => [.box (.agg [.lit 0, .nils]), .any, .run 0 1 fun _ => us (ofTo len l m), .box (.agg [.i fun _ => len, .sl 2 0 1 (fun _ => 0) fun _ => len])])
    0 rfl (fun _ => rfl) (Nat.zero_le _) ?_ fun m hm I hI => ?_
  · cbv
    simp [ofTo]
  cbv
  refine ⟨fun _ h4 => ?_, fun _ h4 => ?_⟩
  · cbv
    have hmr : m < l.length := by simp at h4; omega
    refine E.d 12 (by kernel_rfl) ?_
    cbv
    refine ⟨fun _ => by simp; omega, fun _ => by rw [nct, ps_get _ m hmr]; rfl, fun _ => by simp; omega, fun _ => by rw [nct, ps_get _ m hmr]; rfl, ?_⟩
    have hs := ofTo_succ len l m hmr
    simp only [nct, ps_get _ m hmr, at_p0, at_p1]
    generalize l.getD m (0, 0) = p at hs ⊢
    have hlw : (ofTo len l m).length = len := by rw [ofTo_len]; simp
    have no : ¬ (0 ≤ p.1 ∧ p.1 < len ∧ 0 ≤ p.2 ∧ p.2 < len) → ofTo len l (m + 1) = ofTo len l m := fun h => by rw [hs, ofStep, if_neg h]
    refine ⟨fun _ h5 => ?_, fun _ h5 => ?_⟩
    rotate_left
    · cbv
      refine hI (m + 1) (by omega) (by omega) ?_
      cbv
      clear hI
      simp at h5
      simp
      exact ⟨w64_of (by omega) (by omega), by rw [no (by omega)]⟩
    cbv
    simp at h5
    refine ⟨fun _ h6 => ?_, fun _ h6 => ?_⟩
    rotate_left
    · cbv
      refine hI (m + 1) (by omega) (by omega) ?_
      cbv
      clear hI
      simp at h6
      simp
      refine ⟨w64_of (by omega) (by omega), ?_⟩
      simp only [nc] at no
      rw [no (fun h => absurd h.2.1 (by simpa using h6))]
    cbv
    simp at h6
    refine ⟨fun _ h7 => ?_, fun _ h7 => ?_⟩
    rotate_left
    · cbv
      refine hI (m + 1) (by omega) (by omega) ?_
      cbv
      clear hI
      simp at h7
      simp
      exact ⟨w64_of (by omega) (by omega), by rw [no (by omega)]⟩
    cbv
    simp at h7
    refine ⟨fun _ h8 => ?_, fun _ h8 => ?_⟩
    rotate_left
    · cbv
      refine hI (m + 1) (by omega) (by omega) ?_
      cbv
      clear hI
      simp at h8
      simp
      refine ⟨w64_of (by omega) (by omega), ?_⟩
      simp only [nc] at no
      rw [no (fun h => absurd h.2.2.2 (by simpa using h8))]
    cbv
    simp at h8
    refine E.d 12 (by kernel_rfl) ?_
    cbv
    simp only [nc] at hlw h5 h6 h7 h8
    have hp : p.1.toNat < (ofTo len l m).length := by omega
    have hsh : (BitVec.ofInt 64 p.2).toNat = p.2.toNat := by simp; omega
    refine ⟨fun _ => by simp only [nc]; omega, fun _ => ⟨rfl, by simp; omega⟩, fun _ => by rw [Nat.zero_add, us_get _ _ hp]; rfl, fun _ => by simp only [nc]; omega, fun _ => ⟨rfl, by simp; omega, by rw [Nat.zero_add, us_get _ _ hp]; rfl⟩, ?_⟩
    refine hI (m + 1) (by omega) (by omega) ?_
    cbv
    clear hI
    simp only [nc] at hs h6 h8
    simp only [Nat.zero_add, nc, us_get _ _ hp, at_u, upd_u, us_set, us_of, hsh]
    simp only [implies_true, and_true, true_and, forall_const]
    refine ⟨w64_of (by omega) (by omega), ?_⟩
    rw [hs, ofStep, if_pos ⟨h5, h6, h7, h8⟩]
    rfl
  · cbv
    refine hF ?_
    cbv
    clear hI
    have hml : m = l.length := by simp at h4; omega
    have hlw : (ofTo len l l.length).length = len := by rw [ofTo_len]; simp
    simp [hml]
    exact ⟨by omega, by rw [List.take_of_length_le (by simp; omega)]⟩
theorem rof_out (n : Int) (l : List (Int × Int)) (hn : ¬ (0 ≤ n ∧ n ≤ 64)) (hl : l.length < 4611686018427387904) : Pure Tryd.prog γ false 15 [.i fun _ => n, .vs 2 fun _ => ps l] (encRel 0 []) := by
  refine Pure.go (ty := ty) ty_eq mo Tryd.func15 rfl Tryd.ntmps15 Tryd.results15 Tryd.call15 (by simp) fun P C CQ D W F E hF => ?_
  cbv
  refine E.c (SCalls.of_le (rnone_out n hn) ?_ ?_)
  · cbv; all_goals simp
  cbv
  refine E.loop (ι := Nat) (fun m => m ≤ l.length) (fun m => l.length - m) (fun m => [(6, .i fun _ => (m : Int))])
    (fun m => [.box (.agg [.lit 0, .nils]), .box (encRel 0 [])])
    0 rfl (fun _ => rfl) (Nat.zero_le _) ?_ fun m hm I hI => ?_
  · cbv
    simp
  cbv
  refine ⟨fun _ h4 => ?_, fun _ h4 => ?_⟩
  · cbv
    have hmr : m < l.length := by simp at h4; omega
    refine E.d 12 (by kernel_rfl) ?_
    cbv
    refine ⟨fun _ => by simp; omega, fun _ => by rw [nct, ps_get _ m hmr]; rfl, fun _ => by simp; omega, fun _ => by rw [nct, ps_get _ m hmr]; rfl, ?_⟩
    simp only [nct, ps_get _ m hmr, at_p0, at_p1]
    generalize l.getD m (0, 0) = p
    refine ⟨fun _ h5 => ?_, fun _ h5 => ?_⟩
    · cbv
      simp at h5
      refine br_f (by simp; omega) ?_
      cbv
      refine hI (m + 1) (by omega) (by omega) ?_
      cbv
      clear hI
      simp
      exact w64_of (by omega) (by omega)
    · cbv
      refine hI (m + 1) (by omega) (by omega) ?_
      cbv
      clear hI
      simp
      exact w64_of (by omega) (by omega)
  · cbv
    refine hF ?_
    cbv
    simp
end Go.AL.Rl

namespace Go.AL.Rl
open Go Go.AL Go.Proofs
variable {γ : Nat → Option AV}
set_option maxRecDepth 100000

/-! ### cantileverref01: alike, Or, And, Less, Same -/
theorem ralike_ok (l : List RelV) (hl : l.length < 4611686018427387904) : Pure Tryd.prog γ false 54 [.vs 2 fun _ => rls l] (.b fun _ => decide (Alike l)) := by
  refine Pure.go (ty := ty) ty_eq mo Tryd.func54 rfl Tryd.ntmps54 Tryd.results54 Tryd.call54 (by simp) fun P C CQ D W F E hF => ?_
  cbv
  refine E.loop (ι := Nat) (fun m => m ≤ l.length ∧ ∀ k < m, Fits (l.getD k (0, [])).1 (l.getD k (0, [])).2 ∧ (l.getD k (0, [])).1 = (l.getD 0 (0, [])).1) (fun m => l.length - m) (fun m => [(3, .i fun _ => (m : Int))])
    (fun m => []) 0 rfl (fun _ => rfl) ⟨Nat.zero_le _, by simp⟩ ?_ fun m hm I hI => ?_
  · cbv
    simp
  cbv
  refine ⟨fun _ h4 => ?_, fun _ h4 => ?_⟩
  · cbv
    have hmm : m < l.length := by simp at h4; omega
    refine E.d 18 (by kernel_rfl) ?_
    cbv
    refine ⟨fun _ => by simp; omega, fun _ => by rw [nct, rls_get _ m hmm]; rfl, ?_⟩
    simp only [nct, rls_get _ m hmm, at_r0, at_r1]
    generalize hv : l.getD m (0, []) = v
    obtain ⟨vn, vr⟩ := v
    simp only
    have hfit : l.getD m (0, []) = (vn, vr) := hv
    refine E.q (QCalls.of_le (rcheck_ok vn vr) ?_ ?_)
    · cbv; all_goals simp
    cbv
    refine ⟨fun _ h5 => ?_, fun _ h5 => ?_⟩
    · cbv
      refine hF ?_
      cbv
      intro _
      clear hI
      have : ¬ Alike l := fun h => by
        have := (h.2 m hmm).1
        rw [hfit] at this
        simp [checkM, this] at h5
      simp [this]
    cbv
    have hfv : Fits vn vr := by
      by_cases h : Fits vn vr
      · exact h
      · simp [checkM, h] at h5
    refine ⟨fun _ => by simp; omega, fun _ => by rw [nct, rls_get _ m hmm, hfit]; rfl, fun _ => by simp; omega, fun _ => by rw [show (0 : Int).toNat = 0 from rfl, rls_get _ 0 (by omega)]; rfl, ?_⟩
    simp only [show (0 : Int).toNat = 0 from rfl, nct, rls_get _ m hmm, hfit, rls_get _ 0 (show 0 < l.length by omega), at_r0]
    refine ⟨fun _ h6 => ?_, fun _ h6 => ?_⟩
    · cbv
      refine hF ?_
      cbv
      intro _
      clear hI
      have : ¬ Alike l := fun h => by
        have := (h.2 m hmm).2
        rw [hfit] at this
        simp at h6
        exact h6 (by simpa using this)
      simp [this]
    · cbv
      refine hI (m + 1) ⟨hmm, fun k hk => ?_⟩ (by omega) ?_
      · rcases Nat.lt_or_ge k m with h | h
        · exact hm.2 k h
        · obtain rfl : k = m := by omega
          rw [hfit]
          exact ⟨hfv, by simpa using h6⟩
      · cbv
        clear hI
        simp
        exact w64_of (by omega) (by omega)
  · cbv
    refine hF ?_
    cbv
    clear hI
    intro _
    have : m = l.length := by simp at h4; omega
    subst this
    simp
    exact ⟨fun h => ⟨h, hm.2⟩, fun h => h.1⟩

theorem ror_no (l : List RelV) (hl : l.length < 4611686018427387904) (h : ¬ Alike l) : Pure Tryd.prog γ false 38 [.vs 2 fun _ => rls l] (encRel 0 []) := by
  refine Pure.go (ty := ty) ty_eq mo Tryd.func38 rfl Tryd.ntmps38 Tryd.results38 Tryd.call38 (by simp) fun P C CQ D W F E hF => ?_
  cbv
  refine E.c (SCalls.of_le (ralike_ok l hl) ?_ ?_)
  · cbv; all_goals simp
  cbv
  refine br_t (by simp [h]) ?_
  cbv
  refine hF ?_
  cbv
  simp [us]
theorem alike_all {l : List RelV} (h : Alike l) {n : Nat} (hn : (l.getD 0 (0, [])).1 = n) : n ≤ 64 ∧ ∀ k < l.length, (l.getD k (0, [])).2.length = n := by
  have h0 := (h.2 0 h.1).1
  obtain ⟨k0, hk1, hk2, hk3⟩ := fits_len h0
  rw [hn] at hk1
  refine ⟨by omega, fun k hk => ?_⟩
  have := h.2 k hk
  obtain ⟨j, e1, e2, _⟩ := fits_len this.1
  have e3 := this.2
  rw [hn, e1] at e3
  omega
theorem ror_yes (l : List RelV) (hl : l.length < 4611686018427387904) (h : Alike l) (n : Nat) (hn : (l.getD 0 (0, [])).1 = n) : Pure Tryd.prog γ false 38 [.vs 2 fun _ => rls l] (encRel n (orM n l)) := by
  have hl0 := h.1
  obtain ⟨h64, hall⟩ := alike_all h hn
  refine Pure.go (ty := ty) ty_eq mo Tryd.func38 rfl Tryd.ntmps38 Tryd.results38 Tryd.call38 (by simp) fun P C CQ D W F E hF => ?_
  cbv
  refine E.c (SCalls.of_le (ralike_ok l hl) ?_ ?_)
  · cbv; all_goals simp
  cbv
  refine br_f (by simp [h]) ?_
  cbv
  refine ⟨fun _ => by simp; omega, fun _ => by rw [show (0 : Int).toNat = 0 from rfl, rls_get _ 0 hl0]; rfl, ?_⟩
  cbv
  simp only [show (0 : Int).toNat = 0 from rfl, rls_get _ 0 hl0, at_r0, hn]
  refine E.c (SCalls.of_owns (rnone_in (n : Int) (by omega) (by omega)) ?_ ?_)
  · cbv; all_goals simp
  cbv
  simp only [Int.toNat_natCast, nc]
  refine E.loop (ι := Nat) (fun k => k ≤ l.length) (fun k => l.length - k) (fun k => [(4, .i fun _ => (k : Int))])
    (fun k => [.box (.agg [.lit 0, .nils]), .any, .run 0 1 fun _ => us (tab n (orV (l.take k))), .box (.agg [.i fun _ => (n : Int), .sl 2 0 1 (fun _ => 0) fun _ => n])])
    0 rfl (fun _ => rfl) (Nat.zero_le _) ?_ fun k hk I hI => ?_
  · cbv
    simp [← tab_zero, show orV [] = fun _ => 0#64 from rfl]
  cbv
  refine ⟨fun _ h4 => ?_, fun _ h4 => ?_⟩
  · cbv
    have hkk : k < l.length := by simp at h4; omega
    have hsu := orV_succ l k
    have hrl := hall k hkk
    refine E.loop (ι := Nat) (fun i => i ≤ n) (fun i => n - i) (fun i => [(5, .i fun _ => (i : Int))])
      (fun i => [.box (.agg [.lit 0, .nils]), .any, .run 0 1 fun _ => us (tab n fun j => if j < i then orV (l.take (k + 1)) j else orV (l.take k) j), .box (.agg [.i fun _ => (n : Int), .sl 2 0 1 (fun _ => 0) fun _ => n])])
      0 rfl (fun _ => rfl) (Nat.zero_le _) ?_ fun i hi I2 hI2 => ?_
    · cbv
      simp
    cbv
    refine ⟨fun _ h5 => ?_, fun _ h5 => ?_⟩
    · cbv
      have hii : i < n := by simp at h5; omega
      refine E.d 17 (by kernel_rfl) ?_
      cbv
      simp only [nct, rls_get _ k hkk, at_r1]
      refine ⟨fun _ => by simp; omega, fun _ => ⟨trivial, by simp; omega⟩, fun _ => by rw [Nat.zero_add, us_get _ i (by simpa using hii)]; rfl, fun _ => by simp; omega, fun _ => rfl, fun _ => by simp only [us_len, nc]; omega, fun _ => by rw [us_get _ i (by omega)]; rfl, fun _ => by simp; omega,
        fun _ => ⟨trivial, by simp; omega, by rw [Nat.zero_add, us_get _ i (by simpa using hii)]; rfl⟩, ?_⟩
      refine hI2 (i + 1) (by omega) (by omega) ?_
      cbv
      clear hI hI2
      simp only [Nat.zero_add, nct, us_get _ i (show i < (tab n _).length by simpa using hii), us_get (l.getD k (0, [])).2 i (by omega), at_u, upd_u, us_set, us_of, nc, tab_get n _ i hii]
      simp only [implies_true, and_true, true_and, forall_const]
      refine ⟨w64_of (by omega) (by omega), congrArg us (tab_set i _ hii (by simp [hsu i hkk]) fun j _ hj => ?_)⟩
      by_cases h : j < i <;> simp [h] <;> omega
    · cbv
      refine hI (k + 1) (by omega) (by omega) ?_
      cbv
      clear hI hI2
      have : i = n := by simp at h5; omega
      subst this
      simp
      exact ⟨w64_of (by omega) (by omega), congrArg us (tab_congr fun j hj => by simp [hj])⟩
  · cbv
    refine hF ?_
    cbv
    clear hI
    have hml : k = l.length := by simp at h4; omega
    subst hml
    simp [orM]
    rw [List.take_of_length_le (by simp)]

theorem rand_no (n m : Int) (a b : List (BitVec 64)) (h : ¬ (Fits n a ∧ Fits m b ∧ m = n)) : Pure Tryd.prog γ false 39 [encRel n a, encRel m b] (encRel 0 []) := by
  refine Pure.go (ty := ty) ty_eq mo Tryd.func39 rfl Tryd.ntmps39 Tryd.results39 Tryd.call39 (by simp) fun P C CQ D W F E hF => ?_
  cbv
  refine E.c (SCalls.of_le (ralike_ok [(n, a), (m, b)] (by simp)) ?_ ?_)
  · cbv
    simp [rls]
  cbv
  refine br_t (by simp [alike2, h]) ?_
  cbv
  refine hF ?_
  cbv
  simp [us]
theorem rand_yes (n : Nat) (a b : List (BitVec 64)) (ha : Fits n a) (hb : Fits n b) : Pure Tryd.prog γ false 39 [encRel n a, encRel n b] (encRel n (andM n a b)) := by
  obtain ⟨la, e1, hla, hl64⟩ := fits_len ha
  obtain rfl : n = la := by omega
  obtain ⟨lb, e2, hlb, _⟩ := fits_len hb
  obtain rfl : n = lb := by omega
  refine Pure.go (ty := ty) ty_eq mo Tryd.func39 rfl Tryd.ntmps39 Tryd.results39 Tryd.call39 (by simp) fun P C CQ D W F E hF => ?_
  cbv
  refine E.c (SCalls.of_le (ralike_ok [((n : Int), a), ((n : Int), b)] (by simp)) ?_ ?_)
  · cbv
    simp [rls]
  cbv
  refine br_f (by simp [alike2, ha, hb]) ?_
  cbv
  refine E.c (SCalls.of_owns (rnone_in (n : Int) (by omega) (by omega)) ?_ ?_)
  · cbv; all_goals simp
  cbv
  simp only [Int.toNat_natCast, nc]
  refine E.loop (ι := Nat) (fun i => i ≤ n) (fun i => n - i) (fun i => [(6, .i fun _ => (i : Int))])
    (fun i => [.box (encRel n a), .box (encRel n b), .box (.agg [.lit 0, .nils]), .any, .run 0 1 fun _ => us (tab n fun j => if j < i then a.getD j 0 &&& b.getD j 0 else 0#64), .box (.agg [.i fun _ => (n : Int), .sl 4 0 1 (fun _ => 0) fun _ => n])])
    0 rfl (fun _ => rfl) (Nat.zero_le _) ?_ fun i hi I hI => ?_
  · cbv
    simp [← tab_zero]
  cbv
  refine ⟨fun _ h4 => ?_, fun _ h4 => ?_⟩
  · cbv
    have hii : i < n := by simp at h4; omega
    refine E.d 14 (by kernel_rfl) ?_
    cbv
    refine ⟨fun _ => by simp; omega, fun _ => by rw [nct, us_get _ i (by omega)]; rfl, fun _ => by simp; omega, fun _ => by rw [nct, us_get _ i (by omega)]; rfl, fun _ => by simp; omega,
      fun _ => ⟨rfl, by simp; omega, by rw [Nat.zero_add, nct, us_get _ i (by simpa using hii)]; rfl⟩, ?_⟩
    refine hI (i + 1) (by omega) (by omega) ?_
    cbv
    clear hI
    simp only [Nat.zero_add, nct, us_get _ i (show i < (tab n _).length by simpa using hii), us_get b i (by omega), us_get a i (by omega), at_u, upd_u, us_set, us_of, nc, tab_get n _ i hii]
    simp only [implies_true, and_true, true_and, forall_const]
    refine ⟨w64_of (by omega) (by omega), congrArg us (tab_set i _ hii (by simp) fun j _ hj => ?_)⟩
    by_cases h : j < i <;> simp [h] <;> omega
  · cbv
    refine hF ?_
    cbv
    clear hI
    have hml : i = n := by simp at h4; omega
    subst hml
    simp [andM]
    rw [List.take_of_length_le (by simp)]
    exact congrArg (fun x => (us x).l) (tab_congr fun i hi => by simp [hi])
theorem rless_no (n m : Int) (a b : List (BitVec 64)) (h : ¬ (Fits n a ∧ Fits m b ∧ m = n)) : Pure Tryd.prog γ false 41 [encRel n a, encRel m b] (encRel 0 []) := by
  refine Pure.go (ty := ty) ty_eq mo Tryd.func41 rfl Tryd.ntmps41 Tryd.results41 Tryd.call41 (by simp) fun P C CQ D W F E hF => ?_
  cbv
  refine E.c (SCalls.of_le (ralike_ok [(n, a), (m, b)] (by simp)) ?_ ?_)
  · cbv
    simp [rls]
  cbv
  refine br_t (by simp [alike2, h]) ?_
  cbv
  refine hF ?_
  cbv
  simp [us]
theorem rless_yes (n : Nat) (a b : List (BitVec 64)) (ha : Fits n a) (hb : Fits n b) : Pure Tryd.prog γ false 41 [encRel n a, encRel n b] (encRel n (lessM n a b)) := by
  obtain ⟨la, e1, hla, hl64⟩ := fits_len ha
  obtain rfl : n = la := by omega
  obtain ⟨lb, e2, hlb, _⟩ := fits_len hb
  obtain rfl : n = lb := by omega
  refine Pure.go (ty := ty) ty_eq mo Tryd.func41 rfl Tryd.ntmps41 Tryd.results41 Tryd.call41 (by simp) fun P C CQ D W F E hF => ?_
  cbv
  refine E.c (SCalls.of_le (ralike_ok [((n : Int), a), ((n : Int), b)] (by simp)) ?_ ?_)
  · cbv
    simp [rls]
  cbv
  refine br_f (by simp [alike2, ha, hb]) ?_
  cbv
  refine E.c (SCalls.of_owns (rnone_in (n : Int) (by omega) (by omega)) ?_ ?_)
  · cbv; all_goals simp
  cbv
  simp only [Int.toNat_natCast, nc]
  refine E.loop (ι := Nat) (fun i => i ≤ n) (fun i => n - i) (fun i => [(6, .i fun _ => (i : Int))])
    (fun i => [.box (encRel n a), .box (encRel n b), .box (.agg [.lit 0, .nils]), .any, .run 0 1 fun _ => us (tab n fun j => if j < i then a.getD j 0 &&& ~~~ b.getD j 0 else 0#64), .box (.agg [.i fun _ => (n : Int), .sl 4 0 1 (fun _ => 0) fun _ => n])])
    0 rfl (fun _ => rfl) (Nat.zero_le _) ?_ fun i hi I hI => ?_
  · cbv
    simp [← tab_zero]
  cbv
  refine ⟨fun _ h4 => ?_, fun _ h4 => ?_⟩
  · cbv
    have hii : i < n := by simp at h4; omega
    refine E.d 14 (by kernel_rfl) ?_
    cbv
    refine ⟨fun _ => by simp; omega, fun _ => by rw [nct, us_get _ i (by omega)]; rfl, fun _ => by simp; omega, fun _ => by rw [nct, us_get _ i (by omega)]; rfl, fun _ => by simp; omega,
      fun _ => ⟨rfl, by simp; omega, by rw [Nat.zero_add, nct, us_get _ i (by simpa using hii)]; rfl⟩, ?_⟩
    refine hI (i + 1) (by omega) (by omega) ?_
    cbv
    clear hI
    simp only [Nat.zero_add, nct, us_get _ i (show i < (tab n _).length by simpa using hii), us_get b i (by omega), us_get a i (by omega), at_u, upd_u, us_set, us_of, nc, tab_get n _ i hii]
    simp only [implies_true, and_true, true_and, forall_const]
    refine ⟨w64_of (by omega) (by omega), congrArg us (tab_set i _ hii (by simp) fun j _ hj => ?_)⟩
    by_cases h : j < i <;> simp [h] <;> omega
  · cbv
    refine hF ?_
    cbv
    clear hI
    have hml : i = n := by simp at h4; omega
    subst hml
    simp [lessM]
    rw [List.take_of_length_le (by simp)]
    exact congrArg (fun x => (us x).l) (tab_congr fun i hi => by simp [hi])
end Go.AL.Rl

namespace Go.AL.Rl
open Go Go.AL Go.Proofs
variable {γ : Nat → Option AV}
set_option maxRecDepth 100000

/-! ### cantileverref01: Turn, Only, Image, Same, Pairs; cantileverkit.Pairs -/
/-- rows i below m (and of row m what stands below q) are told, turned -/
def rtV (rows : List (BitVec 64)) (m q : Nat) (p : Nat) : BitVec 64 :=
  (List.range m).foldl (fun a i => if bit rows i p then a ||| 1#64 <<< i else a) 0#64 ||| (if p < q ∧ bit rows m p = true then 1#64 <<< m else 0#64)
theorem rtV_zero (rows : List (BitVec 64)) (p : Nat) : rtV rows 0 0 p = 0#64 := by simp [rtV]
theorem rtV_next (rows : List (BitVec 64)) (m q p : Nat) (hq : p < q) : rtV rows (m + 1) 0 p = rtV rows m q p := by
  unfold rtV
  rw [List.range_succ, List.foldl_append]
  simp only [List.foldl_cons, List.foldl_nil]
  by_cases h : bit rows m p = true
  · simp [h, hq]
  · simp [h]
theorem rtV_step (rows : List (BitVec 64)) (m q p : Nat) (hne : p ≠ q) : rtV rows m (q + 1) p = rtV rows m q p := by
  unfold rtV
  by_cases h : p < q
  · simp [h, show p < q + 1 by omega]
  · rw [if_neg (fun e => by omega), if_neg (fun e => h e.1)]
theorem rtV_hit (rows : List (BitVec 64)) (m q : Nat) (h : bit rows m q = true) : rtV rows m (q + 1) q = rtV rows m q q ||| 1#64 <<< m := by
  unfold rtV
  rw [if_pos ⟨by omega, h⟩, if_neg (by omega)]
  simp
theorem rtV_miss (rows : List (BitVec 64)) (m q : Nat) (h : bit rows m q = false) : rtV rows m (q + 1) q = rtV rows m q q := by
  unfold rtV
  rw [if_neg (by simp [h]), if_neg (by omega)]
theorem rtV_bit (rows : List (BitVec 64)) (m p : Nat) : ∀ i, (rtV rows m 0 p).getLsbD i = true ↔ i < m ∧ i < 64 ∧ bit rows i p = true := by
  intro i
  unfold rtV
  rw [if_neg (fun e => by omega), BitVec.or_zero]
  induction m with
  | zero => simp
  | succ m ih =>
    rw [List.range_succ, List.foldl_append]
    simp only [List.foldl_cons, List.foldl_nil]
    by_cases hb : bit rows m p = true
    · rw [if_pos hb, BitVec.getLsbD_or, Bool.or_eq_true, ih]
      by_cases hi : i < 64
      · rw [one_shl_bit m i hi]
        constructor
        · rintro (h | h)
          · exact ⟨by omega, h.2⟩
          · have : m = i := by simpa using h
            subst this; exact ⟨by omega, hi, hb⟩
        · rintro ⟨h1, h2⟩
          by_cases e : i = m
          · subst e; right; simp
          · left; exact ⟨by omega, h2⟩
      · rw [BitVec.getLsbD_of_ge (1#64 <<< m) _ (by omega)]
        constructor
        · rintro (h | h)
          · exact ⟨by omega, h.2⟩
          · cases h
        · rintro ⟨_, h, _⟩; exact absurd h hi
    · rw [if_neg hb, ih]
      constructor
      · rintro ⟨h1, h2⟩; exact ⟨by omega, h2⟩
      · rintro ⟨h1, h2, h3⟩
        refine ⟨?_, h2, h3⟩
        by_cases e : i = m
        · subst e; exact absurd h3 hb
        · omega
theorem rturn_eq {n : Nat} {rows : List (BitVec 64)} (hf : Fits n rows) : tab n (rtV rows n 0) = turnM rows := by
  obtain ⟨k, e, hl, h64⟩ := fits_len hf
  have e := Int.ofNat.inj e
  subst e
  refine rows_ext (by simp [turnM, tOut_len, hl]) fun i j hi => ?_
  rw [bit_tab, bit_turn hf, Bool.and_eq_true, rtV_bit, decide_eq_true_eq]
  constructor
  · exact fun h => h.2.2.2
  · intro h
    have := fits_bits hf h
    exact ⟨by omega, by omega, by omega, h⟩

theorem rturn_no (n : Int) (rows : List (BitVec 64)) (h : ¬ Fits n rows) : Pure Tryd.prog γ false 43 [encRel n rows] (encRel 0 []) := by
  refine Pure.go (ty := ty) ty_eq mo Tryd.func43 rfl Tryd.ntmps43 Tryd.results43 Tryd.call43 (by simp) fun P C CQ D W F E hF => ?_
  cbv
  refine E.c (SCalls.of_le (rcheck_ok n rows) ?_ ?_)
  · cbv; all_goals simp
  cbv
  refine br_t (by simp [checkM, h]) ?_
  cbv
  refine hF ?_
  cbv
  simp [us]
theorem turn_no (n : Int) (rows : List (BitVec 64)) (h : ¬ Fits n rows) : Pure Tryd.prog γ false 27 [encRel n rows] (encRel 0 []) := by
  refine Pure.go (ty := ty) ty_eq mo Tryd.func27 rfl Tryd.ntmps27 Tryd.results27 Tryd.call27 (by simp) fun P C CQ D W F E hF => ?_
  cbv
  refine E.c (SCalls.of_le (check_ok n rows) ?_ ?_)
  · cbv; all_goals simp
  cbv
  refine br_t (by simp [checkM, h]) ?_
  cbv
  refine hF ?_
  cbv
  simp [us]
theorem rturn_yes (n : Nat) (rows : List (BitVec 64)) (hf : Fits n rows) : Pure Tryd.prog γ false 43 [encRel n rows] (encRel n (turnM rows)) := by
  obtain ⟨la, e1, hla, hl64⟩ := fits_len hf
  obtain rfl : n = la := by omega
  rw [← rturn_eq hf]
  refine Pure.go (ty := ty) ty_eq mo Tryd.func43 rfl Tryd.ntmps43 Tryd.results43 Tryd.call43 (by simp) fun P C CQ D W F E hF => ?_
  cbv
  refine E.c (SCalls.of_le (rcheck_ok n rows) ?_ ?_)
  · cbv; all_goals simp
  cbv
  refine br_f (by simp [checkM, hf]) ?_
  cbv
  refine E.c (SCalls.of_owns (rnone_in (n : Int) (by omega) (by omega)) ?_ ?_)
  · cbv; all_goals simp
  cbv
  simp only [Int.toNat_natCast, nc]
  refine E.loop (ι := Nat) (fun m => m ≤ n) (fun m => n - m) (fun m => [(4, .i fun _ => (m : Int))])
    (fun m => [.box (encRel n rows), .box (.agg [.lit 0, .nils]), .any, .run 0 1 fun _ => us (tab n (rtV rows m 0)), .box (.agg [.i fun _ => (n : Int), .sl 3 0 1 (fun _ => 0) fun _ => n])])
    0 rfl (fun _ => rfl) (Nat.zero_le _) ?_ fun m hm I hI => ?_
  · cbv
    simp
    exact congrArg us (by rw [← tab_zero]; exact tab_congr fun p _ => (rtV_zero rows p).symm)
  cbv
  refine ⟨fun _ h4 => ?_, fun _ h4 => ?_⟩
  · cbv
    have hmm : m < n := by simp at h4; omega
    refine E.loop (ι := Nat) (fun q => q ≤ n) (fun q => n - q) (fun q => [(5, .i fun _ => (q : Int))])
      (fun q => [.box (encRel n rows), .box (.agg [.lit 0, .nils]), .any, .run 0 1 fun _ => us (tab n (rtV rows m q)), .box (.agg [.i fun _ => (n : Int), .sl 3 0 1 (fun _ => 0) fun _ => n])])
      0 rfl (fun _ => rfl) (Nat.zero_le _) ?_ fun q hq I2 hI2 => ?_
    · cbv
      simp
    cbv
    refine ⟨fun _ h5 => ?_, fun _ h5 => ?_⟩
    · cbv
      have hqq : q < n := by simp at h5; omega
      have hsh : (BitVec.ofInt 64 (q : Int)).toNat = q := by simp; omega
      have hsm : (BitVec.ofInt 64 (m : Int)).toNat = m := by simp; omega
      refine ⟨fun _ => by simp; omega, fun _ => by rw [nct, us_get _ m (by omega)]; rfl, fun _ => by simp, ?_⟩
      simp only [nct, us_get _ m (show m < rows.length by omega), at_u, nc, hsh]
      have hbit := cnt_full_bits (rows.getD m 0) q
      refine ⟨fun _ h6 => ?_, fun _ h6 => ?_⟩
      · cbv
        have hb : bit rows m q = true := hbit.1 (by simpa using h6)
        refine E.d 12 (by kernel_rfl) ?_
        cbv
        refine ⟨fun _ => by simp; omega, fun _ => ⟨rfl, by simp; omega⟩, fun _ => by rw [Nat.zero_add, nct, us_get _ q (by simpa using hqq)]; rfl, fun _ => by simp; omega,
          fun _ => ⟨rfl, by simp; omega, by rw [Nat.zero_add, nct, us_get _ q (by simpa using hqq)]; rfl⟩, ?_⟩
        refine hI2 (q + 1) (by omega) (by omega) ?_
        cbv
        clear hI hI2
        simp only [Nat.zero_add, nct, us_get _ q (show q < (tab n _).length by simpa using hqq), at_u, upd_u, us_set, us_of, nc, tab_get n _ q hqq, hsm]
        simp only [implies_true, and_true, true_and, forall_const]
        exact ⟨w64_of (by omega) (by omega), congrArg us (tab_set q _ hqq (rtV_hit rows m q hb) fun j _ hj => rtV_step rows m q j hj)⟩
      · cbv
        have hb : bit rows m q = false := by
          cases hx : bit rows m q with
          | false => rfl
          | true => exact absurd (hbit.2 hx) (by simpa using h6)
        refine hI2 (q + 1) (by omega) (by omega) ?_
        cbv
        clear hI hI2
        simp
        refine ⟨w64_of (by omega) (by omega), congrArg us (tab_congr fun j _ => ?_)⟩
        by_cases e : j = q
        · subst e; exact (rtV_miss rows m j hb).symm
        · exact (rtV_step rows m q j e).symm
    · cbv
      refine hI (m + 1) (by omega) (by omega) ?_
      cbv
      clear hI hI2
      have : q = n := by simp at h5; omega
      subst this
      simp
      exact ⟨w64_of (by omega) (by omega), congrArg us (tab_congr fun j hj => (rtV_next rows m q j hj).symm)⟩
  · cbv
    refine hF ?_
    cbv
    clear hI
    have hml : m = n := by simp at h4; omega
    subst hml
    simp
    rw [List.take_of_length_le (by simp)]
end Go.AL.Rl

namespace Go.AL.Rl
open Go Go.AL Go.Proofs
variable {γ : Nat → Option AV}
set_option maxRecDepth 100000

/-! ### Only -/
theorem ronly_no (n : Int) (rows : List (BitVec 64)) (f t : BitVec 64) (h : ¬ Fits n rows) : Pure Tryd.prog γ false 46 [encRel n rows, .u fun _ => f, .u fun _ => t] (encRel 0 []) := by
  refine Pure.go (ty := ty) ty_eq mo Tryd.func46 rfl Tryd.ntmps46 Tryd.results46 Tryd.call46 (by simp) fun P C CQ D W F E hF => ?_
  cbv
  refine E.c (SCalls.of_le (rcheck_ok n rows) ?_ ?_)
  · cbv; all_goals simp
  cbv
  refine br_t (by simp [checkM, h]) ?_
  cbv
  refine hF ?_
  cbv
  simp [us]
theorem ronly_yes (n : Nat) (rows : List (BitVec 64)) (f t : BitVec 64) (hf : Fits n rows) : Pure Tryd.prog γ false 46 [encRel n rows, .u fun _ => f, .u fun _ => t] (encRel n (onlyM n rows f t)) := by
  obtain ⟨la, e1, hla, hl64⟩ := fits_len hf
  obtain rfl : n = la := by omega
  refine Pure.go (ty := ty) ty_eq mo Tryd.func46 rfl Tryd.ntmps46 Tryd.results46 Tryd.call46 (by simp) fun P C CQ D W F E hF => ?_
  cbv
  refine E.c (SCalls.of_le (rcheck_ok n rows) ?_ ?_)
  · cbv; all_goals simp
  cbv
  refine br_f (by simp [checkM, hf]) ?_
  cbv
  refine E.c (SCalls.of_owns (rnone_in (n : Int) (by omega) (by omega)) ?_ ?_)
  · cbv; all_goals simp
  cbv
  simp only [Int.toNat_natCast, nc]
  refine E.loop (ι := Nat) (fun i => i ≤ n) (fun i => n - i) (fun i => [(8, .i fun _ => (i : Int))])
    (fun i => [.box (encRel n rows), .box (.agg [.lit 0, .nils]), .any, .run 0 1 fun _ => us (tab n fun j => if j < i then (if f.getLsbD j then rows.getD j 0 &&& t else 0#64) else 0#64), .box (.agg [.i fun _ => (n : Int), .sl 3 0 1 (fun _ => 0) fun _ => n])])
    0 rfl (fun _ => rfl) (Nat.zero_le _) ?_ fun i hi I hI => ?_
  · cbv
    simp [← tab_zero]
  cbv
  refine ⟨fun _ h4 => ?_, fun _ h4 => ?_⟩
  · cbv
    have hii : i < n := by simp at h4; omega
    have hsh : (BitVec.ofInt 64 (i : Int)).toNat = i := by simp; omega
    have hbit := cnt_full_bits f i
    refine ⟨fun _ => by simp, ?_⟩
    simp only [nc, hsh]
    refine ⟨fun _ h5 => ?_, fun _ h5 => ?_⟩
    · cbv
      have hb : f.getLsbD i = true := hbit.1 (by simpa using h5)
      refine E.d 10 (by kernel_rfl) ?_
      cbv
      refine ⟨fun _ => by simp; omega, fun _ => by rw [nct, us_get _ i (by omega)]; rfl, fun _ => by simp; omega, fun _ => ⟨rfl, by simp; omega, by rw [Nat.zero_add, nct, us_get _ i (by simpa using hii)]; rfl⟩, ?_⟩
      refine hI (i + 1) (by omega) (by omega) ?_
      cbv
      clear hI
      simp only [Nat.zero_add, nct, us_get _ i (show i < (tab n _).length by simpa using hii), us_get _ i (show i < rows.length by omega), at_u, upd_u, us_set, us_of, nc]
      simp only [implies_true, and_true, true_and, forall_const]
      refine ⟨w64_of (by omega) (by omega), congrArg us (tab_set i _ hii (by simp [hb]) fun j _ hj => ?_)⟩
      by_cases h : j < i
      · simp [h, show j < i + 1 by omega]
      · rw [if_neg h, if_neg (by omega)]
    · cbv
      have hb : f.getLsbD i = false := by
        cases hx : f.getLsbD i with
        | false => rfl
        | true => exact absurd (hbit.2 hx) (by simpa using h5)
      refine hI (i + 1) (by omega) (by omega) ?_
      cbv
      clear hI
      simp
      refine ⟨w64_of (by omega) (by omega), congrArg us (tab_congr fun j _ => ?_)⟩
      by_cases e : j = i
      · subst e; simp [hb]
      · by_cases h : j < i
        · simp [h, show j < i + 1 by omega]
        · rw [if_neg h, if_neg (by omega)]
  · cbv
    refine hF ?_
    cbv
    clear hI
    have hml : i = n := by simp at h4; omega
    subst hml
    simp [onlyM]
    rw [List.take_of_length_le (by simp)]
    exact congrArg (fun x => (us x).l) (tab_congr fun j hj => by simp [hj, show j < 64 by omega])

/-! ### Image -/
theorem reachTo_len {n : Int} {rows : List (BitVec 64)} (hf : Fits n rows) (f : BitVec 64) : reachTo rows.length rows f = imageM n rows f := by
  apply BitVec.eq_of_getLsbD_eq
  intro j hj
  rw [Bool.eq_iff_iff, bit_reachTo, bit_image hf]
  constructor
  · rintro ⟨p, _, h⟩; exact ⟨p, h⟩
  · rintro ⟨p, h1, h2⟩; exact ⟨p, (fits_bits hf h2).1, h1, h2⟩
theorem rimage_ok (n : Int) (rows : List (BitVec 64)) (f : BitVec 64) (hn : n ≤ 9223372036854775807) :
    Pure Tryd.prog γ false 34 [encRel n rows, .u fun _ => f] (.u fun _ => imageM n rows f) := by
  by_cases hf : Fits n rows
  · obtain ⟨la, rfl, hla, hl64⟩ := fits_len hf
    rw [← reachTo_len hf, hla]
    refine Pure.go (ty := ty) ty_eq mo Tryd.func34 rfl Tryd.ntmps34 Tryd.results34 Tryd.call34 (by simp) fun P C CQ D W F E hF => ?_
    cbv
    refine E.loop (ι := Nat) (fun i => i ≤ la) (fun i => la - i) (fun i => [(5, .u fun _ => reachTo i rows f), (6, .i fun _ => (i : Int))]) (fun i => [.box (encRel la rows)]) 0 rfl (fun _ => rfl) (Nat.zero_le _) ?_ fun i hi I hI => ?_
    · cbv
      simp [reachTo]
    cbv
    refine ⟨fun _ h4 => ?_, fun _ h4 => ?_⟩
    · cbv
      have hii : i < la := by simp at h4; omega
      have hsh : (BitVec.ofInt 64 (i : Int)).toNat = i := by simp; omega
      have hbit := cnt_full_bits f i
      refine E.c (SCalls.of_le (rcheck_ok la rows) ?_ ?_)
      · cbv; all_goals simp
      cbv
      refine br_t (by simp [checkM, hf]) ?_
      cbv
      refine ⟨fun _ => by simp, ?_⟩
      simp only [nc, hsh]
      refine ⟨fun _ h5 => ?_, fun _ h5 => ?_⟩
      · cbv
        refine ⟨fun _ => by simp; omega, fun _ => by rw [nct, us_get _ i (by omega)]; rfl, ?_⟩
        refine hI (i + 1) (by omega) (by omega) ?_
        cbv
        clear hI
        simp only [nct, us_get _ i (show i < rows.length by omega), at_u, nc]
        simp only [implies_true, and_true, true_and, forall_const]
        refine ⟨?_, w64_of (by omega) (by omega)⟩
        rw [reachTo_succ, if_pos (hbit.1 (by simpa using h5))]
      · cbv
        refine hI (i + 1) (by omega) (by omega) ?_
        cbv
        clear hI
        simp
        refine ⟨?_, w64_of (by omega) (by omega)⟩
        rw [reachTo_succ, if_neg (fun h => absurd (hbit.2 h) (by simpa using h5))]
    · cbv
      refine hF ?_
      cbv
      clear hI
      intro _
      have hml : i = la := by simp at h4; omega
      rw [hml]
  · refine Pure.go (ty := ty) ty_eq mo Tryd.func34 rfl Tryd.ntmps34 Tryd.results34 Tryd.call34 (by simp) fun P C CQ D W F E hF => ?_
    cbv
    refine E.loop (ι := Unit) (fun _ => True) (fun _ => 0) (fun _ => [(5, .u fun _ => 0#64), (6, .i fun _ => 0)]) (fun i => [.box (encRel n rows)]) () rfl (fun _ => rfl) trivial ?_ fun i hi I hI => ?_
    · cbv
      simp
    cbv
    refine ⟨fun _ h4 => ?_, fun _ h4 => ?_⟩
    · cbv
      refine E.c (SCalls.of_le (rcheck_ok n rows) ?_ ?_)
      · cbv; all_goals simp
      cbv
      refine br_f (by simp [checkM, hf]) ?_
      cbv
      refine hF ?_
      cbv
      simp [imageM, hf]
    · cbv
      refine hF ?_
      cbv
      simp [imageM, hf]

/-! ### Same -/
theorem rsame_ok (n m : Int) (a b : List (BitVec 64)) (hb : b.length ≤ 9223372036854775807) : Pure Tryd.prog γ false 35 [encRel n a, encRel m b] (.b fun _ => decide (Fits n a ∧ n = m ∧ a = b)) := by
  refine Pure.go (ty := ty) ty_eq mo Tryd.func35 rfl Tryd.ntmps35 Tryd.results35 Tryd.call35 (by simp) fun P C CQ D W F E hF => ?_
  cbv
  refine ⟨fun _ h0 => ?_, fun _ h0 => ?_⟩
  · cbv
    refine hF ?_
    cbv
    intro _
    simp at h0 ⊢
    exact fun _ h => absurd h h0
  cbv
  refine ⟨fun _ h1 => ?_, fun _ h1 => ?_⟩
  · cbv
    refine hF ?_
    cbv
    intro _
    simp at h1 ⊢
    rintro - - rfl
    omega
  cbv
  obtain rfl : n = m := by simpa using h0
  have hl : a.length = b.length := by simp at h1; omega
  refine E.loop (ι := Nat) (fun i => i ≤ a.length ∧ ∀ k < i, a.getD k 0 = b.getD k 0) (fun i => a.length - i) (fun i => [(5, .i fun _ => (i : Int))]) (fun _ => [.box (encRel n a), .box (encRel n b)]) 0 rfl (fun _ => rfl) ⟨Nat.zero_le _, by simp⟩ ?_ fun i hi I hI => ?_
  · cbv
    simp
  cbv
  refine ⟨fun _ h4 => ?_, fun _ h4 => ?_⟩
  · cbv
    have hii : i < a.length := by simp at h4; omega
    refine E.d 11 (by kernel_rfl) ?_
    cbv
    refine ⟨fun _ => by simp; omega, fun _ => by rw [nct, us_get _ i (by omega)]; rfl, fun _ => by simp; omega, fun _ => by rw [nct, us_get _ i (by omega)]; rfl, ?_⟩
    simp only [nct, us_get a i (by omega), us_get b i (by omega), at_u]
    refine ⟨fun _ h5 => ?_, fun _ h5 => ?_⟩
    · cbv
      refine hF ?_
      cbv
      clear hI
      intro _
      simp at h5 ⊢
      rintro - rfl
      simp at h5
    · cbv
      refine hI (i + 1) ⟨by omega, fun k hk => ?_⟩ (by omega) ?_
      · rcases Nat.lt_or_ge k i with h | h
        · exact hi.2 k h
        · obtain rfl : k = i := by omega
          simpa using h5
      · cbv
        clear hI
        simp
        exact w64_of (by omega) (by omega)
  · cbv
    clear hI
    have : i = a.length := by simp at h4; omega
    have hab : a = b := List.ext_getElem (by omega) fun k h1 h2 => by
      have := hi.2 k (by omega)
      simpa [h1, h2] using this
    subst hab
    refine E.c (SCalls.of_le (rcheck_ok n a) ?_ ?_)
    · cbv; all_goals simp
    cbv
    refine hF ?_
    cbv
    intro _
    by_cases hf : Fits n a <;> simp [checkM, hf]

/-! ### Pairs -/
theorem kitPairs_ok (r q : List (Int × Int)) (hr : r.length < 4611686018427387904) : Pure Tryd.prog γ false 36 [.vs 2 fun _ => ps r, .vs 2 fun _ => ps q] (.b fun _ => decide (r = q)) := by
  refine Pure.go (ty := ty) ty_eq mo Tryd.func36 rfl Tryd.ntmps36 Tryd.results36 Tryd.call36 (by simp) fun P C CQ D W F E hF => ?_
  cbv
  refine ⟨fun _ h1 => ?_, fun _ h1 => ?_⟩
  · cbv
    refine hF ?_
    cbv
    intro _
    simp at h1 ⊢
    rintro rfl
    omega
  cbv
  have e1 : r.length = q.length := by simp at h1; omega
  refine E.loop (ι := Nat) (fun i => i ≤ r.length ∧ ∀ k < i, r.getD k (0, 0) = q.getD k (0, 0)) (fun i => r.length - i) (fun i => [(5, .i fun _ => (i : Int))]) (fun _ => []) 0 rfl (fun _ => rfl) ⟨Nat.zero_le _, by simp⟩ ?_ fun i hi I hI => ?_
  · cbv
    simp
  cbv
  refine ⟨fun _ h2 => ?_, fun _ h2 => ?_⟩
  · cbv
    have hlt : i < r.length := by simpa using h2
    refine E.d 9 (by kernel_rfl) ?_
    cbv
    refine ⟨fun _ => by simp; omega, fun _ => by rw [nct, ps_get _ i hlt]; rfl, fun _ => by simp; omega, fun _ => by rw [nct, ps_get _ i (by omega)]; rfl, ?_⟩
    simp only [nct, ps_get r i hlt, ps_get q i (by omega), at_p0, at_p1]
    refine ⟨fun _ h3 => ?_, fun _ h3 => ?_⟩
    · cbv
      refine hF ?_
      cbv
      clear hI
      intro _
      simp at h3 ⊢
      rintro rfl
      simp at h3
    · cbv
      refine hI (i + 1) ?_ (by omega) ?_
      · refine ⟨hlt, fun k hk => ?_⟩
        rcases Nat.lt_or_ge k i with h | h
        · exact hi.2 k h
        · obtain rfl : k = i := by omega
          clear hI
          simp at h3
          exact Prod.ext (by simpa using h3.1) (by simpa using h3.2)
      · cbv
        clear hI
        simp
        exact w64_of (by omega) (by omega)
  · cbv
    refine hF ?_
    cbv
    clear hI
    intro _
    have : i = r.length := by simp at h2; omega
    simp
    refine List.ext_getElem e1 fun k h1 h2 => ?_
    have := hi.2 k (by omega)
    simpa [h1, h2] using this
end Go.AL.Rl
