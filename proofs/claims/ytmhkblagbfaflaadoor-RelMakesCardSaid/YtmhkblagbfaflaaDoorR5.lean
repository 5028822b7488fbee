import Derived.Test.YtmhkblagbfaflaaDoorR4
set_option linter.unusedVariables false
set_option linter.unusedSimpArgs false
namespace Go.AL.Rl
open Go Go.AL Go.Proofs
variable {γ : Nat → Option AV}
set_option maxRecDepth 100000

theorem relNames_ok (hγ : γ 0 = some tabAV) : Pure Tryd.prog γ false 5 [] (.b fun _ => true) := by
  refine Pure.go (ty := ty) ty_eq mo Tryd.func5 rfl Tryd.ntmps5 Tryd.results5 Tryd.call5 (by simp) fun P C CQ D W F E hF => ?_
  cbv
  refine E.c (SCalls.of_le (lives_ok hγ) ?_ ?_)
  · cbv; all_goals simp
  cbv
  refine br_t (rfl) ?_
  cbv
  refine E.c (SCalls.of_le (of_in 2 [(0, 1), (1, 0)] (by omega) (by omega) (by simp)) ?_ ?_)
  · cbv
    simp [ps]
  cbv
  refine E.c (SCalls.of_le (acyclic_ok 2 (ofTo 2 [(0, 1), (1, 0)] 2)) ?_ ?_)
  · cbv; all_goals simp
  cbv
  refine br_t (by decide +kernel) ?_
  cbv
  refine E.c (SCalls.of_le (self_in 1 (by omega)) ?_ ?_)
  · cbv; all_goals simp
  cbv
  refine E.c (SCalls.of_le (acyclic_ok 1 (selfM 1)) ?_ ?_)
  · cbv; all_goals simp
  cbv
  refine br_t (by decide +kernel) ?_
  cbv
  refine E.c (SCalls.of_le (none_ok 0 (by omega)) ?_ ?_)
  · cbv; all_goals simp
  cbv
  refine E.c (SCalls.of_le (acyclic_ok 0 (List.replicate 0 0#64)) ?_ ?_)
  · cbv; all_goals simp
  cbv
  refine br_t (by decide +kernel) ?_
  cbv
  refine E.c (SCalls.of_le (of_in 3 [(0, 1)] (by omega) (by omega) (by simp)) ?_ ?_)
  · cbv
    simp [ps]
  cbv
  refine E.c (SCalls.of_le (of_in 3 [(1, 2)] (by omega) (by omega) (by simp)) ?_ ?_)
  · cbv
    simp [ps]
  cbv
  refine E.c (SCalls.of_le (then2 hγ 3 (ofTo 3 [(0, 1)] 1) (ofTo 3 [(1, 2)] 1) (by decide +kernel) (by decide +kernel)) ?_ ?_)
  · cbv
    simp [rls]
  cbv
  refine E.c (SCalls.of_le (of_in 3 [(0, 2)] (by omega) (by omega) (by simp)) ?_ ?_)
  · cbv
    simp [ps]
  cbv
  refine E.c (SCalls.of_le (kitRel_ok 3 3 (thenM 3 [((3 : Int), ofTo 3 [(0, 1)] 1), ((3 : Int), ofTo 3 [(1, 2)] 1)]) (ofTo 3 [(0, 2)] 1) (by simp [thenM])) ?_ ?_)
  · cbv; all_goals simp
  cbv
  refine br_t (by decide +kernel) ?_
  cbv
  refine E.c (SCalls.of_le (check_ok 1 []) ?_ ?_)
  · cbv
    simp [us, LV.l]
  cbv
  refine br_t (by decide +kernel) ?_
  cbv
  refine E.c (SCalls.of_le (none_out 65 (by omega)) ?_ ?_)
  · cbv; all_goals simp
  cbv
  refine E.c (SCalls.of_le (kitRel_ok 0 0 [] [] (by simp)) ?_ ?_)
  · cbv
    simp [us, LV.l]
  cbv
  refine hF ?_
  cbv
  simp
end Go.AL.Rl

namespace Go.AL.Rl
open Go Go.AL Go.Proofs
variable {γ : Nat → Option AV}
set_option maxRecDepth 100000

/-! ### cantileverref01: None, Self, Check, Has, Of -/
theorem rnone_in (n : Int) (h0 : 0 ≤ n) (h1 : n ≤ 64) : Owns Tryd.prog γ 17 [.i fun _ => n] (.agg [.i fun _ => n, .sl 1 0 1 (fun _ => 0) fun _ => n.toNat]) [.any, .run 0 1 fun _ => us (List.replicate n.toNat 0#64)] := by
  refine Owns.go (ty := ty) ty_eq mo Tryd.func17 rfl Tryd.ntmps17 Tryd.results17 Tryd.call17 (by simp) fun P C CQ D W F E hF => ?_
  cbv
  refine br_f (by simp; omega) ?_
  cbv
  refine br_f (by simp; omega) ?_
  cbv
  refine ⟨fun _ => by simp; omega, ?_⟩
  cbv
  refine hF ?_ ?_
  · cbv; simp
  · cbv; simp [us]
theorem rnone_out (n : Int) (h : ¬ (0 ≤ n ∧ n ≤ 64)) : Pure Tryd.prog γ false 17 [.i fun _ => n] (encRel 0 []) := by
  refine Pure.go (ty := ty) ty_eq mo Tryd.func17 rfl Tryd.ntmps17 Tryd.results17 Tryd.call17 (by simp) fun P C CQ D W F E hF => ?_
  cbv
  refine ⟨fun _ h0 => ?_, fun _ h0 => ?_⟩
  · cbv
    refine hF ?_
    cbv
    simp [us]
  cbv
  refine br_t (by simp at h0 ⊢; omega) ?_
  cbv
  refine hF ?_
  cbv
  simp [us]
theorem rnone_ok (n : Nat) (h : n ≤ 64) : Pure Tryd.prog γ false 17 [.i fun _ => (n : Int)] (encRel n (List.replicate n 0#64)) :=
  Pure.of_owns (rnone_in (n : Int) (by omega) (by omega)) (by
    cbv
    simp
    rw [List.take_of_length_le (by simp)])
theorem rself_in (n : Nat) (h : n ≤ 64) : Pure Tryd.prog γ false 19 [.i fun _ => (n : Int)] (encRel n (selfM n)) := by
  refine Pure.go (ty := ty) ty_eq mo Tryd.func19 rfl Tryd.ntmps19 Tryd.results19 Tryd.call19 (by simp) fun P C CQ D W F E hF => ?_
  cbv
  refine E.c (SCalls.of_owns (rnone_in (n : Int) (by omega) (by omega)) ?_ ?_)
  · cbv; all_goals simp
  cbv
  simp only [Int.toNat_natCast, nc]
  refine E.loop (ι := Nat) (fun m => m ≤ n) (fun m => n - m) (fun m => [(4, .i fun _ => (m : Int))])
    (fun m => [.box (.agg [.lit 0, .nils]), .any, .run 0 1 fun _ => us (tab n fun j => if j < m then 1#64 <<< j else 0#64), .box (.agg [.i fun _ => (n : Int), .sl 2 0 1 (fun _ => 0) fun _ => n])])
    0 rfl (fun _ => rfl) (Nat.zero_le _) ?_ fun m hm I hI => ?_
  · cbv
    simp [← tab_zero]
  cbv
  refine ⟨fun _ h4 => ?_, fun _ h4 => ?_⟩
  · cbv
    have hmm : m < n := by simp at h4; omega
    have hsh : (BitVec.ofInt 64 (m : Int)).toNat = m := by simp; omega
    refine ⟨fun _ => by simp; omega, fun _ => ⟨rfl, by simp; omega, by rw [Nat.zero_add, nct, us_get _ m (by simpa using hmm)]; rfl⟩, ?_⟩
    refine hI (m + 1) (by omega) (by omega) ?_
    cbv
    clear hI
    simp only [Nat.zero_add, nct, us_get _ m (show m < (tab n _).length by simpa using hmm), upd_u, us_set, us_of, nc, hsh]
    simp only [implies_true, and_true, true_and, forall_const]
    refine ⟨w64_of (by omega) (by omega), congrArg us (tab_set m _ hmm (by simp) fun j _ hj => ?_)⟩
    by_cases h : j < m <;> simp [h] <;> omega
  · cbv
    refine hF ?_
    cbv
    clear hI
    have hml : m = n := by simp at h4; omega
    subst hml
    simp [selfM]
    rw [List.take_of_length_le (by simp)]
    exact congrArg (fun x => (us x).l) (tab_congr fun i hi => by simp [hi])
theorem rself_out (n : Int) (h : ¬ (0 ≤ n ∧ n ≤ 64)) : Pure Tryd.prog γ false 19 [.i fun _ => n] (encRel 0 []) := by
  refine Pure.go (ty := ty) ty_eq mo Tryd.func19 rfl Tryd.ntmps19 Tryd.results19 Tryd.call19 (by simp) fun P C CQ D W F E hF => ?_
  cbv
  refine E.c (SCalls.of_le (rnone_out n h) ?_ ?_)
  · cbv; all_goals simp
  cbv
  refine E.loop (ι := Unit) (fun _ => True) (fun _ => 0) (fun _ => [(4, .i fun _ => 0)]) (fun _ => [.box (.agg [.lit 0, .nils]), .box (encRel 0 [])]) () rfl (fun _ => rfl) trivial ?_ fun m hm I hI => ?_
  · cbv
    simp
  cbv
  refine br_f (by simp) ?_
  cbv
  refine hF ?_
  cbv
  simp
theorem self_out (n : Int) (h : ¬ (0 ≤ n ∧ n ≤ 64)) : Pure Tryd.prog γ false 18 [.i fun _ => n] (encRel 0 []) := by
  refine Pure.go (ty := ty) ty_eq mo Tryd.func18 rfl Tryd.ntmps18 Tryd.results18 Tryd.call18 (by simp) fun P C CQ D W F E hF => ?_
  cbv
  refine E.c (SCalls.of_le (none_out n h) ?_ ?_)
  · cbv; all_goals simp
  cbv
  refine E.loop (ι := Unit) (fun _ => True) (fun _ => 0) (fun _ => [(10, .i fun _ => 0)]) (fun _ => [.box (.agg [.lit 0, .nils]), .box (encRel 0 [])]) () rfl (fun _ => rfl) trivial ?_ fun m hm I hI => ?_
  · cbv
    simp
  cbv
  refine br_f (by simp [us, LV.l]) ?_
  cbv
  refine hF ?_
  cbv
  simp

theorem rcheck_ok (n : Int) (rows : List (BitVec 64)) : Pure Tryd.prog γ false 20 [encRel n rows] (.i fun _ => checkM n rows) := by
  refine Pure.go (ty := ty) ty_eq mo Tryd.func20 rfl Tryd.ntmps20 Tryd.results20 Tryd.call20 (by simp) fun P C CQ D W F E hF => ?_
  cbv
  refine ⟨fun _ h0 => ?_, fun _ h0 => ?_⟩
  · cbv
    refine hF ?_
    cbv
    simp at h0
    intro _
    simp [checkM, Fits]; omega
  cbv
  refine ⟨fun _ h1 => ?_, fun _ h1 => ?_⟩
  · cbv
    refine hF ?_
    cbv
    simp at h0 h1
    intro _
    simp [checkM, Fits]; omega
  cbv
  refine ⟨fun _ h2 => ?_, fun _ h2 => ?_⟩
  · cbv
    refine hF ?_
    cbv
    simp at h0 h1 h2
    intro _
    simp [checkM, Fits]; omega
  cbv
  obtain ⟨la, rfl⟩ : ∃ la : Nat, n = la := ⟨n.toNat, by simp at h0; omega⟩
  have hl64 : la ≤ 64 := by simp at h1; omega
  have hla : rows.length = la := by simp at h2; omega
  clear h0 h1 h2
  have bad : ∀ i j, la ≤ j → bit rows i j = true → checkM la rows = 2 := fun i j h1 h2 => by
    have : ¬ Fits la rows := fun hf => by have := (fits_bits hf h2).2; omega
    simp [checkM, this]
  refine E.loop (ι := Nat) (fun i => i ≤ la ∧ ∀ k < i, ∀ j, la ≤ j → bit rows k j = false) (fun i => la - i) (fun i => [(3, .i fun _ => (i : Int))]) (fun _ => [.box (encRel la rows)]) 0 rfl (fun _ => rfl) ⟨Nat.zero_le _, by simp⟩ ?_ fun i hi I hI => ?_
  · cbv
    simp
  cbv
  refine ⟨fun _ h3 => ?_, fun _ h3 => ?_⟩
  · cbv
    have hii : i < la := by simp at h3; omega
    refine E.loop (ι := Nat) (fun j => la ≤ j ∧ j ≤ 64 ∧ ∀ k < j, la ≤ k → bit rows i k = false) (fun j => 64 - j) (fun j => [(4, .i fun _ => (j : Int))]) (fun _ => [.box (encRel la rows)]) la rfl (fun _ => rfl) ⟨Nat.le_refl _, hl64, fun k h1 h2 => by omega⟩ ?_ fun j hj I2 hI2 => ?_
    · cbv
      simp
    cbv
    refine ⟨fun _ h4 => ?_, fun _ h4 => ?_⟩
    · cbv
      have hjj : j < 64 := by simp at h4; omega
      have hsh : (BitVec.ofInt 64 (j : Int)).toNat = j := by simp; omega
      refine ⟨fun _ => by simp; omega, fun _ => by rw [nct, us_get _ i (by omega)]; rfl, fun _ => by simp, ?_⟩
      simp only [nct, us_get _ i (show i < rows.length by omega), at_u, nc, hsh]
      have hbit := cnt_full_bits (rows.getD i 0) j
      refine ⟨fun _ h5 => ?_, fun _ h5 => ?_⟩
      · cbv
        refine hF ?_
        cbv
        intro _
        exact (bad i j hj.1 (hbit.1 (by simpa using h5))).symm
      · cbv
        refine hI2 (j + 1) ⟨by omega, by omega, fun k h1 h2 => ?_⟩ (by omega) ?_
        · by_cases e : k = j
          · subst e
            cases hb : bit rows i k with
            | false => rfl
            | true => exact absurd (hbit.2 hb) (by simpa using h5)
          · exact hj.2.2 k (by omega) h2
        · cbv
          clear hI hI2
          simp
          exact w64_of (by omega) (by omega)
    · cbv
      refine hI (i + 1) ⟨by omega, fun k hk j' hj' => ?_⟩ (by omega) ?_
      · by_cases e : k = i
        · subst e
          have hj64 : j = 64 := by simp at h4; omega
          by_cases h64 : j' < 64
          · exact hj.2.2 j' (by omega) hj'
          · unfold bit; exact BitVec.getLsbD_of_ge _ _ (by omega)
        · exact hi.2 k (by omega) j' hj'
      · cbv
        clear hI hI2
        simp
        exact w64_of (by omega) (by omega)
  · cbv
    refine hF ?_
    cbv
    clear hI
    intro _
    have : i = la := by simp at h3; omega
    subst this
    have : Fits i rows := fits_mk hl64 hla fun k j hb => by
      rcases Nat.lt_or_ge j i with h | h
      · exact h
      · rcases Nat.lt_or_ge k i with h' | h'
        · rw [hi.2 k h' j h] at hb; cases hb
        · rw [bit_out (by omega)] at hb; cases hb
    simp [checkM, this]

theorem rhas_ok (n : Int) (rows : List (BitVec 64)) (i j : Int) : Pure Tryd.prog γ false 22 [encRel n rows, .i fun _ => i, .i fun _ => j] (.b fun _ => hasM n rows i j) := by
  refine Pure.go (ty := ty) ty_eq mo Tryd.func22 rfl Tryd.ntmps22 Tryd.results22 Tryd.call22 (by simp) fun P C CQ D W F E hF => ?_
  cbv
  refine E.c (SCalls.of_le (rcheck_ok n rows) ?_ ?_)
  · cbv; all_goals simp
  cbv
  by_cases hf : Fits n rows
  case neg =>
    refine br_f (by simp [checkM, hf]) ?_
    cbv
    refine hF ?_
    cbv
    simp [hasM, hf]
  refine br_t (by simp [checkM, hf]) ?_
  cbv
  refine ⟨fun _ h1 => ?_, fun _ h1 => ?_⟩
  rotate_left
  · cbv
    refine hF ?_
    cbv
    intro _
    simp at h1
    simp [hasM]; omega
  cbv
  refine ⟨fun _ h2 => ?_, fun _ h2 => ?_⟩
  rotate_left
  · cbv
    refine hF ?_
    cbv
    intro _
    simp at h1 h2
    simp [hasM]; omega
  cbv
  refine ⟨fun _ h3 => ?_, fun _ h3 => ?_⟩
  rotate_left
  · cbv
    refine hF ?_
    cbv
    intro _
    simp at h1 h2 h3
    simp [hasM]; omega
  cbv
  refine ⟨fun _ h4 => ?_, fun _ h4 => ?_⟩
  rotate_left
  · cbv
    refine hF ?_
    cbv
    intro _
    simp at h1 h2 h3 h4
    simp [hasM]; omega
  cbv
  obtain ⟨len, rfl, hl, hl2⟩ := fits_len hf
  simp at h1 h2 h3 h4
  obtain ⟨p, rfl⟩ : ∃ p : Nat, i = p := ⟨i.toNat, by omega⟩
  obtain ⟨q, rfl⟩ : ∃ q : Nat, j = q := ⟨j.toNat, by omega⟩
  have hp : p < rows.length := by omega
  have h5 : (p : Int) < len ∧ (q : Int) < len := ⟨h2, h4⟩
  have hsh : (BitVec.ofInt 64 (q : Int)).toNat = q := by simp; omega
  refine ⟨fun _ => by simp; omega, fun _ => by rw [nct, us_get _ p hp]; rfl, fun _ => by simp, ?_⟩
  cbv
  refine hF ?_
  cbv
  intro _
  simp only [nct, us_get _ p hp, at_u, nc, hsh]
  have hb := cnt_full_bits (rows.getD p 0) q
  simp only [hasM, hf, h5, Int.toNat_natCast]
  unfold bit
  simp
  rw [Bool.eq_iff_iff, decide_eq_true_iff]
  simpa using hb

theorem rof_in (n : Int) (l : List (Int × Int)) (h0 : 0 ≤ n) (h1 : n ≤ 64) (hl : l.length < 4611686018427387904) : Pure Tryd.prog γ false 15 [.i fun _ => n, .vs 2 fun _ => ps l] (encRel n (ofTo n l l.length)) := by
  refine Pure.go (ty := ty) ty_eq mo Tryd.func15 rfl Tryd.ntmps15 Tryd.results15 Tryd.call15 (by simp) fun P C CQ D W F E hF => ?_
  cbv
  refine E.c (SCalls.of_owns (rnone_in n h0 h1) ?_ ?_)
  · cbv; all_goals simp
  cbv
  obtain ⟨len, hlen⟩ : ∃ len : Nat, n = len := ⟨n.toNat, by omega⟩
  subst hlen
  simp only [Int.toNat_natCast, nc]
  have hln : len ≤ 64 := by omega
  refine E.loop (ι := Nat) (fun m => m ≤ l.length) (fun m => l.length - m) (fun m => [(6, .i fun _ => (m : Int))])
    (fun m => [.box (.agg [.lit 0, .nils]), .any, .run 0 1 fun _ => us (ofTo len l m), .box (.agg [.i fun _ => len, .sl 2 0 1 (fun _ => 0) fun _ => len])])
    0 rfl (fun _ => rfl) (Nat.zero_le _) ?_ fun m hm I hI => ?_
  · cbv
    simp [ofTo]
  cbv
  refine ⟨fun _ h4 => ?_, fun _ h4 => ?_⟩
  · cbv
    have hmr : m < l.length := by simp at h4; omega
    refine E.d 12 (by kernel_rfl) ?_
    cbv
    refine ⟨fun _ => by simp; omega, fun _ => by rw [nct, ps_get _ m hmr]; rfl, fun _ => by simp; omega, fun _ => by rw [nct, ps_get _ m hmr]; rfl, ?_⟩
    have hs := ofTo_succ len l m hmr
    simp only [nct, ps_get _ m hmr, at_p0, at_p1]
    generalize l.getD m (0, 0) = p at hs ⊢
    have hlw : (ofTo len l m).length = len := by rw [ofTo_len]; simp
    have no : ¬ (0 ≤ p.1 ∧ p.1 < len ∧ 0 ≤ p.2 ∧ p.2 < len) → ofTo len l (m + 1) = ofTo len l m := fun h => by rw [hs, ofStep, if_neg h]
    refine ⟨fun _ h5 => ?_, fun _ h5 => ?_⟩
    rotate_left
    · cbv
      refine hI (m + 1) (by omega) (by omega) ?_
      cbv
      clear hI
      simp at h5
      simp
      exact ⟨w64_of (by omega) (by omega), by rw [no (by omega)]⟩
    cbv
    simp at h5
    refine ⟨fun _ h6 => ?_, fun _ h6 => ?_⟩
    rotate_left
    · cbv
      refine hI (m + 1) (by omega) (by omega) ?_
      cbv
      clear hI
      simp at h6
      simp
      refine ⟨w64_of (by omega) (by omega), ?_⟩
      simp only [nc] at no
      rw [no (fun h => absurd h.2.1 (by simpa using h6))]
    cbv
    simp at h6
    refine ⟨fun _ h7 => ?_, fun _ h7 => ?_⟩
    rotate_left
    · cbv
      refine hI (m + 1) (by omega) (by omega) ?_
      cbv
      clear hI
      simp at h7
      simp
      exact ⟨w64_of (by omega) (by omega), by rw [no (by omega)]⟩
    cbv
    simp at h7
    refine ⟨fun _ h8 => ?_, fun _ h8 => ?_⟩
    rotate_left
    · cbv
      refine hI (m + 1) (by omega) (by omega) ?_
      cbv
      clear hI
      simp at h8
      simp
      refine ⟨w64_of (by omega) (by omega), ?_⟩
      simp only [nc] at no
      rw [no (fun h => absurd h.2.2.2 (by simpa using h8))]
    cbv
    simp at h8
    refine E.d 12 (by kernel_rfl) ?_
    cbv
    simp only [nc] at hlw h5 h6 h7 h8
    have hp : p.1.toNat < (ofTo len l m).length := by omega
    have hsh : (BitVec.ofInt 64 p.2).toNat = p.2.toNat := by simp; omega
    refine ⟨fun _ => by simp only [nc]; omega, fun _ => ⟨rfl, by simp; omega⟩, fun _ => by rw [Nat.zero_add, us_get _ _ hp]; rfl, fun _ => by simp only [nc]; omega, fun _ => ⟨rfl, by simp; omega, by rw [Nat.zero_add, us_get _ _ hp]; rfl⟩, ?_⟩
    refine hI (m + 1) (by omega) (by omega) ?_
    cbv
    clear hI
    simp only [nc] at hs h6 h8
    simp only [Nat.zero_add, nc, us_get _ _ hp, at_u, upd_u, us_set, us_of, hsh]
    simp only [implies_true, and_true, true_and, forall_const]
    refine ⟨w64_of (by omega) (by omega), ?_⟩
    rw [hs, ofStep, if_pos ⟨h5, h6, h7, h8⟩]
    rfl
  · cbv
    refine hF ?_
    cbv
    clear hI
    have hml : m = l.length := by simp at h4; omega
    have hlw : (ofTo len l l.length).length = len := by rw [ofTo_len]; simp
    simp [hml]
    exact ⟨by omega, by rw [List.take_of_length_le (by simp; omega)]⟩
theorem rof_out (n : Int) (l : List (Int × Int)) (hn : ¬ (0 ≤ n ∧ n ≤ 64)) (hl : l.length < 4611686018427387904) : Pure Tryd.prog γ false 15 [.i fun _ => n, .vs 2 fun _ => ps l] (encRel 0 []) := by
  refine Pure.go (ty := ty) ty_eq mo Tryd.func15 rfl Tryd.ntmps15 Tryd.results15 Tryd.call15 (by simp) fun P C CQ D W F E hF => ?_
  cbv
  refine E.c (SCalls.of_le (rnone_out n hn) ?_ ?_)
  · cbv; all_goals simp
  cbv
  refine E.loop (ι := Nat) (fun m => m ≤ l.length) (fun m => l.length - m) (fun m => [(6, .i fun _ => (m : Int))])
    (fun m => [.box (.agg [.lit 0, .nils]), .box (encRel 0 [])])
    0 rfl (fun _ => rfl) (Nat.zero_le _) ?_ fun m hm I hI => ?_
  · cbv
    simp
  cbv
  refine ⟨fun _ h4 => ?_, fun _ h4 => ?_⟩
  · cbv
    have hmr : m < l.length := by simp at h4; omega
    refine E.d 12 (by kernel_rfl) ?_
    cbv
    refine ⟨fun _ => by simp; omega, fun _ => by rw [nct, ps_get _ m hmr]; rfl, fun _ => by simp; omega, fun _ => by rw [nct, ps_get _ m hmr]; rfl, ?_⟩
    simp only [nct, ps_get _ m hmr, at_p0, at_p1]
    generalize l.getD m (0, 0) = p
    refine ⟨fun _ h5 => ?_, fun _ h5 => ?_⟩
    · cbv
      simp at h5
      refine br_f (by simp; omega) ?_
      cbv
      refine hI (m + 1) (by omega) (by omega) ?_
      cbv
      clear hI
      simp
      exact w64_of (by omega) (by omega)
    · cbv
      refine hI (m + 1) (by omega) (by omega) ?_
      cbv
      clear hI
      simp
      exact w64_of (by omega) (by omega)
  · cbv
    refine hF ?_
    cbv
    simp
end Go.AL.Rl

namespace Go.AL.Rl
open Go Go.AL Go.Proofs
set_option maxRecDepth 100000
section
variable {γ : Nat → Option AV}
theorem relMakes_ok (hγ : γ 0 = some tabAV) (n : Int) (l : List (Int × Int)) (m : Int) (rows : List (BitVec 64)) (i j : Int) : Pure Tryd.prog γ false 4 [.i fun _ => n, .vs 2 fun _ => ps l, encRel m rows, .i fun _ => i, .i fun _ => j] (.b fun _ => true) := by
  refine Pure.go (ty := ty) ty_eq mo Tryd.func4 rfl Tryd.ntmps4 Tryd.results4 Tryd.call4 (by simp) fun P C CQ D W F E hF => ?_
  cbv
  refine E.c (SCalls.of_le (lives_ok hγ) ?_ ?_)
  · cbv; all_goals simp
  cbv
  refine br_f (rfl) ?_
  cbv
  refine ⟨fun _ h0 => ?_, fun _ h0 => ?_⟩
  · cbv
    refine hF ?_
    cbv
    simp
  cbv
  have hl : l.length < 4611686018427387904 := by simp at h0; omega
  by_cases hn : 0 ≤ n ∧ n ≤ 64
  · obtain ⟨k, rfl⟩ : ∃ k : Nat, n = k := ⟨n.toNat, by omega⟩
    have hk : k ≤ 64 := by omega
    refine E.d 40 (by kernel_rfl) ?_
    cbv
    refine E.q (QCalls.of_le (of_in k l hn.1 hn.2 hl) ?_ ?_)
    · cbv; all_goals simp
    cbv
    refine E.q (QCalls.of_le (rof_in k l hn.1 hn.2 hl) ?_ ?_)
    · cbv; all_goals simp
    cbv
    refine E.q (QCalls.of_le (kitRel_ok k k (ofTo k l l.length) (ofTo k l l.length) (by rw [ofTo_len]; simp; omega)) ?_ ?_)
    · cbv; all_goals simp
    cbv
    refine br_t (by simp) ?_
    cbv
    refine E.q (QCalls.of_le (none_ok k (by omega)) ?_ ?_)
    · cbv; all_goals simp
    cbv
    refine E.q (QCalls.of_le (rnone_ok k (by omega)) ?_ ?_)
    · cbv; all_goals simp
    cbv
    refine E.q (QCalls.of_le (kitRel_ok k k (List.replicate k 0#64) (List.replicate k 0#64) (by simp; omega)) ?_ ?_)
    · cbv; all_goals simp
    cbv
    refine br_t (by simp) ?_
    cbv
    refine E.q (QCalls.of_le (self_in k (by omega)) ?_ ?_)
    · cbv; all_goals simp
    cbv
    refine E.q (QCalls.of_le (rself_in k (by omega)) ?_ ?_)
    · cbv; all_goals simp
    cbv
    refine E.q (QCalls.of_le (kitRel_ok k k (selfM k) (selfM k) (by simp [selfM]; omega)) ?_ ?_)
    · cbv; all_goals simp
    cbv
    refine br_t (by simp) ?_
    cbv
    refine E.q (QCalls.of_le (check_ok m rows) ?_ ?_)
    · cbv; all_goals simp
    cbv
    refine E.q (QCalls.of_le (rcheck_ok m rows) ?_ ?_)
    · cbv; all_goals simp
    cbv
    refine br_t (by simp) ?_
    cbv
    refine E.q (QCalls.of_le (has_ok m rows i j) ?_ ?_)
    · cbv; all_goals simp
    cbv
    refine E.q (QCalls.of_le (rhas_ok m rows i j) ?_ ?_)
    · cbv; all_goals simp
    cbv
    refine hF ?_
    cbv
    simp
  · refine E.d 40 (by kernel_rfl) ?_
    cbv
    refine E.q (QCalls.of_le (of_out n l hn hl) ?_ ?_)
    · cbv; all_goals simp
    cbv
    refine E.q (QCalls.of_le (rof_out n l hn hl) ?_ ?_)
    · cbv; all_goals simp
    cbv
    refine E.q (QCalls.of_le (kitRel_ok 0 0 [] [] (by simp)) ?_ ?_)
    · cbv
      simp [us, LV.l]
    cbv
    refine br_t (by simp) ?_
    cbv
    refine E.q (QCalls.of_le (none_out n hn) ?_ ?_)
    · cbv; all_goals simp
    cbv
    refine E.q (QCalls.of_le (rnone_out n hn) ?_ ?_)
    · cbv; all_goals simp
    cbv
    refine E.q (QCalls.of_le (kitRel_ok 0 0 [] [] (by simp)) ?_ ?_)
    · cbv
      simp [us, LV.l]
    cbv
    refine br_t (by simp) ?_
    cbv
    refine E.q (QCalls.of_le (self_out n hn) ?_ ?_)
    · cbv; all_goals simp
    cbv
    refine E.q (QCalls.of_le (rself_out n hn) ?_ ?_)
    · cbv; all_goals simp
    cbv
    refine E.q (QCalls.of_le (kitRel_ok 0 0 [] [] (by simp)) ?_ ?_)
    · cbv
      simp [us, LV.l]
    cbv
    refine br_t (by simp) ?_
    cbv
    refine E.q (QCalls.of_le (check_ok m rows) ?_ ?_)
    · cbv; all_goals simp
    cbv
    refine E.q (QCalls.of_le (rcheck_ok m rows) ?_ ?_)
    · cbv; all_goals simp
    cbv
    refine br_t (by simp) ?_
    cbv
    refine E.q (QCalls.of_le (has_ok m rows i j) ?_ ?_)
    · cbv; all_goals simp
    cbv
    refine E.q (QCalls.of_le (rhas_ok m rows i j) ?_ ?_)
    · cbv; all_goals simp
    cbv
    refine hF ?_
    cbv
    simp
end
end Go.AL.Rl
