import Derived.Test.YtmhkblagbfaflaaDoorS1
import Derived.Test.YtmhkblagbfaflaaDoorCards
import Derived.Test.YtmhkblagbfaflaaDoorTie
set_option linter.unusedVariables false
set_option linter.unusedSimpArgs false
namespace Go.AL.Rl
open Go Go.AL Go.Proofs
variable {γ : Nat → Option AV}
set_option maxRecDepth 100000

/-! ### cantileverkit.Rel, Ints -/
theorem kitRel_ok (n m : Int) (r q : List (BitVec 64)) (hr : r.length < 4611686018427387904) : Pure Tryd.prog γ false 13 [encRel n r, encRel m q] (.b fun _ => decide (n = m ∧ r = q)) := by
  refine Pure.go (ty := ty) ty_eq mo Tryd.func13 rfl Tryd.ntmps13 Tryd.results13 Tryd.call13 (by simp) fun P C CQ D W F E hF => ?_
  cbv
  refine ⟨fun _ h0 => ?_, fun _ h0 => ?_⟩
  · cbv
    refine hF ?_
    cbv
    intro _
    simp at h0 ⊢
    simp [h0]
  cbv
  refine ⟨fun _ h1 => ?_, fun _ h1 => ?_⟩
  · cbv
    refine hF ?_
    cbv
    intro _
    simp at h1 ⊢
    rintro - rfl
    omega
  cbv
  have e0 : n = m := by simpa using h0
  have e1 : r.length = q.length := by simp at h1; omega
  refine E.loop (ι := Nat) (fun i => i ≤ r.length ∧ ∀ k < i, r.getD k 0 = q.getD k 0) (fun i => r.length - i) (fun i => [(5, .i fun _ => (i : Int))]) (fun _ => [.box (encRel n r), .box (encRel m q)]) 0 rfl (fun _ => rfl) ⟨Nat.zero_le _, by simp⟩ ?_ fun i hi I hI => ?_
  · cbv
    simp
  cbv
  refine ⟨fun _ h2 => ?_, fun _ h2 => ?_⟩
  · cbv
    have hlt : i < r.length := by simpa using h2
    refine E.d 11 (by kernel_rfl) ?_
    cbv
    refine ⟨fun _ => by simp; omega, fun _ => by rw [nct, us_get _ i hlt]; rfl, fun _ => by simp; omega, fun _ => by rw [nct, us_get _ i (by omega)]; rfl, fun _ h3 => ?_, fun _ h3 => ?_⟩
    · cbv
      refine hF ?_
      cbv
      clear hI
      simp only [nct, us_get _ i hlt, us_get q i (by omega), at_u] at h3
      intro _
      simp at h3 ⊢
      rintro - rfl
      simp at h3
    · cbv
      refine hI (i + 1) ?_ (by omega) ?_
      · clear hI
        simp only [nct, us_get _ i hlt, us_get q i (by omega), at_u] at h3
        refine ⟨hlt, fun k hk => ?_⟩
        rcases Nat.lt_or_ge k i with h | h
        · exact hi.2 k h
        · obtain rfl : k = i := by omega
          simpa using h3
      · cbv
        clear hI
        simp
        exact w64_of (by omega) (by omega)
  · cbv
    refine hF ?_
    cbv
    clear hI
    intro _
    have : i = r.length := by simp at h2; omega
    simp
    refine ⟨e0, List.ext_getElem e1 fun k h1 h2 => ?_⟩
    have := hi.2 k (by omega)
    simpa [h1, h2] using this

theorem ints_ok (r q : List Int) (hr : r.length < 4611686018427387904) : Pure Tryd.prog γ false 32 [.vs 1 fun _ => is r, .vs 1 fun _ => is q] (.b fun _ => decide (r = q)) := by
  refine Pure.go (ty := ty) ty_eq mo Tryd.func32 rfl Tryd.ntmps32 Tryd.results32 Tryd.call32 (by simp) fun P C CQ D W F E hF => ?_
  cbv
  refine ⟨fun _ h1 => ?_, fun _ h1 => ?_⟩
  · cbv
    refine hF ?_
    cbv
    intro _
    simp at h1 ⊢
    rintro rfl
    omega
  cbv
  have e1 : r.length = q.length := by simp at h1; omega
  refine E.loop (ι := Nat) (fun i => i ≤ r.length ∧ ∀ k < i, r.getD k 0 = q.getD k 0) (fun i => r.length - i) (fun i => [(5, .i fun _ => (i : Int))]) (fun _ => []) 0 rfl (fun _ => rfl) ⟨Nat.zero_le _, by simp⟩ ?_ fun i hi I hI => ?_
  · cbv
    simp
  cbv
  refine ⟨fun _ h2 => ?_, fun _ h2 => ?_⟩
  · cbv
    have hlt : i < r.length := by simpa using h2
    refine E.d 9 (by kernel_rfl) ?_
    cbv
    refine ⟨fun _ => by simp; omega, fun _ => by rw [nct, is_get _ i hlt]; rfl, fun _ => by simp; omega, fun _ => by rw [nct, is_get _ i (by omega)]; rfl, fun _ h3 => ?_, fun _ h3 => ?_⟩
    · cbv
      refine hF ?_
      cbv
      clear hI
      simp only [nct, is_get _ i hlt, is_get q i (by omega), at_i] at h3
      intro _
      simp at h3 ⊢
      rintro rfl
      simp at h3
    · cbv
      refine hI (i + 1) ?_ (by omega) ?_
      · clear hI
        simp only [nct, is_get _ i hlt, is_get q i (by omega), at_i] at h3
        refine ⟨hlt, fun k hk => ?_⟩
        rcases Nat.lt_or_ge k i with h | h
        · exact hi.2 k h
        · obtain rfl : k = i := by omega
          simpa using h3
      · cbv
        clear hI
        simp
        exact w64_of (by omega) (by omega)
  · cbv
    refine hF ?_
    cbv
    clear hI
    intro _
    have : i = r.length := by simp at h2; omega
    simp
    refine List.ext_getElem e1 fun k h1 h2 => ?_
    have := hi.2 k (by omega)
    simpa [h1, h2] using this

/-! ### Acyclic -/
def acyM (n : Int) (rows : List (BitVec 64)) : Bool := decide (Fits n rows ∧ ∀ i < rows.length, ((plusM n rows).getD i 0 >>> i) &&& 1#64 = 0#64)
theorem plusM_len (n : Int) (rows : List (BitVec 64)) : (plusM n rows).length = rows.length := wOut_len _ _
theorem acyclic_ok (n : Int) (rows : List (BitVec 64)) : Pure Tryd.prog γ false 23 [encRel n rows] (.b fun _ => acyM n rows) := by
  refine Pure.go (ty := ty) ty_eq mo Tryd.func23 rfl Tryd.ntmps23 Tryd.results23 Tryd.call23 (by simp) fun P C CQ D W F E hF => ?_
  cbv
  refine E.c (SCalls.of_le (check_ok n rows) ?_ ?_)
  · cbv; simp
  cbv
  by_cases hf : Fits n rows
  case neg =>
    refine br_t (by simp [checkM, hf]) ?_
    cbv
    refine hF ?_
    cbv
    simp [acyM, hf]
  refine br_f (by simp [checkM, hf]) ?_
  cbv
  refine E.c (SCalls.of_le (plus_ok n rows hf) ?_ ?_)
  · cbv; simp
  have hpl := plusM_len n rows
  generalize hpr : plusM n rows = pr at hpl
  have h64 : rows.length ≤ 64 := by have := hf.1; have := hf.2.1; have := hf.2.2.1; omega
  cbv
  refine E.loop (ι := Nat) (fun i => i ≤ rows.length ∧ ∀ k < i, (pr.getD k 0 >>> k) &&& 1#64 = 0#64) (fun i => rows.length - i) (fun i => [(12, .i fun _ => (i : Int))]) (fun _ => [.box (encRel n rows)]) 0 rfl (fun _ => rfl) ⟨Nat.zero_le _, by simp⟩ ?_ fun i hi I hI => ?_
  · cbv
    simp
  cbv
  refine ⟨fun _ h2 => ?_, fun _ h2 => ?_⟩
  · cbv
    have hlt : i < pr.length := by simpa using h2
    have hsh : (BitVec.ofInt 64 (i : Int)).toNat = i := by simp; omega
    refine ⟨fun _ => by simp; omega, fun _ => by rw [nct, us_get _ i hlt]; rfl, fun _ h3 => ?_, fun _ h3 => ?_⟩
    · cbv
      refine hF ?_
      cbv
      clear hI
      simp only [nct, us_get _ i hlt, at_u, nc, hsh] at h3
      intro _
      simp only [acyM, hpr]
      simp at h3 ⊢
      intro _
      exact ⟨i, by omega, by simpa [hlt] using h3⟩
    · cbv
      refine hI (i + 1) ?_ (by omega) ?_
      · clear hI
        simp only [nct, us_get _ i hlt, at_u, nc, hsh] at h3
        refine ⟨by omega, fun k hk => ?_⟩
        rcases Nat.lt_or_ge k i with h | h
        · exact hi.2 k h
        · obtain rfl : k = i := by omega
          simpa using h3
      · cbv
        clear hI
        simp
        exact w64_of (by omega) (by omega)
  · cbv
    refine hF ?_
    cbv
    clear hI
    intro _
    have : i = rows.length := by simp at h2; omega
    subst this
    simp only [acyM, hpr]
    simp
    exact ⟨hf, fun k hk => by simpa using hi.2 k hk⟩
end Go.AL.Rl

namespace Go.AL.Rl
open Go Go.AL Go.Proofs
variable {γ : Nat → Option AV}
set_option maxRecDepth 100000

/-! ### Turn -/
def tIn (i : Nat) (row : BitVec 64) (q : Nat) (acc : List (BitVec 64)) : List (BitVec 64) :=
  (List.range q).foldl (fun a p => if row.getLsbD p then a.set p (a.getD p 0 ||| 1#64 <<< i) else a) acc
theorem tIn_succ (i : Nat) (row : BitVec 64) (q : Nat) (acc : List (BitVec 64)) : tIn i row (q + 1) acc = if row.getLsbD q then (tIn i row q acc).set q ((tIn i row q acc).getD q 0 ||| 1#64 <<< i) else tIn i row q acc := by simp [tIn, List.range_succ]
theorem tIn_len (i : Nat) (row : BitVec 64) (acc : List (BitVec 64)) : ∀ q, (tIn i row q acc).length = acc.length
  | 0 => rfl
  | q + 1 => by rw [tIn_succ]; split <;> simp [tIn_len i row acc q]
def tOut (m : Nat) (rows : List (BitVec 64)) : List (BitVec 64) := (List.range m).foldl (fun a i => tIn i (rows.getD i 0) 64 a) (List.replicate rows.length 0#64)
theorem tOut_succ (m : Nat) (rows : List (BitVec 64)) : tOut (m + 1) rows = tIn m (rows.getD m 0) 64 (tOut m rows) := by simp [tOut, List.range_succ]
theorem tOut_len (rows : List (BitVec 64)) : ∀ m, (tOut m rows).length = rows.length
  | 0 => by simp [tOut]
  | m + 1 => by rw [tOut_succ, tIn_len, tOut_len rows m]
def turnM (rows : List (BitVec 64)) : List (BitVec 64) := tOut rows.length rows

theorem turn1_ok (rows : List (BitVec 64)) (n : Nat) (acc : List (BitVec 64)) (i p : Nat) (hp : p < acc.length) (hn : acc.length = n) (hi : i < 64) :
    SCalls Tryd.prog γ 52 [.i (fun _ => (p : Int)), .ptr 4 0, .ptr 5 0] [.box (encRel n rows), .box (.agg [.lit 0, .nils]), .any, .run 0 1 fun _ => us acc, .box (.agg [.i fun _ => (n : Int), .sl 3 0 1 (fun _ => 0) fun _ => n]), .box (.i fun _ => (i : Int))]
      fun _ h => leH 6 [.box (encRel n rows), .box (.agg [.lit 0, .nils]), .any, .run 0 1 fun _ => us (acc.set p (acc.getD p 0 ||| 1#64 <<< i)), .box (.agg [.i fun _ => (n : Int), .sl 3 0 1 (fun _ => 0) fun _ => n]), .box (.i fun _ => (i : Int))] h := by
  refine SCalls.go (ty := ty) ty_eq mo Tryd.func52 rfl Tryd.ntmps52 Tryd.results52 Tryd.call52 (by simp) fun P C CQ D W F E hF => ?_
  cbv
  refine E.d 10 (by kernel_rfl) ?_
  cbv
  have hsh : (BitVec.ofInt 64 (i : Int)).toNat = i := by simp; omega
  refine ⟨fun _ => by simp; omega, fun _ => ⟨rfl, by simp; omega⟩, fun _ => by rw [Nat.zero_add, nct, us_get _ p hp]; rfl, fun _ => by simp; omega, fun _ => ⟨rfl, by simp; omega, by rw [Nat.zero_add, nct, us_get _ p hp]; rfl⟩, ?_⟩
  cbv
  refine hF ?_
  cbv
  simp only [Nat.zero_add, nct, us_get _ p hp, at_u, upd_u, us_set, us_of, nc, hsh]
  simp

theorem turn_ok (hγ : γ 0 = some tabAV) (n : Int) (rows : List (BitVec 64)) (hf : Fits n rows) : Pure Tryd.prog γ false 27 [encRel n rows] (encRel n (turnM rows)) := by
  refine Pure.go (ty := ty) ty_eq mo Tryd.func27 rfl Tryd.ntmps27 Tryd.results27 Tryd.call27 (by simp) fun P C CQ D W F E hF => ?_
  cbv
  refine E.c (SCalls.of_le (check_ok n rows) ?_ ?_)
  · cbv; simp
  cbv
  refine br_f (by simp [checkM, hf]) ?_
  cbv
  refine E.c (SCalls.of_owns (none_in n hf.1 hf.2.1) ?_ ?_)
  · cbv; simp
  cbv
  have hf' := hf
  obtain ⟨h0, h1, h2, h3⟩ := hf
  obtain ⟨len, hlen⟩ : ∃ len : Nat, n = len := ⟨n.toNat, by omega⟩
  subst hlen
  simp only [Int.toNat_natCast, nc]
  have h2 : rows.length = len := by first | omega | (simp only [nc] at h2; omega)
  have hl : len ≤ 64 := by omega
  refine E.loop (ι := Nat) (fun m => m ≤ len) (fun m => len - m) (fun m => [(16, .i fun _ => (m : Int))])
    (fun m => [.box (encRel len rows), .box (.agg [.lit 0, .nils]), .any, .run 0 1 fun _ => us (tOut m rows), .box (.agg [.i fun _ => len, .sl 3 0 1 (fun _ => 0) fun _ => len])])
    0 rfl (fun _ => rfl) (Nat.zero_le _) ?_ fun m hm I hI => ?_
  · cbv
    simp [tOut, h2]
  cbv
  refine ⟨fun _ h4 => ?_, fun _ h4 => ?_⟩
  · cbv
    have hmm : m < len := by simp at h4; omega
    have hmr : m < rows.length := by omega
    refine ⟨fun _ => by simp; omega, fun _ => by rw [nct, us_get _ m hmr]; rfl, ?_⟩
    cbv
    simp only [nct, us_get _ m hmr, at_u]
    refine E.c (each2_ok hγ (rows.getD m 0) 52 4 5 (fun p => [.box (encRel len rows), .box (.agg [.lit 0, .nils]), .any, .run 0 1 fun _ => us (tIn m (rows.getD m 0) p (tOut m rows)), .box (.agg [.i fun _ => len, .sl 3 0 1 (fun _ => 0) fun _ => len]), .box (.i fun _ => (m : Int))]) 6 (fun _ => rfl) (by omega) (by omega) (fun p h1 h2 => ?_) (fun p h1 h2 => ?_) ?_ ?_)
    · rw [tIn_succ, if_pos h2]
      exact turn1_ok rows len _ m p (by have := fits_row hf' (r := rows.getD m 0) (by simp [hmr]) h1 h2; rw [tIn_len, tOut_len]; exact this) (by rw [tIn_len, tOut_len]; omega) (by omega)
    · rw [tIn_succ, h2]; rfl
    · cbv; simp
    cbv
    refine hI (m + 1) (by omega) (by omega) ?_
    cbv
    clear hI
    simp
    exact ⟨w64_of (by omega) (by omega), by rw [tOut_succ]; simp⟩
  · cbv
    refine hF ?_
    cbv
    clear hI
    have hml : m = len := by simp at h4; omega
    have hlw : (tOut m rows).length = len := by rw [tOut_len, h2]
    simp [turnM, h2]
    rw [hml] at hlw ⊢
    exact ⟨by omega, by rw [List.take_of_length_le (by simp; omega)]⟩
end Go.AL.Rl

namespace Go.AL.Rl

/-- is 'i' related to 'j'? -/
def bit (rows : List (BitVec 64)) (i j : Nat) : Bool := (rows.getD i 0).getLsbD j

theorem and_one_zero (x : BitVec 64) (k : Nat) : ((x >>> k) &&& 1#64 = 0#64) ↔ x.getLsbD k = false := by
  constructor
  · intro h
    have := congrArg (fun y : BitVec 64 => y.getLsbD 0) h
    simpa [BitVec.getLsbD_and, BitVec.getLsbD_ushiftRight] using this
  · intro h
    apply BitVec.eq_of_getLsbD_eq
    intro i hi
    rw [BitVec.getLsbD_and, BitVec.getLsbD_ushiftRight, BitVec.getLsbD_one, BitVec.getLsbD_zero]
    by_cases h0 : i = 0
    · subst h0; simp [h]
    · simp [h0]

theorem getD_set_self (l : List (BitVec 64)) (i : Nat) (x : BitVec 64) (h : i < l.length) : (l.set i x).getD i 0 = x := by simp [h]
theorem getD_set_ne' (l : List (BitVec 64)) (i k : Nat) (x : BitVec 64) (h : i ≠ k) : (l.set i x).getD k 0 = l.getD k 0 := by simp [List.getElem?_set_ne h]

theorem wStep_get (b : Nat) (rows : List (BitVec 64)) (i : Nat) (hi : i < rows.length) (k : Nat) :
    (wStep b rows i).getD k 0 = if k = i ∧ bit rows i b = true then rows.getD i 0 ||| rows.getD b 0 else rows.getD k 0 := by
  unfold wStep
  by_cases hb : bit rows i b = true
  · rw [if_neg (by rw [and_one_zero]; unfold bit at hb; simp only [hb]; simp)]
    by_cases hk : k = i
    · subst hk; rw [getD_set_self _ _ _ hi, if_pos ⟨rfl, hb⟩]
    · rw [getD_set_ne' _ _ _ _ (Ne.symm hk), if_neg (fun h => hk h.1)]
  · rw [if_pos (by rw [and_one_zero]; unfold bit at hb; simpa using hb), if_neg (fun h => hb h.2)]

/-- one pass: all rows that lead to 'b' take over its row -/
theorem wIn_get (b : Nat) (rows : List (BitVec 64)) : ∀ (k : Nat), k ≤ rows.length → ∀ i, (wIn b k rows).getD i 0 = if i < k ∧ bit rows i b = true then rows.getD i 0 ||| rows.getD b 0 else rows.getD i 0
  | 0, _, i => by simp [wIn]
  | k + 1, hk, i => by
    have ih := wIn_get b rows k (by omega)
    have hrowb : (wIn b k rows).getD b 0 = rows.getD b 0 := by
      rw [ih b]; split
      · simp
      · rfl
    have hrowk : (wIn b k rows).getD k 0 = rows.getD k 0 := by
      rw [ih k, if_neg (by omega)]
    rw [wIn_succ, wStep_get b _ k (by rw [wIn_len]; omega) i, hrowb, hrowk]
    have hbk : bit (wIn b k rows) k b = bit rows k b := by unfold bit; rw [hrowk]
    rw [hbk]
    by_cases hik : i = k
    · subst hik
      by_cases hb : bit rows i b = true
      · rw [if_pos ⟨rfl, hb⟩, if_pos ⟨by omega, hb⟩]
      · rw [if_neg (fun h => hb h.2), if_neg (fun h => hb h.2), hrowk]
    · rw [if_neg (fun h => hik h.1), ih i]
      by_cases hlt : i < k
      · by_cases hb : bit rows i b = true
        · rw [if_pos ⟨hlt, hb⟩, if_pos ⟨by omega, hb⟩]
        · rw [if_neg (fun h => hb h.2), if_neg (fun h => hb h.2)]
      · rw [if_neg (fun h => hlt h.1), if_neg (fun h => by omega)]

theorem bit_out {rows : List (BitVec 64)} {i : Nat} (h : rows.length ≤ i) (j : Nat) : bit rows i j = false := by
  unfold bit
  rw [List.getD_eq_getElem?_getD, List.getElem?_eq_none h]
  simp

theorem bit_wIn (b : Nat) (rows : List (BitVec 64)) (i j : Nat) : bit (wIn b rows.length rows) i j = (bit rows i j || (bit rows i b && bit rows b j)) := by
  by_cases hi : i < rows.length
  · unfold bit
    rw [wIn_get b rows _ (Nat.le_refl _) i]
    by_cases hb : bit rows i b = true
    · rw [if_pos ⟨hi, hb⟩]
      unfold bit at hb
      rw [BitVec.getLsbD_or, hb, Bool.true_and]
    · rw [if_neg (fun h => hb h.2)]
      unfold bit at hb
      simp only [Bool.not_eq_true] at hb
      rw [hb]; simp
  · rw [bit_out (by rw [wIn_len]; omega), bit_out (by omega), bit_out (i := i) (by omega)]; rfl

/-- ways by things below 'm' -/
def Way (rows : List (BitVec 64)) (m i j : Nat) : Prop := bit (wOut m rows) i j = true
theorem way_succ (rows : List (BitVec 64)) (m i j : Nat) : Way rows (m + 1) i j ↔ Way rows m i j ∨ (Way rows m i m ∧ Way rows m m j) := by
  unfold Way
  rw [wOut_succ, show rows.length = (wOut m rows).length from (wOut_len _ _).symm, bit_wIn]
  simp
theorem way_trans (rows : List (BitVec 64)) : ∀ (m i k j : Nat), k < m → Way rows m i k → Way rows m k j → Way rows m i j
  | 0, i, k, j, h, _, _ => by omega
  | m + 1, i, k, j, h, h1, h2 => by
    rw [way_succ] at h1 h2 ⊢
    by_cases hk : k = m
    · subst hk
      exact .inr ⟨h1.elim id (·.1), h2.elim id (·.2)⟩
    · have hk' : k < m := by omega
      have tr := fun i j => way_trans rows m i k j hk'
      rcases h1 with h1 | ⟨h1, h1'⟩ <;> rcases h2 with h2 | ⟨h2, h2'⟩
      · exact .inl (tr i j h1 h2)
      · exact .inr ⟨tr i m h1 h2, h2'⟩
      · exact .inr ⟨h1, tr m j h1' h2⟩
      · exact .inr ⟨h1, h2'⟩
theorem way_mono (rows : List (BitVec 64)) (m i j : Nat) : ∀ d, Way rows m i j → Way rows (m + d) i j
  | 0, h => h
  | d + 1, h => by rw [← Nat.add_assoc, way_succ]; exact .inl (way_mono rows m i j d h)
theorem way_edge (rows : List (BitVec 64)) (m i j : Nat) (h : bit rows i j = true) : Way rows m i j := by
  have := way_mono rows 0 i j m h
  simpa using this
/-- the least such -/
theorem way_least (rows : List (BitVec 64)) (T : Nat → Nat → Prop) (h1 : ∀ i j, bit rows i j = true → T i j) (h2 : ∀ i k j, T i k → T k j → T i j) : ∀ (m i j : Nat), Way rows m i j → T i j
  | 0, i, j, h => h1 i j h
  | m + 1, i, j, h => by
    rw [way_succ] at h
    rcases h with h | ⟨h, h'⟩
    · exact way_least rows T h1 h2 m i j h
    · exact h2 i m j (way_least rows T h1 h2 m i m h) (way_least rows T h1 h2 m m j h')
end Go.AL.Rl

namespace Go.AL.Rl
open Go Go.AL Go.Proofs
variable {γ : Nat → Option AV}
set_option maxRecDepth 100000

/-! ### Of -/
/-- pairs, as they are told -/
def ps (l : List (Int × Int)) : LV := LV.of (l.map fun x => .agg [.i fun _ => x.1, .i fun _ => x.2])
@[simp] theorem ps_len (l : List (Int × Int)) : (ps l).l.length = l.length := by simp [ps]
theorem ps_get (l : List (Int × Int)) (i : Nat) (h : i < l.length) : (ps l).l.getD i .any = .agg [.i fun _ => (l.getD i (0, 0)).1, .i fun _ => (l.getD i (0, 0)).2] := by
  simp [ps, h]
theorem at_p0 (x y : Unit → Int) : ((AV.agg [.i x, .i y]).at 0).asI = x () := rfl
theorem at_p1 (x y : Unit → Int) : ((AV.agg [.i x, .i y]).at 1).asI = y () := rfl
def ofStep (n : Int) (acc : List (BitVec 64)) (p : Int × Int) : List (BitVec 64) :=
  if 0 ≤ p.1 ∧ p.1 < n ∧ 0 ≤ p.2 ∧ p.2 < n then acc.set p.1.toNat (acc.getD p.1.toNat 0 ||| 1#64 <<< p.2.toNat) else acc
def ofTo (n : Int) (l : List (Int × Int)) (k : Nat) : List (BitVec 64) := (l.take k).foldl (ofStep n) (List.replicate n.toNat 0#64)
theorem ofTo_succ (n : Int) (l : List (Int × Int)) (k : Nat) (h : k < l.length) : ofTo n l (k + 1) = ofStep n (ofTo n l k) (l.getD k (0, 0)) := by
  rw [ofTo, List.take_succ_eq_append_getElem h, List.foldl_append]; simp only [List.foldl_cons, List.foldl_nil, List.getD_eq_getElem?_getD, List.getElem?_eq_getElem h, Option.getD_some]; rfl
theorem ofStep_len (n : Int) (acc : List (BitVec 64)) (p : Int × Int) : (ofStep n acc p).length = acc.length := by unfold ofStep; split <;> simp
theorem ofTo_len (n : Int) (l : List (Int × Int)) (k : Nat) : (ofTo n l k).length = n.toNat := by
  unfold ofTo
  generalize l.take k = q
  have : ∀ (q : List (Int × Int)) (a : List (BitVec 64)), (q.foldl (ofStep n) a).length = a.length := by
    intro q
    induction q with
    | nil => intro a; rfl
    | cons x q ih => intro a; rw [List.foldl_cons, ih, ofStep_len]
  rw [this]; simp

theorem of_in (n : Int) (l : List (Int × Int)) (h0 : 0 ≤ n) (h1 : n ≤ 64) (hl : l.length < 4611686018427387904) : Pure Tryd.prog γ false 14 [.i fun _ => n, .vs 2 fun _ => ps l] (encRel n (ofTo n l l.length)) := by
  refine Pure.go (ty := ty) ty_eq mo Tryd.func14 rfl Tryd.ntmps14 Tryd.results14 Tryd.call14 (by simp) fun P C CQ D W F E hF => ?_
  cbv
  refine E.c (SCalls.of_owns (none_in n h0 h1) ?_ ?_)
  · cbv; simp
  cbv
  obtain ⟨len, hlen⟩ : ∃ len : Nat, n = len := ⟨n.toNat, by omega⟩
  subst hlen
  simp only [Int.toNat_natCast, nc]
  have hln : len ≤ 64 := by omega
  refine E.loop (ι := Nat) (fun m => m ≤ l.length) (fun m => l.length - m) (fun m => [(12, .i fun _ => (m : Int))])
    (fun m => [.box (.agg [.lit 0, .nils]), .any, .run 0 1 fun _ => us (ofTo len l m), .box (.agg [.i fun _ => len, .sl 2 0 1 (fun _ => 0) fun _ => len])])
    0 rfl (fun _ => rfl) (Nat.zero_le _) ?_ fun m hm I hI => ?_
  · cbv
    simp [ofTo]
  cbv
  refine ⟨fun _ h4 => ?_, fun _ h4 => ?_⟩
  · cbv
    have hmr : m < l.length := by simp at h4; omega
    refine ⟨fun _ => by simp; omega, fun _ => by rw [nct, ps_get _ m hmr]; rfl, ?_⟩
    cbv
    have hs := ofTo_succ len l m hmr
    simp only [nct, ps_get _ m hmr, at_p0, at_p1]
    generalize l.getD m (0, 0) = p at hs ⊢
    have hlw : (ofTo len l m).length = len := by rw [ofTo_len]; simp
    have no : ¬ (0 ≤ p.1 ∧ p.1 < len ∧ 0 ≤ p.2 ∧ p.2 < len) → ofTo len l (m + 1) = ofTo len l m := fun h => by rw [hs, ofStep, if_neg h]
    refine ⟨fun _ h5 => ?_, fun _ h5 => ?_⟩
    · cbv
      simp at h5
      refine ⟨fun _ h6 => ?_, fun _ h6 => ?_⟩
      · cbv
        simp at h6
        refine ⟨fun _ h7 => ?_, fun _ h7 => ?_⟩
        · cbv
          simp at h7
          refine ⟨fun _ h8 => ?_, fun _ h8 => ?_⟩
          · cbv
            simp at h8
            refine E.d 12 (by kernel_rfl) ?_
            cbv
            simp only [nc] at hlw h5 h6 h7 h8
            have hp : p.1.toNat < (ofTo len l m).length := by omega
            have hsh : (BitVec.ofInt 64 p.2).toNat = p.2.toNat := by simp; omega
            refine ⟨fun _ => by simp only [nc]; omega, fun _ => ⟨rfl, by simp; omega⟩, fun _ => by rw [Nat.zero_add, us_get _ _ hp]; rfl, fun _ => by simp only [nc]; omega, fun _ => ⟨rfl, by simp; omega, by rw [Nat.zero_add, us_get _ _ hp]; rfl⟩, ?_⟩
            refine hI (m + 1) (by omega) (by omega) ?_
            cbv
            clear hI
            simp only [nc] at hs h6 h8
            simp only [Nat.zero_add, nc, us_get _ _ hp, at_u, upd_u, us_set, us_of, hsh]
            simp only [implies_true, and_true, true_and, forall_const]
            refine ⟨w64_of (by omega) (by omega), ?_⟩
            rw [hs, ofStep, if_pos ⟨h5, h6, h7, h8⟩]
            rfl
          · cbv
            refine hI (m + 1) (by omega) (by omega) ?_
            cbv
            clear hI
            simp at h8
            simp
            refine ⟨w64_of (by omega) (by omega), ?_⟩
            simp only [nc] at no
            rw [no (fun h => absurd h.2.2.2 (by simpa using h8))]
        · cbv
          refine hI (m + 1) (by omega) (by omega) ?_
          cbv
          clear hI
          simp at h7
          simp
          exact ⟨w64_of (by omega) (by omega), by rw [no (by omega)]⟩
      · cbv
        refine hI (m + 1) (by omega) (by omega) ?_
        cbv
        clear hI
        simp at h6
        simp
        refine ⟨w64_of (by omega) (by omega), ?_⟩
        simp only [nc] at no
        rw [no (fun h => absurd h.2.1 (by simpa using h6))]
    · cbv
      refine hI (m + 1) (by omega) (by omega) ?_
      cbv
      clear hI
      simp at h5
      simp
      exact ⟨w64_of (by omega) (by omega), by rw [no (by omega)]⟩
  · cbv
    refine hF ?_
    cbv
    clear hI
    have hml : m = l.length := by simp at h4; omega
    have hlw : (ofTo len l l.length).length = len := by rw [ofTo_len]; simp
    simp [hml]
    exact ⟨by omega, by rw [List.take_of_length_le (by simp; omega)]⟩

theorem of_out (n : Int) (l : List (Int × Int)) (hn : ¬ (0 ≤ n ∧ n ≤ 64)) (hl : l.length < 4611686018427387904) : Pure Tryd.prog γ false 14 [.i fun _ => n, .vs 2 fun _ => ps l] (encRel 0 []) := by
  refine Pure.go (ty := ty) ty_eq mo Tryd.func14 rfl Tryd.ntmps14 Tryd.results14 Tryd.call14 (by simp) fun P C CQ D W F E hF => ?_
  cbv
  refine E.c (SCalls.of_le (none_out n hn) ?_ ?_)
  · cbv; simp
  cbv
  refine E.loop (ι := Nat) (fun m => m ≤ l.length) (fun m => l.length - m) (fun m => [(12, .i fun _ => (m : Int))])
    (fun m => [.box (.agg [.lit 0, .nils]), .box (encRel 0 [])])
    0 rfl (fun _ => rfl) (Nat.zero_le _) ?_ fun m hm I hI => ?_
  · cbv
    simp
  cbv
  refine ⟨fun _ h4 => ?_, fun _ h4 => ?_⟩
  · cbv
    have hmr : m < l.length := by simp at h4; omega
    refine ⟨fun _ => by simp; omega, fun _ => by rw [nct, ps_get _ m hmr]; rfl, ?_⟩
    cbv
    simp only [nct, ps_get _ m hmr, at_p0, at_p1]
    generalize l.getD m (0, 0) = p
    refine ⟨fun _ h5 => ?_, fun _ h5 => ?_⟩
    · cbv
      simp at h5
      refine br_f (by simp; omega) ?_
      cbv
      refine hI (m + 1) (by omega) (by omega) ?_
      cbv
      clear hI
      simp
      exact w64_of (by omega) (by omega)
    · cbv
      refine hI (m + 1) (by omega) (by omega) ?_
      cbv
      clear hI
      simp
      exact w64_of (by omega) (by omega)
  · cbv
    refine hF ?_
    cbv
    simp
end Go.AL.Rl

namespace Go.AL.Rl
open Go Go.AL Go.Proofs
variable {γ : Nat → Option AV}
set_option maxRecDepth 100000

/-! ### Sort -/
def cand (ahead : List (BitVec 64)) (left : BitVec 64) (i : Nat) : Prop := left.getLsbD i = true ∧ ahead.getD i 0 &&& left = 0#64
/-- all that is left is sorted behind what is told -/
inductive Sorts (ahead : List (BitVec 64)) (len : Nat) : BitVec 64 → List Int → List Int → Prop
  | done (acc : List Int) : Sorts ahead len 0#64 acc acc
  | step (left : BitVec 64) (acc res : List Int) (i : Nat) (hi : i < len) (hc : cand ahead left i) (hn : ∀ k < i, ¬ cand ahead left k) (h : Sorts ahead len (left &&& ~~~ (1#64 <<< i)) (acc ++ [(i : Int)]) res) : Sorts ahead len left acc res
theorem Sorts.inv {ah : List (BitVec 64)} {len : Nat} {left : BitVec 64} {acc res : List Int} (h : Sorts ah len left acc res) (h0 : left ≠ 0#64) :
    ∃ i, i < len ∧ cand ah left i ∧ (∀ k < i, ¬ cand ah left k) ∧ Sorts ah len (left &&& ~~~ (1#64 <<< i)) (acc ++ [(i : Int)]) res := by
  cases h with
  | done => exact absurd rfl h0
  | step _ _ _ i hi hc hn h => exact ⟨i, hi, hc, hn, h⟩
theorem Sorts.fin {ah : List (BitVec 64)} {len : Nat} {acc res : List Int} (h : Sorts ah len 0#64 acc res) : acc = res := by
  cases h with
  | done => rfl
  | step _ _ _ i hi hc hn h => exact absurd hc.1 (by simp)

def cnt (x : BitVec 64) : Nat := (List.range 64).countP fun p => x.getLsbD p
theorem cnt_le (x : BitVec 64) : cnt x ≤ 64 := by
  have := List.countP_le_length (p := fun p => x.getLsbD p) (l := List.range 64)
  simpa [cnt] using this
theorem clear_bit (x : BitVec 64) (i p : Nat) : (x &&& ~~~ (1#64 <<< i)).getLsbD p = (x.getLsbD p && !decide (p = i)) := by
  by_cases hp : p < 64
  · rw [BitVec.getLsbD_and, BitVec.getLsbD_not, BitVec.getLsbD_shiftLeft]
    by_cases h1 : p < i
    · simp [h1, hp]; omega
    · by_cases h2 : p = i
      · subst h2; simp [hp]
      · have : ¬ p - i = 0 := by omega
        simp [h1, hp, h2, BitVec.getLsbD_one, this]
  · rw [BitVec.getLsbD_of_ge _ _ (by omega), BitVec.getLsbD_of_ge _ _ (by omega)]; rfl
theorem cnt_clear (x : BitVec 64) (i : Nat) (hi : i < 64) (h : x.getLsbD i = true) : cnt (x &&& ~~~ (1#64 <<< i)) + 1 = cnt x := by
  have key : ∀ n, (List.range n).countP (fun p => (x &&& ~~~ (1#64 <<< i)).getLsbD p) + (if i < n then 1 else 0) = (List.range n).countP fun p => x.getLsbD p := by
    intro n
    induction n with
    | zero => simp
    | succ n ih =>
      rw [List.range_succ, List.countP_append, List.countP_append, ← ih]
      simp only [List.countP_cons, List.countP_nil, clear_bit]
      by_cases h1 : n = i
      · subst h1; simp [h]
      · by_cases h2 : i < n
        · rw [if_pos h2, if_pos (by omega : i < n + 1)]; simp [h1]; omega
        · rw [if_neg h2, if_neg (by omega : ¬ i < n + 1)]; simp [h1]
  have := key 64
  rw [if_pos hi] at this
  exact this

theorem is_app (a b : List Int) : (is a).l ++ (is b).l = (is (a ++ b)).l := by simp [is]
theorem is_of (a : List Int) : LV.of (is a).l = is a := by simp [is]
theorem is_one (x : Int) : LV.of [AV.i fun _ => x] = is [x] := rfl

theorem sort_no (n : Int) (rows : List (BitVec 64)) (hc : acyM n rows = false) : Pure Tryd.prog γ false 28 [encRel n rows] (.tup [.vs 1 fun _ => is [], .b fun _ => false]) := by
  refine Pure.go (ty := ty) ty_eq mo Tryd.func28 rfl Tryd.ntmps28 Tryd.results28 Tryd.call28 (by simp) fun P C CQ D W F E hF => ?_
  cbv
  refine E.c (SCalls.of_le (acyclic_ok n rows) ?_ ?_)
  · cbv; all_goals simp
  cbv
  refine br_t (by simp [hc]) ?_
  cbv
  refine hF ?_
  cbv
  simp [is]

theorem sort_yes (hγ : γ 0 = some tabAV) (n : Int) (rows : List (BitVec 64)) (hc : acyM n rows = true) (res : List Int) (hs : Sorts (turnM rows) rows.length (fullM n) [] res) :
    Pure Tryd.prog γ false 28 [encRel n rows] (.tup [.vs 1 fun _ => is res, .b fun _ => true]) := by
  have hf : Fits n rows := by simp only [acyM, decide_eq_true_eq] at hc; exact hc.1
  refine Pure.go (ty := ty) ty_eq mo Tryd.func28 rfl Tryd.ntmps28 Tryd.results28 Tryd.call28 (by simp) fun P C CQ D W F E hF => ?_
  cbv
  refine E.c (SCalls.of_le (acyclic_ok n rows) ?_ ?_)
  · cbv; all_goals simp
  cbv
  refine br_f (by simp [hc]) ?_
  cbv
  refine E.c (SCalls.of_le (turn_ok hγ n rows hf) ?_ ?_)
  · cbv; all_goals simp
  cbv
  refine E.c (SCalls.of_le (full_ok n) ?_ ?_)
  · cbv; all_goals simp
  cbv
  obtain ⟨h0, h1, h2, h3⟩ := hf
  obtain ⟨len, hlen⟩ : ∃ len : Nat, n = len := ⟨n.toNat, by omega⟩
  subst hlen
  have hln : len ≤ 64 := by omega
  have hrl : rows.length = len := by first | omega | (simp only [nc] at h2; omega)
  refine ⟨fun _ => by simp only [nc]; omega, ?_⟩
  have htl : (turnM rows).length = len := by rw [turnM, tOut_len, hrl]
  rw [hrl] at hs
  generalize turnM rows = ah at hs htl ⊢
  cbv
  refine E.loop (ι := BitVec 64 × List Int × Nat) (fun j => Sorts ah len j.1 j.2.1 res ∧ j.2.1.length + cnt j.1 ≤ 64) (fun j => cnt j.1) (fun j => [(5, .u fun _ => j.1), (6, .sl 2 j.2.2 1 (fun _ => 0) fun _ => j.2.1.length)])
    (fun j => [.box (encRel len rows), .box (encRel len ah), .run j.2.2 1 fun _ => is j.2.1]) (fullM len, [], 0) rfl (fun _ => rfl) ⟨hs, ?_⟩ ?_ fun j hj I hI => ?_
  · have := cnt_le (fullM len); simpa using this
  · cbv
    simp [is]
  obtain ⟨left, acc, g⟩ := j
  simp only at hj
  obtain ⟨hj1, hj2⟩ := hj
  cbv
  refine ⟨fun _ h4 => ?_, fun _ h4 => ?_⟩
  · cbv
    obtain ⟨m, hm1, hm2, hm3, hm4⟩ := hj1.inv (by simpa using h4)
    have hcc := cnt_clear left m (by omega) hm2.1
    refine E.loop (ι := Nat) (fun i => i ≤ m) (fun i => m - i) (fun i => [(5, .u fun _ => left), (6, .sl 2 g 1 (fun _ => 0) fun _ => acc.length), (7, .i fun _ => (i : Int))])
      (fun _ => [.box (encRel len rows), .box (encRel len ah), .run g 1 fun _ => is acc]) 0 rfl (fun _ => rfl) (Nat.zero_le _) ?_ fun i hi I2 hI2 => ?_
    · cbv
      simp
    cbv
    refine br_t (by simp; omega) ?_
    cbv
    have hsh : (BitVec.ofInt 64 (i : Int)).toNat = i := by simp; omega
    have hai : i < ah.length := by omega
    have hit : left.getLsbD i = true → (left >>> i) &&& 1#64 ≠ 0#64 := fun h => by rw [Ne, and_one_zero]; simp [h]
    have hif : left.getLsbD i = false → (left >>> i) &&& 1#64 = 0#64 := fun h => by rw [and_one_zero]; exact h
    refine ⟨fun _ h5 => ?_, fun _ h5 => ?_⟩
    · cbv
      refine ⟨fun _ => by simp; omega, fun _ => by rw [nct, us_get _ i hai]; rfl, ?_⟩
      cbv
      simp only [nct, us_get _ i hai, at_u, nc, hsh] at h5 ⊢
      have h5' : left.getLsbD i = true := by
        cases h : left.getLsbD i with
        | true => rfl
        | false => simp [hif h] at h5
      refine ⟨fun _ h6 => ?_, fun _ h6 => ?_⟩
      · cbv
        have him : i = m := by
          rcases Nat.lt_or_ge i m with h | h
          · exact absurd ⟨h5', by simpa using h6⟩ (hm3 i h)
          · omega
        subst him
        refine ⟨fun _ => ⟨rfl, rfl, by simp, by simp; omega, by simp; omega, by simp [AV.flat, AV.cells, AV.one]⟩, ?_⟩
        have hsh' : i % 18446744073709551616 = i := by omega
        cbv
        clear hI2
        refine hI (left &&& ~~~ (1#64 <<< i), acc ++ [(i : Int)], g + 1) ⟨hm4, by simp; omega⟩ (by simp; omega) ?_
        cbv
        clear hI
        simp [hsh', is]
      · cbv
        have him : i ≠ m := by rintro rfl; have := hm2.2; simp at h6 this; exact h6 this
        refine hI2 (i + 1) (by omega) (by omega) ?_
        cbv
        clear hI hI2
        simp
        exact w64_of (by omega) (by omega)
    · cbv
      have him : i ≠ m := by
        rintro rfl
        simp only [nc, hsh] at h5
        exact hit hm2.1 (by simpa using h5)
      refine hI2 (i + 1) (by omega) (by omega) ?_
      cbv
      clear hI hI2
      simp
      exact w64_of (by omega) (by omega)
  · cbv
    refine hF ?_
    cbv
    clear hI
    have hz : left = 0#64 := by simpa using h4
    subst hz
    have := hj1.fin
    subst this
    simp [is]
    rw [List.take_of_length_le (by simp)]
end Go.AL.Rl

namespace Go.AL.Rl
open Go Go.AL Go.Proofs
variable {γ : Nat → Option AV}
set_option maxRecDepth 100000

/-! ### lives -/
theorem lives_sorts : Sorts (turnM (ofTo 4 [(3, 0), (0, 2)] 2)) (ofTo 4 [(3, 0), (0, 2)] 2).length (fullM 4) [] [1, 3, 0, 2] := by
  refine .step _ _ _ 1 (by decide) ⟨by decide, by decide⟩ (fun k hk => by obtain rfl : k = 0 := by omega
                                                                          exact fun h => absurd h.2 (by decide)) ?_
  refine .step _ _ _ 3 (by decide) ⟨by decide, by decide⟩ (fun k hk => ?_) ?_
  · have : k = 0 ∨ k = 1 ∨ k = 2 := by omega
    rcases this with rfl | rfl | rfl
    · exact fun h => absurd h.2 (by decide)
    · exact fun h => absurd h.1 (by decide)
    · exact fun h => absurd h.2 (by decide)
  refine .step _ _ _ 0 (by decide) ⟨by decide, by decide⟩ (fun k hk => absurd hk (by omega)) ?_
  refine .step _ _ _ 2 (by decide) ⟨by decide, by decide⟩ (fun k hk => ?_) ?_
  · have : k = 0 ∨ k = 1 := by omega
    rcases this with rfl | rfl
    · exact fun h => absurd h.1 (by decide)
    · exact fun h => absurd h.1 (by decide)
  exact .done _

theorem lives_ok (hγ : γ 0 = some tabAV) : Pure Tryd.prog γ false 9 [] (.b fun _ => true) := by
  refine Pure.go (ty := ty) ty_eq mo Tryd.func9 rfl Tryd.ntmps9 Tryd.results9 Tryd.call9 (by simp) fun P C CQ D W F E hF => ?_
  cbv
  refine E.c (SCalls.of_le (of_in 3 [(0, 1), (1, 2)] (by omega) (by omega) (by simp)) ?_ ?_)
  · cbv
    simp [ps]
  cbv
  refine E.c (SCalls.of_le (plus_ok 3 (ofTo 3 [(0, 1), (1, 2)] 2) (by decide +kernel)) ?_ ?_)
  · cbv; all_goals simp
  cbv
  refine E.c (SCalls.of_le (of_in 4 [(3, 0), (0, 2)] (by omega) (by omega) (by simp)) ?_ ?_)
  · cbv
    simp [ps]
  cbv
  refine E.c (SCalls.of_le (sort_yes hγ 4 (ofTo 4 [(3, 0), (0, 2)] 2) (by decide +kernel) [1, 3, 0, 2] lives_sorts) ?_ ?_)
  · cbv; all_goals simp
  cbv
  refine E.c (SCalls.of_le (kitRel_ok 3 3 (plusM 3 (ofTo 3 [(0, 1), (1, 2)] 2)) [6, 4, 0] (by rw [plusM_len, ofTo_len]; decide +kernel)) ?_ ?_)
  · cbv
    simp [us]
  cbv
  refine br_t (by decide +kernel) ?_
  cbv
  refine br_t (rfl) ?_
  cbv
  refine E.c (SCalls.of_le (ints_ok [1, 3, 0, 2] [1, 3, 0, 2] (by simp)) ?_ ?_)
  · cbv
    simp [is]
  cbv
  refine br_t (by decide +kernel) ?_
  cbv
  refine E.c (SCalls.of_le (of_in 3 [(0, 1), (0, 2)] (by omega) (by omega) (by simp)) ?_ ?_)
  · cbv
    simp [ps]
  cbv
  refine E.c (SCalls.of_le (image_ok hγ 3 (ofTo 3 [(0, 1), (0, 2)] 2) 1#64) ?_ ?_)
  · cbv; all_goals simp
  cbv
  refine hF ?_
  cbv
  intro _
  decide +kernel
end Go.AL.Rl

namespace Go.AL.Rl
/-! ### Plain: closures and images -/
theorem bit_reachTo (rows : List (BitVec 64)) (f : BitVec 64) (j : Nat) : ∀ q, (reachTo q rows f).getLsbD j = true ↔ ∃ p, p < q ∧ f.getLsbD p = true ∧ bit rows p j = true
  | 0 => by simp [reachTo]
  | q + 1 => by
    have ih := bit_reachTo rows f j q
    rw [reachTo_succ]
    constructor
    · intro h
      split at h
      · rename_i hf
        rw [BitVec.getLsbD_or, Bool.or_eq_true, ih] at h
        rcases h with ⟨p, h1, h2⟩ | h
        · exact ⟨p, by omega, h2⟩
        · exact ⟨q, by omega, hf, h⟩
      · obtain ⟨p, h1, h2⟩ := ih.1 h
        exact ⟨p, by omega, h2⟩
    · rintro ⟨p, h1, h2, h3⟩
      by_cases hp : p = q
      · subst hp
        rw [if_pos h2, BitVec.getLsbD_or]
        unfold bit at h3
        rw [h3, Bool.or_true]
      · have := ih.2 ⟨p, by omega, h2, h3⟩
        split
        · rw [BitVec.getLsbD_or, this, Bool.true_or]
        · exact this
theorem bit_reach (rows : List (BitVec 64)) (f : BitVec 64) (j : Nat) : (reachM rows f).getLsbD j = true ↔ ∃ p, f.getLsbD p = true ∧ bit rows p j = true := by
  unfold reachM
  rw [bit_reachTo]
  constructor
  · rintro ⟨p, _, h⟩; exact ⟨p, h⟩
  · rintro ⟨p, h⟩
    refine ⟨p, ?_, h⟩
    rcases Nat.lt_or_ge p 64 with h' | h'
    · exact h'
    · rw [BitVec.getLsbD_of_ge _ _ h'] at h; cases h.1

theorem fits_bits {n : Int} {rows : List (BitVec 64)} (hf : Fits n rows) {i j : Nat} (h : bit rows i j = true) : i < rows.length ∧ j < rows.length := by
  have hi : i < rows.length := by
    rcases Nat.lt_or_ge i rows.length with h' | h'
    · exact h'
    · rw [bit_out h'] at h; cases h
  have hj : j < 64 := by
    rcases Nat.lt_or_ge j 64 with h' | h'
    · exact h'
    · unfold bit at h; rw [BitVec.getLsbD_of_ge _ _ h'] at h; cases h
  refine ⟨hi, fits_row hf (r := rows.getD i 0) ?_ hj h⟩
  simp [hi]
theorem fits_mk {n : Nat} {rows : List (BitVec 64)} (hn : n ≤ 64) (hl : rows.length = n) (h : ∀ i j, bit rows i j = true → j < n) : Fits n rows := by
  refine ⟨by omega, by omega, by omega, fun r hr => ?_⟩
  obtain ⟨i, hi, rfl⟩ := List.getElem_of_mem hr
  apply BitVec.eq_of_getLsbD_eq
  intro j hj
  rw [BitVec.getLsbD_and, BitVec.getLsbD_not, fullM_bit n hn j hj, BitVec.getLsbD_zero]
  have := h i j
  unfold bit at this
  rw [List.getD_eq_getElem?_getD, List.getElem?_eq_getElem hi, Option.getD_some] at this
  cases hb : rows[i].getLsbD j with
  | false => rfl
  | true => simp [hj, this hb]
theorem fits_n {n : Int} {rows : List (BitVec 64)} (hf : Fits n rows) : n = rows.length ∧ rows.length ≤ 64 := by
  have := hf.1; have := hf.2.1; have := hf.2.2.1; omega

/-- the closure's pairs -/
theorem bit_plus {n : Int} {rows : List (BitVec 64)} {i j : Nat} : bit (plusM n rows) i j = true ↔ Way rows n.toNat i j := Iff.rfl
theorem fits_plus {n : Int} {rows : List (BitVec 64)} (hf : Fits n rows) : Fits n (plusM n rows) := by
  obtain ⟨h1, h2⟩ := fits_n hf
  rw [h1]
  refine fits_mk h2 (plusM_len _ _) fun i j h => ?_
  exact way_least rows (fun _ j => j < rows.length) (fun i j h => (fits_bits hf h).2) (fun _ _ _ _ h => h) _ i j h
theorem plus_edge {n : Int} {rows : List (BitVec 64)} {i j : Nat} (h : bit rows i j = true) : bit (plusM n rows) i j = true := way_edge rows _ i j h
theorem plus_trans {n : Int} {rows : List (BitVec 64)} (hf : Fits n rows) {i k j : Nat} (h1 : bit (plusM n rows) i k = true) (h2 : bit (plusM n rows) k j = true) : bit (plusM n rows) i j = true := by
  refine way_trans rows n.toNat i k j ?_ h1 h2
  have h3 := (fits_bits (fits_plus hf) h1).2
  have h4 := fits_n hf
  rw [plusM_len] at h3
  omega
theorem plus_least {n : Int} {rows : List (BitVec 64)} (T : Nat → Nat → Prop) (h1 : ∀ i j, bit rows i j = true → T i j) (h2 : ∀ i k j, T i k → T k j → T i j) {i j : Nat} (h : bit (plusM n rows) i j = true) : T i j :=
  way_least rows T h1 h2 _ i j h

theorem bit_image {n : Int} {rows : List (BitVec 64)} (hf : Fits n rows) (f : BitVec 64) (j : Nat) : (imageM n rows f).getLsbD j = true ↔ ∃ p, f.getLsbD p = true ∧ bit rows p j = true := by
  rw [imageM, if_pos hf, bit_reach]
  constructor
  · rintro ⟨p, h1, h2⟩
    rw [BitVec.getLsbD_and, Bool.and_eq_true] at h1
    exact ⟨p, h1.1, h2⟩
  · rintro ⟨p, h1, h2⟩
    refine ⟨p, ?_, h2⟩
    have h3 := fits_n hf
    have h4 := (fits_bits hf h2).1
    rw [BitVec.getLsbD_and, h1, h3.1, fullM_bit _ h3.2 p (by omega)]
    simpa using h4

/-- one has no bit but the other's -/
theorem sub_iff (a b : BitVec 64) : a &&& ~~~ b = 0#64 ↔ ∀ j, a.getLsbD j = true → b.getLsbD j = true := by
  constructor
  · intro h j hj
    have hlt : j < 64 := by
      rcases Nat.lt_or_ge j 64 with h' | h'
      · exact h'
      · rw [BitVec.getLsbD_of_ge _ _ h'] at hj; cases hj
    have := congrArg (fun x : BitVec 64 => x.getLsbD j) h
    simp only [BitVec.getLsbD_and, BitVec.getLsbD_not, hj, BitVec.getLsbD_zero, hlt, decide_true, Bool.true_and, Bool.not_eq_false'] at this
    exact this
  · intro h
    apply BitVec.eq_of_getLsbD_eq
    intro j hj
    rw [BitVec.getLsbD_and, BitVec.getLsbD_not, BitVec.getLsbD_zero]
    cases ha : a.getLsbD j with
    | false => rfl
    | true => rw [h j ha]; simp

section
variable {n : Int} {rows : List (BitVec 64)} (hf : Fits n rows) (f : BitVec 64)
include hf
theorem law_reach1 : imageM n rows f &&& ~~~ imageM n (plusM n rows) f = 0#64 := by
  rw [sub_iff]
  intro j h
  rw [bit_image hf] at h
  obtain ⟨p, h1, h2⟩ := h
  exact (bit_image (fits_plus hf) f j).2 ⟨p, h1, plus_edge h2⟩
theorem law_reach2 : imageM n rows (imageM n (plusM n rows) f) &&& ~~~ imageM n (plusM n rows) f = 0#64 := by
  rw [sub_iff]
  intro j h
  rw [bit_image hf] at h
  obtain ⟨p, h1, h2⟩ := h
  rw [bit_image (fits_plus hf)] at h1 ⊢
  obtain ⟨q, h3, h4⟩ := h1
  exact ⟨q, h3, plus_trans hf h4 (plus_edge h2)⟩
theorem law_reach3 (x : BitVec 64) (h1 : imageM n rows f &&& ~~~ x = 0#64) (h2 : imageM n rows x &&& ~~~ x = 0#64) : imageM n (plusM n rows) f &&& ~~~ x = 0#64 := by
  rw [sub_iff] at h1 h2 ⊢
  intro j h
  rw [bit_image (fits_plus hf)] at h
  obtain ⟨p, h3, h4⟩ := h
  refine plus_least (fun i j => f.getLsbD i = true ∨ x.getLsbD i = true → x.getLsbD j = true) (fun i j hij hi => ?_) (fun i k j h1 h2 hi => h2 (.inr (h1 hi))) h4 (.inl h3)
  rcases hi with hi | hi
  · exact h1 j ((bit_image hf f j).2 ⟨i, hi, hij⟩)
  · exact h2 j ((bit_image hf x j).2 ⟨i, hi, hij⟩)
end
end Go.AL.Rl

namespace Go.AL.Rl
open Go Go.AL Go.Proofs
variable {γ : Nat → Option AV}
set_option maxRecDepth 100000

/-! ### RelReach -/
theorem relReach_ok (hγ : γ 0 = some tabAV) (n : Int) (rows : List (BitVec 64)) (f other : BitVec 64) : Pure Tryd.prog γ false 3 [encRel n rows, .u fun _ => f, .u fun _ => other] (.b fun _ => true) := by
  refine Pure.go (ty := ty) ty_eq mo Tryd.func3 rfl Tryd.ntmps3 Tryd.results3 Tryd.call3 (by simp) fun P C CQ D W F E hF => ?_
  cbv
  refine E.c (SCalls.of_le (lives_ok hγ) ?_ ?_)
  · cbv; all_goals simp
  cbv
  refine br_f (rfl) ?_
  cbv
  refine E.c (SCalls.of_le (check_ok n rows) ?_ ?_)
  · cbv; all_goals simp
  cbv
  by_cases hf : Fits n rows
  case neg =>
    refine br_t (by simp [checkM, hf]) ?_
    cbv
    refine E.c (SCalls.of_le (image_ok hγ n rows f) ?_ ?_)
    · cbv; all_goals simp
    cbv
    refine hF ?_
    cbv
    simp [imageM, hf]
  refine br_f (by simp [checkM, hf]) ?_
  cbv
  refine E.c (SCalls.of_le (plus_ok n rows hf) ?_ ?_)
  · cbv; all_goals simp
  cbv
  refine E.c (SCalls.of_le (image_ok hγ n (plusM n rows) f) ?_ ?_)
  · cbv; all_goals simp
  cbv
  refine E.c (SCalls.of_le (image_ok hγ n rows f) ?_ ?_)
  · cbv; all_goals simp
  cbv
  refine br_f (by simp [law_reach1 hf f]) ?_
  cbv
  refine E.c (SCalls.of_le (image_ok hγ n rows (imageM n (plusM n rows) f)) ?_ ?_)
  · cbv; all_goals simp
  cbv
  refine br_f (by simp [law_reach2 hf f]) ?_
  cbv
  refine E.c (SCalls.of_le (image_ok hγ n rows f) ?_ ?_)
  · cbv; all_goals simp
  cbv
  refine E.c (SCalls.of_le (image_ok hγ n rows (other ||| imageM n rows f)) ?_ ?_)
  · cbv; all_goals simp
  cbv
  refine ⟨fun _ h1 => ?_, fun _ h1 => ?_⟩
  · cbv
    refine hF ?_
    cbv
    simp
  · cbv
    refine hF ?_
    cbv
    intro _
    have h2 : imageM n rows (other ||| imageM n rows f) &&& ~~~ (other ||| imageM n rows f) = 0#64 := by simpa using h1
    simpa using law_reach3 hf f _ (by rw [sub_iff]; intro j hj; rw [BitVec.getLsbD_or, hj, Bool.or_true]) h2
end Go.AL.Rl

namespace Go.AL.Rl
open Go Go.AL Go.Proofs Go.RowKit Go.ChangeShapes Go.WideShapes Go.ChangeAt Go.Proofs.YtmhkblagbfaflaaDoor
set_option maxRecDepth 100000

/-! ### Arguments -/
theorem dRel : Dec Tryd.prog 24 (Int × List (BitVec 64)) (fun p => [.i fun _ => p.1, .vs 1 fun _ => us p.2]) fun p => (-9223372036854775808 ≤ p.1 ∧ p.1 ≤ 9223372036854775807) ∧ p.2.length ≤ maxLen :=
  fun enc w spare held fuel cs x h => by
    obtain ⟨a, ⟨h1, h2⟩, h3⟩ := Dec.struct2 Tryd.underlying24 (t0 := 3) (t1 := 22) (s0 := 1) (s1 := 1) (by kernel_rfl) (by kernel_rfl) (by kernel_rfl) (by kernel_rfl) (Dec.int Tryd.underlying3)
      (Dec.slice Tryd.underlying22 (k := 1) (by kernel_rfl) (by omega) (Dec.u64 Tryd.underlying25) (fun _ => rfl) Elem.one) enc w spare held fuel cs x h
    exact ⟨a, ⟨h1, h2.1⟩, h3⟩
theorem laidOut : laidOutB Tryd.prog = true := by kernel_rfl
theorem mapsOk : mapsRowed Tryd.prog = true := by kernel_rfl
theorem slicesOk : ((List.range Tryd.prog.types.size).all fun t => match Tryd.prog.underlying t with | some (.slice e) => decide (0 < Tryd.prog.cellsOf e) | _ => true) = true := by kernel_rfl

/-! ### The library's table -/
theorem own : ownKnob Tryd.prog.godebug = none := by kernel_rfl
theorem gTab : Tryd.prog.globalNamed "math/bits.deBruijn64tab" = some 0 := by kernel_rfl
def γ0 : Nat → Option AV := fun g => if g = 0 then some tabAV else none
theorem table {W : World} {laid : List (String × DataW Unit)} (hl : laid = [("math/bits.deBruijn64tab", Rows.laid_math_bits_deBruijn64tab)]) (h : laidMet Tryd.prog laid W) : Lib.TabIs Tryd.prog W "math/bits.deBruijn64tab" .u8 (Lib.deBruijn64tab.map fun (n : Nat) => (n : Int)) := by
  subst hl
  exact Lib.tabIs_of_head (rest := []) gTab (t := 59) (by kernel_rfl) Tryd.underlying59 Tryd.underlying5 (by kernel_rfl) (by kernel_rfl) h
theorem gok0 {W : World} (h : Lib.TabIs Tryd.prog W "math/bits.deBruijn64tab" .u8 (Lib.deBruijn64tab.map fun (n : Nat) => (n : Int))) : ∀ g x, γ0 g = some x → R (Old W) W none (.vp (fun _ => x) 0) (.pointer (some ⟨g, 0, none⟩)) := by
  intro g x hg
  unfold γ0 at hg
  split at hg
  · rename_i h0
    subst h0
    cases hg
    have hc := fun i hi => h.cell gTab i hi
    have hlen : Lib.deBruijn64tab.length = 64 := by decide
    have hcell : ∀ i : Nat, i < 64 → W.cell? ⟨0, i, none⟩ = some (.int .u8 (Lib.deBruijn64tab.getD i 0 : Nat)) := fun i hi => by
      have := hc i (by rw [List.length_map]; omega)
      rw [this]; congr 2
      simp [hlen, hi]
    have hlt : 0 < W.heap.size := by
      have := hcell 0 (by omega)
      unfold World.cell? at this
      split at this
      · rename_i hb; exact (Array.getElem?_eq_some_iff.1 hb).1
      · cases this
    refine ⟨⟨0, 0, none⟩, .agg (Lib.deBruijn64tab.map fun (n : Nat) => Value.int .u8 n).toArray, rfl, ⟨_, rfl, ?_⟩, hlt, fun j c hj => ?_⟩
    · show Rs _ W none (Lib.deBruijn64tab.map fun (n : Nat) => .raw (.int .u8 n)) _
      generalize Lib.deBruijn64tab = l
      induction l with
      | nil => rfl
      | cons x l ih => exact ⟨_, _, rfl, rfl, ih⟩
    · have hj' : (Lib.deBruijn64tab.map fun (n : Nat) => Value.int .u8 n)[j]? = some c := by simpa [Value.cells] using hj
      have hj2 : j < 64 := by have := (List.getElem?_eq_some_iff.1 hj').1; rw [List.length_map] at this; omega
      rw [Nat.zero_add, hcell j hj2, ← hj']
      simp [hlen, hj2]
  · cases hg
end Go.AL.Rl

namespace Go.AL.Rl
open Go Go.AL Go.Proofs Go.RowKit Go.ChangeShapes Go.WideShapes Go.ChangeAt Go.Proofs.YtmhkblagbfaflaaDoor
set_option maxRecDepth 100000

theorem aRel : Arg Tryd.prog 24 (Int × List (BitVec 64)) (fun p => encRel p.1 p.2) (fun p => (-9223372036854775808 ≤ p.1 ∧ p.1 ≤ 9223372036854775807) ∧ p.2.length ≤ maxLen) := Arg.agg Tryd.underlying24 dRel
theorem aU64 : Arg Tryd.prog 25 (BitVec 64) (fun n => .u fun _ => n) (fun _ => True) := Arg.one Tryd.underlying25 trivial (Dec.u64 Tryd.underlying25)
theorem aInt : Arg Tryd.prog 3 Int (fun n => .i fun _ => n) (fun n => -9223372036854775808 ≤ n ∧ n ≤ 9223372036854775807) := Arg.one Tryd.underlying3 trivial (Dec.int Tryd.underlying3)

theorem aPairs : Arg Tryd.prog 32 (List (Int × Int)) (fun l => .vs 2 fun _ => ps l) (fun l => l.length ≤ maxLen) :=
  Arg.one Tryd.underlying32 trivial fun enc w spare held fuel cs x h => by
    obtain ⟨a, h1, h2⟩ := Dec.slice Tryd.underlying32 (k := 2) (by kernel_rfl) (by omega) (Dec.array2 Tryd.underlying39 (k := 1) (by kernel_rfl) (by kernel_rfl) (Dec.int Tryd.underlying3)) (fun _ => rfl) (Elem.agg 2) enc w spare held fuel cs x h
    exact ⟨a, h1.1, h2⟩
/-- A world for the witness: the settled one, the table holding what its initialiser lays. -/
noncomputable def laidWorld (os : Os) : World :=
  { World.holding Tryd.prog os ⟨#[], #[], []⟩ with heap := (World.holding Tryd.prog os ⟨#[], #[], []⟩).heap.modify 0 fun
      | .cells _ t frozen => .cells (Lib.deBruijn64tab.map fun (n : Nat) => Value.int .u8 n).toArray t frozen
      | o => o }

end Go.AL.Rl
