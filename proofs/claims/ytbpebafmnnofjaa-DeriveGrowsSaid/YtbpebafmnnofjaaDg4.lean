import Derived.Test.YtbpebafmnnofjaaDg3
import Derived.Shelf.Spec.TrailingZeros
set_option linter.unusedVariables false
set_option linter.unusedSimpArgs false
namespace Go.AL.Rl
open Go Go.AL Go.Proofs
variable {γ : Nat → Option AV}
set_option maxRecDepth 100000

theorem us_of (a : List (BitVec 64)) : LV.of (us a).l = us a := by simp [us]
theorem us_flat (rows : List (BitVec 64)) : ∀ v ∈ (us rows).l, v.flat = true := by
 intro v hv
 simp only [us, LV.l_of, List.mem_map] at hv
 obtain ⟨x, _, rfl⟩ := hv
 rfl
theorem upd_u (x y : Unit → BitVec 64) : (AV.u x).upd 0 (.u y) = .u y := rfl
theorem us_set (rows : List (BitVec 64)) (i : Nat) (x : BitVec 64) : (us rows).l.set i (.u fun _ => x) = (us (rows.set i x)).l := by simp [us, List.map_set]

theorem copied_ok (n : Int) (rows : List (BitVec 64)) (hf : Fits n rows) : Owns Try.prog γ 44 [encRel n rows] (.agg [.i fun _ => n, .sl 3 0 1 (fun _ => 0) fun _ => n.toNat]) [.any, .any, .any, .run 0 1 fun _ => us rows] := by
 refine Owns.go (ty := ty) ty_eq mo Try.func44 rfl Try.ntmps44 Try.results44 Try.call44 (by simp) fun P C CQ D W F E hF => ?_
 cbv
 refine E.c (SCalls.of_owns (none_in n hf.1 hf.2.1) ?_ ?_)
 ·cbv; simp
 cbv
 obtain ⟨h0, h1, h2, h3⟩ := hf
 refine ⟨fun _ => ⟨rfl, by simp, us_flat rows⟩, ?_⟩
 cbv
 refine hF ?_ ?_
 ·cbv; simp
 ·cbv
  simp
  have e : n.toNat = rows.length := by simp only [nc] at h2; omega
  rw [e]
  simp [us, List.take_of_length_le]

def wStep (by_ : Nat) (rows : List (BitVec 64)) (i : Nat) : List (BitVec 64) :=
 if (rows.getD i 0 >>> by_) &&& 1#64 = 0#64 then rows else rows.set i (rows.getD i 0 ||| rows.getD by_ 0)
def wIn (by_ k : Nat) (rows : List (BitVec 64)) : List (BitVec 64) := (List.range k).foldl (wStep by_) rows
def wOut (m : Nat) (rows : List (BitVec 64)) : List (BitVec 64) := (List.range m).foldl (fun r b => wIn b rows.length r) rows
theorem wStep_len (b : Nat) (rows : List (BitVec 64)) (i : Nat) : (wStep b rows i).length = rows.length := by unfold wStep; split <;> simp
theorem wIn_succ (b k : Nat) (rows : List (BitVec 64)) : wIn b (k + 1) rows = wStep b (wIn b k rows) k := by simp [wIn, List.range_succ]
theorem wIn_len (b : Nat) (rows : List (BitVec 64)) : ∀ k, (wIn b k rows).length = rows.length
 | 0 => rfl
 | k + 1 => by rw [wIn_succ, wStep_len, wIn_len b rows k]
theorem wOut_succ (m : Nat) (rows : List (BitVec 64)) : wOut (m + 1) rows = wIn m rows.length (wOut m rows) := by simp [wOut, List.range_succ]
theorem wOut_len (rows : List (BitVec 64)) : ∀ m, (wOut m rows).length = rows.length
 | 0 => rfl
 | m + 1 => by rw [wOut_succ, wIn_len, wOut_len rows m]
def plusM (n : Int) (rows : List (BitVec 64)) : List (BitVec 64) := wOut n.toNat rows

theorem plus_ok (n : Int) (rows : List (BitVec 64)) (hf : Fits n rows) : Pure Try.prog γ false 28 [encRel n rows] (encRel n (plusM n rows)) := by
 refine Pure.go (ty := ty) ty_eq mo Try.func28 rfl Try.ntmps28 Try.results28 Try.call28 (by simp) fun P C CQ D W F E hF => ?_
 cbv
 refine E.c (SCalls.of_le (check_ok n rows) ?_ ?_)
 ·cbv; simp
 cbv
 refine br_f (by simp [checkM, hf]) ?_
 cbv
 refine E.c (SCalls.of_owns (copied_ok n rows hf) ?_ ?_)
 ·cbv; simp
 cbv
 obtain ⟨h0, h1, h2, h3⟩ := hf
 obtain ⟨len, hlen⟩ : ∃ len : Nat, n = len := ⟨n.toNat, by omega⟩
 subst hlen
 simp only [Int.toNat_natCast, nc, nct]
 have h2 : rows.length = len := by first | omega | (simp only [nc] at h2; omega)
 have hl : len ≤ 64 := by omega
 refine E.loop (ι := Nat) (fun m => m ≤ len) (fun m => len - m) (fun m => [(15, .i fun _ => (m : Int))])
  (fun m => [.box (encRel len rows), .box (.agg [.lit 0, .nils]), .any, .any, .any, .run 0 1 fun _ => us (wOut m rows), .box (.agg [.i fun _ => len, .sl 5 0 1 (fun _ => 0) fun _ => len])])
  0 rfl (fun _ => rfl) (Nat.zero_le _) ?_ fun m hm I hI => ?_
 ·cbv
  simp [wOut]
 cbv
 refine ⟨fun _ h4 => ?_, fun _ h4 => ?_⟩
 ·cbv
  have hmm : m < len := by simpa using h4
  refine E.loop (ι := Nat) (fun k => k ≤ len) (fun k => len - k) (fun k => [(21, .i fun _ => (k : Int))])
   (fun k => [.box (encRel len rows), .box (.agg [.lit 0, .nils]), .any, .any, .any, .run 0 1 fun _ => us (wIn m k (wOut m rows)), .box (.agg [.i fun _ => len, .sl 5 0 1 (fun _ => 0) fun _ => len])])
   0 rfl (fun _ => rfl) (Nat.zero_le _) ?_ fun k hk I2 hI2 => ?_
  ·cbv
   simp [wIn]
  cbv
  refine ⟨fun _ h5 => ?_, fun _ h5 => ?_⟩
  ·cbv
   have hkk : k < len := by simpa using h5
   have hlw : (wIn m k (wOut m rows)).length = len := by rw [wIn_len, wOut_len, h2]
   have hku : k < (wIn m k (wOut m rows)).length := by omega
   have hmu : m < (wIn m k (wOut m rows)).length := by omega
   have hsh : (BitVec.ofInt 64 (m : Int)).toNat = m := by simp; omega
   refine ⟨fun _ => by simp; omega, fun _ => ⟨rfl, by simp; omega⟩, fun _ => by rw [Nat.zero_add, nct, us_get _ k hku]; rfl, fun _ h6 => ?_, fun _ h6 => ?_⟩
   ·cbv
    refine E.d 12 (by kernel_rfl) ?_
    cbv
    refine ⟨fun _ => by simp; omega, fun _ => ⟨rfl, by simp; omega⟩, fun _ => by rw [Nat.zero_add, nct, us_get _ k hku]; rfl, fun _ => by simp; omega, fun _ => ⟨rfl, by simp; omega⟩, fun _ => by rw [Nat.zero_add, nct, us_get _ m hmu]; rfl, fun _ => by simp; omega,
     fun _ => ⟨rfl, by simp; omega, by rw [Nat.zero_add, nct, us_get _ k hku]; rfl⟩, ?_⟩
    refine hI2 (k + 1) (by omega) (by omega) ?_
    cbv
    clear hI hI2
    simp only [Nat.zero_add, nct, us_get _ k hku, at_u, nc, hsh] at h6
    simp only [Nat.zero_add, nct, us_get _ k hku, us_get _ m hmu, at_u, upd_u, us_set, us_of, nc]
    simp only [implies_true, and_true, true_and, forall_const]
    refine ⟨w64_of (by omega) (by omega), ?_⟩
    rw [wIn_succ, wStep, if_neg (by simpa using h6)]
   ·cbv
    refine hI2 (k + 1) (by omega) (by omega) ?_
    cbv
    clear hI hI2
    simp
    simp only [Nat.zero_add, nct, us_get _ k hku, at_u, nc, hsh] at h6
    refine ⟨w64_of (by omega) (by omega), ?_⟩
    rw [wIn_succ, wStep, if_pos (by simpa using h6)]
  ·cbv
   refine hI (m + 1) (by omega) (by omega) ?_
   cbv
   clear hI hI2
   have : k = len := by simp at h5; omega
   simp
   refine ⟨w64_of (by omega) (by omega), ?_⟩
   rw [wOut_succ, this, h2]
 ·cbv
  refine hF ?_
  cbv
  clear hI
  have hml : m = len := by simp at h4; omega
  have hlw : (wOut m rows).length = len := by rw [wOut_len, h2]
  simp [plusM]
  rw [hml] at hlw ⊢
  exact ⟨by omega, by rw [List.take_of_length_le (by simp; omega)]⟩
end Go.AL.Rl

namespace Go.Proofs
end Go.Proofs
namespace Go.AL.Rl
open Go Go.AL Go.Proofs
variable {γ : Nat → Option AV}
set_option maxRecDepth 100000

end Go.AL.Rl

namespace Go.AL.Rl
open Go Go.AL Go.Proofs
variable {γ : Nat → Option AV}
set_option maxRecDepth 100000

theorem fullM_bit (k : Nat) (hk : k ≤ 64) (p : Nat) (hp : p < 64) : (fullM k).getLsbD p = decide (p < k) := by
 have e : (fullM k).toNat = 2 ^ k - 1 := by
  unfold fullM
  rw [show (BitVec.ofInt 64 (k : Int)).toNat = k from by simp; omega]
  rcases Nat.lt_or_ge k 64 with h | h
  ·have h2 : (1#64 <<< k).toNat = 2 ^ k := by
    rw [BitVec.toNat_shiftLeft, Nat.shiftLeft_eq]
    simp
    exact Nat.pow_lt_pow_right (by omega) h
   have hpos : 0 < 2 ^ k := Nat.pow_pos (by omega)
   rw [BitVec.toNat_sub_of_le (by rw [BitVec.le_def, h2]; exact hpos), h2]
   rfl
  ·obtain rfl : k = 64 := by omega
   rfl
 show (fullM k).toNat.testBit p = _
 rw [e, Nat.testBit_two_pow_sub_one]
theorem fits_bit {n : Int} {rows : List (BitVec 64)} (hf : Fits n rows) {f : BitVec 64} {p : Nat} (hp : p < 64) (h : (f &&& fullM n).getLsbD p = true) : p < rows.length := by
 obtain ⟨h0, h1, h2, _⟩ := hf
 obtain ⟨k, rfl⟩ : ∃ k : Nat, n = k := ⟨n.toNat, by omega⟩
 rw [BitVec.getLsbD_and, fullM_bit k (by omega) p hp] at h
 simp at h
 omega
theorem fits_row {n : Int} {rows : List (BitVec 64)} (hf : Fits n rows) {r : BitVec 64} (hr : r ∈ rows) {p : Nat} (hp : p < 64) (h : r.getLsbD p = true) : p < rows.length := by
 refine fits_bit hf (f := r) hp ?_
 have := congrArg (fun x : BitVec 64 => x.getLsbD p) (hf.2.2.2 r hr)
 rw [BitVec.getLsbD_and, h, Bool.true_and, BitVec.getLsbD_eq_getElem hp]
 simpa [h, hp] using this

end Go.AL.Rl

namespace Go.AL.Rl
open Go Go.AL Go.Proofs
variable {γ : Nat → Option AV}
set_option maxRecDepth 100000

theorem kitRel_ok (n m : Int) (r q : List (BitVec 64)) (hr : r.length < 4611686018427387904) : Pure Try.prog γ false 12 [encRel n r, encRel m q] (.b fun _ => decide (n = m ∧ r = q)) := by
 refine Pure.go (ty := ty) ty_eq mo Try.func12 rfl Try.ntmps12 Try.results12 Try.call12 (by simp) fun P C CQ D W F E hF => ?_
 cbv
 refine ⟨fun _ h0 => ?_, fun _ h0 => ?_⟩
 ·cbv
  refine hF ?_
  cbv
  intro _
  simp at h0 ⊢
  simp [h0]
 cbv
 refine ⟨fun _ h1 => ?_, fun _ h1 => ?_⟩
 ·cbv
  refine hF ?_
  cbv
  intro _
  simp at h1 ⊢
  rintro - rfl
  omega
 cbv
 have e0 : n = m := by simpa using h0
 have e1 : r.length = q.length := by simp at h1; omega
 refine E.loop (ι := Nat) (fun i => i ≤ r.length ∧ ∀ k < i, r.getD k 0 = q.getD k 0) (fun i => r.length - i) (fun i => [(5, .i fun _ => (i : Int))]) (fun _ => [.box (encRel n r), .box (encRel m q)]) 0 rfl (fun _ => rfl) ⟨Nat.zero_le _, by simp⟩ ?_ fun i hi I hI => ?_
 ·cbv
  simp
 cbv
 refine ⟨fun _ h2 => ?_, fun _ h2 => ?_⟩
 ·cbv
  have hlt : i < r.length := by simpa using h2
  refine E.d 11 (by kernel_rfl) ?_
  cbv
  refine ⟨fun _ => by simp; omega, fun _ => by rw [nct, us_get _ i hlt]; rfl, fun _ => by simp; omega, fun _ => by rw [nct, us_get _ i (by omega)]; rfl, fun _ h3 => ?_, fun _ h3 => ?_⟩
  ·cbv
   refine hF ?_
   cbv
   clear hI
   simp only [nct, us_get _ i hlt, us_get q i (by omega), at_u] at h3
   intro _
   simp at h3 ⊢
   rintro - rfl
   simp at h3
  ·cbv
   refine hI (i + 1) ?_ (by omega) ?_
   ·clear hI
    simp only [nct, us_get _ i hlt, us_get q i (by omega), at_u] at h3
    refine ⟨hlt, fun k hk => ?_⟩
    rcases Nat.lt_or_ge k i with h | h
    ·exact hi.2 k h
    ·obtain rfl : k = i := by omega
     simpa using h3
   ·cbv
    clear hI
    simp
    exact w64_of (by omega) (by omega)
 ·cbv
  refine hF ?_
  cbv
  clear hI
  intro _
  have : i = r.length := by simp at h2; omega
  simp
  refine ⟨e0, List.ext_getElem e1 fun k h1 h2 => ?_⟩
  have := hi.2 k (by omega)
  simpa [h1, h2] using this

theorem plusM_len (n : Int) (rows : List (BitVec 64)) : (plusM n rows).length = rows.length := wOut_len _ _
end Go.AL.Rl

namespace Go.AL.Rl
open Go Go.AL Go.Proofs
variable {γ : Nat → Option AV}
set_option maxRecDepth 100000

end Go.AL.Rl

namespace Go.AL.Rl

/-- is 'i' related to 'j'? -/
def bit (rows : List (BitVec 64)) (i j : Nat) : Bool := (rows.getD i 0).getLsbD j

theorem and_one_zero (x : BitVec 64) (k : Nat) : ((x >>> k) &&& 1#64 = 0#64) ↔ x.getLsbD k = false := by
 constructor
 ·intro h
  have := congrArg (fun y : BitVec 64 => y.getLsbD 0) h
  simpa [BitVec.getLsbD_and, BitVec.getLsbD_ushiftRight] using this
 ·intro h
  apply BitVec.eq_of_getLsbD_eq
  intro i hi
  rw [BitVec.getLsbD_and, BitVec.getLsbD_ushiftRight, BitVec.getLsbD_one, BitVec.getLsbD_zero]
  by_cases h0 : i = 0
  ·subst h0; simp [h]
  ·simp [h0]

theorem getD_set_self (l : List (BitVec 64)) (i : Nat) (x : BitVec 64) (h : i < l.length) : (l.set i x).getD i 0 = x := by simp [h]
theorem getD_set_ne' (l : List (BitVec 64)) (i k : Nat) (x : BitVec 64) (h : i ≠ k) : (l.set i x).getD k 0 = l.getD k 0 := by simp [List.getElem?_set_ne h]

theorem wStep_get (b : Nat) (rows : List (BitVec 64)) (i : Nat) (hi : i < rows.length) (k : Nat) :
  (wStep b rows i).getD k 0 = if k = i ∧ bit rows i b = true then rows.getD i 0 ||| rows.getD b 0 else rows.getD k 0 := by
 unfold wStep
 by_cases hb : bit rows i b = true
 ·rw [if_neg (by rw [and_one_zero]; unfold bit at hb; simp only [hb]; simp)]
  by_cases hk : k = i
  ·subst hk; rw [getD_set_self _ _ _ hi, if_pos ⟨rfl, hb⟩]
  ·rw [getD_set_ne' _ _ _ _ (Ne.symm hk), if_neg (fun h => hk h.1)]
 ·rw [if_pos (by rw [and_one_zero]; unfold bit at hb; simpa using hb), if_neg (fun h => hb h.2)]

/-- one pass: all rows that lead to 'b' take over its row -/
theorem wIn_get (b : Nat) (rows : List (BitVec 64)) : ∀ (k : Nat), k ≤ rows.length → ∀ i, (wIn b k rows).getD i 0 = if i < k ∧ bit rows i b = true then rows.getD i 0 ||| rows.getD b 0 else rows.getD i 0
 | 0, _, i => by simp [wIn]
 | k + 1, hk, i => by
  have ih := wIn_get b rows k (by omega)
  have hrowb : (wIn b k rows).getD b 0 = rows.getD b 0 := by
   rw [ih b]; split
   ·simp
   ·rfl
  have hrowk : (wIn b k rows).getD k 0 = rows.getD k 0 := by
   rw [ih k, if_neg (by omega)]
  rw [wIn_succ, wStep_get b _ k (by rw [wIn_len]; omega) i, hrowb, hrowk]
  have hbk : bit (wIn b k rows) k b = bit rows k b := by unfold bit; rw [hrowk]
  rw [hbk]
  by_cases hik : i = k
  ·subst hik
   by_cases hb : bit rows i b = true
   ·rw [if_pos ⟨rfl, hb⟩, if_pos ⟨by omega, hb⟩]
   ·rw [if_neg (fun h => hb h.2), if_neg (fun h => hb h.2), hrowk]
  ·rw [if_neg (fun h => hik h.1), ih i]
   by_cases hlt : i < k
   ·by_cases hb : bit rows i b = true
    ·rw [if_pos ⟨hlt, hb⟩, if_pos ⟨by omega, hb⟩]
    ·rw [if_neg (fun h => hb h.2), if_neg (fun h => hb h.2)]
   ·rw [if_neg (fun h => hlt h.1), if_neg (fun h => by omega)]

theorem bit_out {rows : List (BitVec 64)} {i : Nat} (h : rows.length ≤ i) (j : Nat) : bit rows i j = false := by
 unfold bit
 rw [List.getD_eq_getElem?_getD, List.getElem?_eq_none h]
 simp

theorem bit_wIn (b : Nat) (rows : List (BitVec 64)) (i j : Nat) : bit (wIn b rows.length rows) i j = (bit rows i j || (bit rows i b && bit rows b j)) := by
 by_cases hi : i < rows.length
 ·unfold bit
  rw [wIn_get b rows _ (Nat.le_refl _) i]
  by_cases hb : bit rows i b = true
  ·rw [if_pos ⟨hi, hb⟩]
   unfold bit at hb
   rw [BitVec.getLsbD_or, hb, Bool.true_and]
  ·rw [if_neg (fun h => hb h.2)]
   unfold bit at hb
   simp only [Bool.not_eq_true] at hb
   rw [hb]; simp
 ·rw [bit_out (by rw [wIn_len]; omega), bit_out (by omega), bit_out (i := i) (by omega)]; rfl

/-- ways by things below 'm' -/
def Way (rows : List (BitVec 64)) (m i j : Nat) : Prop := bit (wOut m rows) i j = true
theorem way_succ (rows : List (BitVec 64)) (m i j : Nat) : Way rows (m + 1) i j ↔ Way rows m i j ∨ (Way rows m i m ∧ Way rows m m j) := by
 unfold Way
 rw [wOut_succ, show rows.length = (wOut m rows).length from (wOut_len _ _).symm, bit_wIn]
 simp
theorem way_trans (rows : List (BitVec 64)) : ∀ (m i k j : Nat), k < m → Way rows m i k → Way rows m k j → Way rows m i j
 | 0, i, k, j, h, _, _ => by omega
 | m + 1, i, k, j, h, h1, h2 => by
  rw [way_succ] at h1 h2 ⊢
  by_cases hk : k = m
  ·subst hk
   exact .inr ⟨h1.elim id (·.1), h2.elim id (·.2)⟩
  ·have hk' : k < m := by omega
   have tr := fun i j => way_trans rows m i k j hk'
   rcases h1 with h1 | ⟨h1, h1'⟩ <;> rcases h2 with h2 | ⟨h2, h2'⟩
   ·exact .inl (tr i j h1 h2)
   ·exact .inr ⟨tr i m h1 h2, h2'⟩
   ·exact .inr ⟨h1, tr m j h1' h2⟩
   ·exact .inr ⟨h1, h2'⟩
theorem way_mono (rows : List (BitVec 64)) (m i j : Nat) : ∀ d, Way rows m i j → Way rows (m + d) i j
 | 0, h => h
 | d + 1, h => by rw [← Nat.add_assoc, way_succ]; exact .inl (way_mono rows m i j d h)
theorem way_edge (rows : List (BitVec 64)) (m i j : Nat) (h : bit rows i j = true) : Way rows m i j := by
 have := way_mono rows 0 i j m h
 simpa using this
/-- the least such -/
theorem way_least (rows : List (BitVec 64)) (T : Nat → Nat → Prop) (h1 : ∀ i j, bit rows i j = true → T i j) (h2 : ∀ i k j, T i k → T k j → T i j) : ∀ (m i j : Nat), Way rows m i j → T i j
 | 0, i, j, h => h1 i j h
 | m + 1, i, j, h => by
  rw [way_succ] at h
  rcases h with h | ⟨h, h'⟩
  ·exact way_least rows T h1 h2 m i j h
  ·exact h2 i m j (way_least rows T h1 h2 m i m h) (way_least rows T h1 h2 m m j h')
end Go.AL.Rl

namespace Go.AL.Rl
open Go Go.AL Go.Proofs
variable {γ : Nat → Option AV}
set_option maxRecDepth 100000

/-- pairs, as they are told -/
def ps (l : List (Int × Int)) : LV := LV.of (l.map fun x => .agg [.i fun _ => x.1, .i fun _ => x.2])
@[simp] theorem ps_len (l : List (Int × Int)) : (ps l).l.length = l.length := by simp [ps]
theorem ps_get (l : List (Int × Int)) (i : Nat) (h : i < l.length) : (ps l).l.getD i .any = .agg [.i fun _ => (l.getD i (0, 0)).1, .i fun _ => (l.getD i (0, 0)).2] := by
 simp [ps, h]
theorem at_p0 (x y : Unit → Int) : ((AV.agg [.i x, .i y]).at 0).asI = x () := rfl
theorem at_p1 (x y : Unit → Int) : ((AV.agg [.i x, .i y]).at 1).asI = y () := rfl
def ofStep (n : Int) (acc : List (BitVec 64)) (p : Int × Int) : List (BitVec 64) :=
 if 0 ≤ p.1 ∧ p.1 < n ∧ 0 ≤ p.2 ∧ p.2 < n then acc.set p.1.toNat (acc.getD p.1.toNat 0 ||| 1#64 <<< p.2.toNat) else acc
def ofTo (n : Int) (l : List (Int × Int)) (k : Nat) : List (BitVec 64) := (l.take k).foldl (ofStep n) (List.replicate n.toNat 0#64)
theorem ofTo_succ (n : Int) (l : List (Int × Int)) (k : Nat) (h : k < l.length) : ofTo n l (k + 1) = ofStep n (ofTo n l k) (l.getD k (0, 0)) := by
 rw [ofTo, List.take_succ_eq_append_getElem h, List.foldl_append]; simp only [List.foldl_cons, List.foldl_nil, List.getD_eq_getElem?_getD, List.getElem?_eq_getElem h, Option.getD_some]; rfl
theorem ofStep_len (n : Int) (acc : List (BitVec 64)) (p : Int × Int) : (ofStep n acc p).length = acc.length := by unfold ofStep; split <;> simp
theorem ofTo_len (n : Int) (l : List (Int × Int)) (k : Nat) : (ofTo n l k).length = n.toNat := by
 unfold ofTo
 generalize l.take k = q
 have : ∀ (q : List (Int × Int)) (a : List (BitVec 64)), (q.foldl (ofStep n) a).length = a.length := by
  intro q
  induction q with
  | nil => intro a; rfl
  | cons x q ih => intro a; rw [List.foldl_cons, ih, ofStep_len]
 rw [this]; simp

theorem of_in (n : Int) (l : List (Int × Int)) (h0 : 0 ≤ n) (h1 : n ≤ 64) (hl : l.length < 4611686018427387904) : Pure Try.prog γ false 41 [.i fun _ => n, .vs 2 fun _ => ps l] (encRel n (ofTo n l l.length)) := by
 refine Pure.go (ty := ty) ty_eq mo Try.func41 rfl Try.ntmps41 Try.results41 Try.call41 (by simp) fun P C CQ D W F E hF => ?_
 cbv
 refine E.c (SCalls.of_owns (none_in n h0 h1) ?_ ?_)
 ·cbv; simp
 cbv
 obtain ⟨len, hlen⟩ : ∃ len : Nat, n = len := ⟨n.toNat, by omega⟩
 subst hlen
 simp only [Int.toNat_natCast, nc]
 have hln : len ≤ 64 := by omega
 refine E.loop (ι := Nat) (fun m => m ≤ l.length) (fun m => l.length - m) (fun m => [(12, .i fun _ => (m : Int))])
  (fun m => [.box (.agg [.lit 0, .nils]), .any, .run 0 1 fun _ => us (ofTo len l m), .box (.agg [.i fun _ => len, .sl 2 0 1 (fun _ => 0) fun _ => len])])
  0 rfl (fun _ => rfl) (Nat.zero_le _) ?_ fun m hm I hI => ?_
 ·cbv
  simp [ofTo]
 cbv
 refine ⟨fun _ h4 => ?_, fun _ h4 => ?_⟩
 ·cbv
  have hmr : m < l.length := by simp at h4; omega
  refine ⟨fun _ => by simp; omega, fun _ => by rw [nct, ps_get _ m hmr]; rfl, ?_⟩
  cbv
  have hs := ofTo_succ len l m hmr
  simp only [nct, ps_get _ m hmr, at_p0, at_p1]
  generalize l.getD m (0, 0) = p at hs ⊢
  have hlw : (ofTo len l m).length = len := by rw [ofTo_len]; simp
  have no : ¬ (0 ≤ p.1 ∧ p.1 < len ∧ 0 ≤ p.2 ∧ p.2 < len) → ofTo len l (m + 1) = ofTo len l m := fun h => by rw [hs, ofStep, if_neg h]
  refine ⟨fun _ h5 => ?_, fun _ h5 => ?_⟩
  ·cbv
   simp at h5
   refine ⟨fun _ h6 => ?_, fun _ h6 => ?_⟩
   ·cbv
    simp at h6
    refine ⟨fun _ h7 => ?_, fun _ h7 => ?_⟩
    ·cbv
     simp at h7
     refine ⟨fun _ h8 => ?_, fun _ h8 => ?_⟩
     ·cbv
      simp at h8
      refine E.d 12 (by kernel_rfl) ?_
      cbv
      simp only [nc] at hlw h5 h6 h7 h8
      have hp : p.1.toNat < (ofTo len l m).length := by omega
      have hsh : (BitVec.ofInt 64 p.2).toNat = p.2.toNat := by simp; omega
      refine ⟨fun _ => by simp only [nc]; omega, fun _ => ⟨rfl, by simp; omega⟩, fun _ => by rw [Nat.zero_add, us_get _ _ hp]; rfl, fun _ => by simp only [nc]; omega, fun _ => ⟨rfl, by simp; omega, by rw [Nat.zero_add, us_get _ _ hp]; rfl⟩, ?_⟩
      refine hI (m + 1) (by omega) (by omega) ?_
      cbv
      clear hI
      simp only [nc] at hs h6 h8
      simp only [Nat.zero_add, nc, us_get _ _ hp, at_u, upd_u, us_set, us_of, hsh]
      simp only [implies_true, and_true, true_and, forall_const]
      refine ⟨w64_of (by omega) (by omega), ?_⟩
      rw [hs, ofStep, if_pos ⟨h5, h6, h7, h8⟩]
      rfl
     ·cbv
      refine hI (m + 1) (by omega) (by omega) ?_
      cbv
      clear hI
      simp at h8
      simp
      refine ⟨w64_of (by omega) (by omega), ?_⟩
      simp only [nc] at no
      rw [no (fun h => absurd h.2.2.2 (by simpa using h8))]
    ·cbv
     refine hI (m + 1) (by omega) (by omega) ?_
     cbv
     clear hI
     simp at h7
     simp
     exact ⟨w64_of (by omega) (by omega), by rw [no (by omega)]⟩
   ·cbv
    refine hI (m + 1) (by omega) (by omega) ?_
    cbv
    clear hI
    simp at h6
    simp
    refine ⟨w64_of (by omega) (by omega), ?_⟩
    simp only [nc] at no
    rw [no (fun h => absurd h.2.1 (by simpa using h6))]
  ·cbv
   refine hI (m + 1) (by omega) (by omega) ?_
   cbv
   clear hI
   simp at h5
   simp
   exact ⟨w64_of (by omega) (by omega), by rw [no (by omega)]⟩
 ·cbv
  refine hF ?_
  cbv
  clear hI
  have hml : m = l.length := by simp at h4; omega
  have hlw : (ofTo len l l.length).length = len := by rw [ofTo_len]; simp
  simp [hml]
  exact ⟨by omega, by rw [List.take_of_length_le (by simp; omega)]⟩

end Go.AL.Rl

namespace Go.AL.Rl
open Go Go.AL Go.Proofs
variable {γ : Nat → Option AV}
set_option maxRecDepth 100000

def cand (ahead : List (BitVec 64)) (left : BitVec 64) (i : Nat) : Prop := left.getLsbD i = true ∧ ahead.getD i 0 &&& left = 0#64
/-- all that is left is sorted behind what is told -/
inductive Sorts (ahead : List (BitVec 64)) (len : Nat) : BitVec 64 → List Int → List Int → Prop
 | done (acc : List Int) : Sorts ahead len 0#64 acc acc
 | step (left : BitVec 64) (acc res : List Int) (i : Nat) (hi : i < len) (hc : cand ahead left i) (hn : ∀ k < i, ¬ cand ahead left k) (h : Sorts ahead len (left &&& ~~~ (1#64 <<< i)) (acc ++ [(i : Int)]) res) : Sorts ahead len left acc res
theorem Sorts.inv {ah : List (BitVec 64)} {len : Nat} {left : BitVec 64} {acc res : List Int} (h : Sorts ah len left acc res) (h0 : left ≠ 0#64) :
  ∃ i, i < len ∧ cand ah left i ∧ (∀ k < i, ¬ cand ah left k) ∧ Sorts ah len (left &&& ~~~ (1#64 <<< i)) (acc ++ [(i : Int)]) res := by
 cases h with
 | done => exact absurd rfl h0
 | step _ _ _ i hi hc hn h => exact ⟨i, hi, hc, hn, h⟩
theorem Sorts.fin {ah : List (BitVec 64)} {len : Nat} {acc res : List Int} (h : Sorts ah len 0#64 acc res) : acc = res := by
 cases h with
 | done => rfl
 | step _ _ _ i hi hc hn h => exact absurd hc.1 (by simp)

end Go.AL.Rl

namespace Go.AL.Rl
open Go Go.AL Go.Proofs
variable {γ : Nat → Option AV}
set_option maxRecDepth 100000

end Go.AL.Rl

namespace Go.AL.Rl
theorem fits_bits {n : Int} {rows : List (BitVec 64)} (hf : Fits n rows) {i j : Nat} (h : bit rows i j = true) : i < rows.length ∧ j < rows.length := by
 have hi : i < rows.length := by
  rcases Nat.lt_or_ge i rows.length with h' | h'
  ·exact h'
  ·rw [bit_out h'] at h; cases h
 have hj : j < 64 := by
  rcases Nat.lt_or_ge j 64 with h' | h'
  ·exact h'
  ·unfold bit at h; rw [BitVec.getLsbD_of_ge _ _ h'] at h; cases h
 refine ⟨hi, fits_row hf (r := rows.getD i 0) ?_ hj h⟩
 simp [hi]
theorem fits_mk {n : Nat} {rows : List (BitVec 64)} (hn : n ≤ 64) (hl : rows.length = n) (h : ∀ i j, bit rows i j = true → j < n) : Fits n rows := by
 refine ⟨by omega, by omega, by omega, fun r hr => ?_⟩
 obtain ⟨i, hi, rfl⟩ := List.getElem_of_mem hr
 apply BitVec.eq_of_getLsbD_eq
 intro j hj
 rw [BitVec.getLsbD_and, BitVec.getLsbD_not, fullM_bit n hn j hj, BitVec.getLsbD_zero]
 have := h i j
 unfold bit at this
 rw [List.getD_eq_getElem?_getD, List.getElem?_eq_getElem hi, Option.getD_some] at this
 cases hb : rows[i].getLsbD j with
 | false => rfl
 | true => simp [hj, this hb]
theorem fits_n {n : Int} {rows : List (BitVec 64)} (hf : Fits n rows) : n = rows.length ∧ rows.length ≤ 64 := by
 have := hf.1; have := hf.2.1; have := hf.2.2.1; omega

theorem fits_plus {n : Int} {rows : List (BitVec 64)} (hf : Fits n rows) : Fits n (plusM n rows) := by
 obtain ⟨h1, h2⟩ := fits_n hf
 rw [h1]
 refine fits_mk h2 (plusM_len _ _) fun i j h => ?_
 exact way_least rows (fun _ j => j < rows.length) (fun i j h => (fits_bits hf h).2) (fun _ _ _ _ h => h) _ i j h
theorem plus_edge {n : Int} {rows : List (BitVec 64)} {i j : Nat} (h : bit rows i j = true) : bit (plusM n rows) i j = true := way_edge rows _ i j h
theorem plus_trans {n : Int} {rows : List (BitVec 64)} (hf : Fits n rows) {i k j : Nat} (h1 : bit (plusM n rows) i k = true) (h2 : bit (plusM n rows) k j = true) : bit (plusM n rows) i j = true := by
 refine way_trans rows n.toNat i k j ?_ h1 h2
 have h3 := (fits_bits (fits_plus hf) h1).2
 have h4 := fits_n hf
 rw [plusM_len] at h3
 omega
theorem plus_least {n : Int} {rows : List (BitVec 64)} (T : Nat → Nat → Prop) (h1 : ∀ i j, bit rows i j = true → T i j) (h2 : ∀ i k j, T i k → T k j → T i j) {i j : Nat} (h : bit (plusM n rows) i j = true) : T i j :=
 way_least rows T h1 h2 _ i j h

section
variable {n : Int} {rows : List (BitVec 64)} (hf : Fits n rows) (f : BitVec 64)
include hf
end
end Go.AL.Rl

namespace Go.AL.Rl
open Go Go.AL Go.Proofs
variable {γ : Nat → Option AV}
set_option maxRecDepth 100000

end Go.AL.Rl

namespace Go.AL.Rl
open Go Go.AL Go.Proofs
variable {γ : Nat → Option AV}
set_option maxRecDepth 100000

def tab (n : Nat) (f : Nat → BitVec 64) : List (BitVec 64) := (List.range n).map f
@[simp] theorem tab_len (n : Nat) (f : Nat → BitVec 64) : (tab n f).length = n := by simp [tab]
theorem tab_get (n : Nat) (f : Nat → BitVec 64) (i : Nat) (h : i < n) : (tab n f).getD i 0 = f i := by simp [tab, h]
theorem tab_congr {n : Nat} {f g : Nat → BitVec 64} (h : ∀ i < n, f i = g i) : tab n f = tab n g := List.map_congr_left fun i hi => h i (by simpa using hi)
theorem tab_set {n : Nat} {f g : Nat → BitVec 64} (i : Nat) (x : BitVec 64) (_ : i < n) (hx : g i = x) (h : ∀ j < n, j ≠ i → g j = f j) : (tab n f).set i x = tab n g := by
 apply List.ext_getElem (by simp)
 intro j h1 h2
 have hj : j < n := by simpa using h2
 rw [List.getElem_set]
 split
 ·rename_i e; subst e; simp [tab, hx]
 ·rename_i e; simp [tab]; exact (h j hj (Ne.symm e)).symm
theorem tab_zero (n : Nat) : tab n (fun _ => 0#64) = List.replicate n 0#64 := by
 apply List.ext_getElem (by simp)
 intro j h1 h2
 simp [tab]
theorem fits_len {n : Int} {rows : List (BitVec 64)} (hf : Fits n rows) : ∃ k : Nat, n = k ∧ rows.length = k ∧ k ≤ 64 := by
 have := hf.1; have := hf.2.1; have := hf.2.2.1
 exact ⟨rows.length, by omega, rfl, by omega⟩

def hasM (n : Int) (rows : List (BitVec 64)) (i j : Int) : Bool := decide (Fits n rows ∧ 0 ≤ i ∧ i < n ∧ 0 ≤ j ∧ j < n) && bit rows i.toNat j.toNat
abbrev RelV := Int × List (BitVec 64)
def rls (l : List RelV) : LV := LV.of (l.map fun r => encRel r.1 r.2)
@[simp] theorem rls_len (l : List RelV) : (rls l).l.length = l.length := by simp [rls]
theorem rls_get (l : List RelV) (i : Nat) (h : i < l.length) : (rls l).l.getD i .any = encRel (l.getD i (0, [])).1 (l.getD i (0, [])).2 := by
 simp [rls, h]
theorem at_r0 (x : Unit → Int) (y : AV) : ((AV.agg [.i x, y]).at 0).asI = x () := rfl
theorem at_r1 (x : AV) (k : Nat) (y : Unit → LV) : ((AV.agg [x, .vs k y]).at 1).asL = y () := rfl
def Alike (l : List RelV) : Prop := 0 < l.length ∧ ∀ i < l.length, Fits (l.getD i (0, [])).1 (l.getD i (0, [])).2 ∧ (l.getD i (0, [])).1 = (l.getD 0 (0, [])).1
instance (l : List RelV) : Decidable (Alike l) := by unfold Alike; infer_instance
theorem alike_ok (l : List RelV) (hl : l.length < 4611686018427387904) : Pure Try.prog γ false 45 [.vs 2 fun _ => rls l] (.b fun _ => decide (Alike l)) := by
 refine Pure.go (ty := ty) ty_eq mo Try.func45 rfl Try.ntmps45 Try.results45 Try.call45 (by simp) fun P C CQ D W F E hF => ?_
 cbv
 refine E.loop (ι := Nat) (fun m => m ≤ l.length ∧ ∀ k < m, Fits (l.getD k (0, [])).1 (l.getD k (0, [])).2 ∧ (l.getD k (0, [])).1 = (l.getD 0 (0, [])).1) (fun m => l.length - m) (fun m => [(7, .i fun _ => (m : Int))])
  (fun m => []) 0 rfl (fun _ => rfl) ⟨Nat.zero_le _, by simp⟩ ?_ fun m hm I hI => ?_
 ·cbv
  simp
 cbv
 refine ⟨fun _ h4 => ?_, fun _ h4 => ?_⟩
 ·cbv
  have hmm : m < l.length := by simpa using h4
  refine ⟨fun _ => by simp; omega, fun _ => by rw [nct, rls_get _ m hmm]; rfl, ?_⟩
  cbv
  simp only [nct, rls_get _ m hmm, at_r0, at_r1]
  generalize hv : l.getD m (0, []) = v
  obtain ⟨vn, vr⟩ := v
  simp only
  refine E.d 12 (by kernel_rfl) ?_
  cbv
  refine E.q (QCalls.of_le (check_ok vn vr) ?_ ?_)
  ·cbv; all_goals simp
  cbv
  have hfit : l.getD m (0, []) = (vn, vr) := hv
  refine ⟨fun _ h5 => ?_, fun _ h5 => ?_⟩
  ·cbv
   refine hF ?_
   cbv
   intro _
   clear hI
   have : ¬ Alike l := fun h => by
    have := (h.2 m hmm).1
    rw [hfit] at this
    simp [checkM, this] at h5
   simp [this]
  cbv
  have hfv : Fits vn vr := by
   by_cases h : Fits vn vr
   ·exact h
   ·simp [checkM, h] at h5
  refine ⟨fun _ => by simp; omega, fun _ => by rw [show (0 : Int).toNat = 0 from rfl, rls_get _ 0 (by omega)]; rfl, ?_⟩
  simp only [show (0 : Int).toNat = 0 from rfl, rls_get _ 0 (show 0 < l.length by omega), at_r0]
  refine ⟨fun _ h6 => ?_, fun _ h6 => ?_⟩
  ·cbv
   refine hF ?_
   cbv
   intro _
   clear hI
   have : ¬ Alike l := fun h => by
    have := (h.2 m hmm).2
    rw [hfit] at this
    simp at h6
    exact h6 (by simpa using this)
   simp [this]
  ·cbv
   refine hI (m + 1) ⟨hmm, fun k hk => ?_⟩ (by omega) ?_
   ·rcases Nat.lt_or_ge k m with h | h
    ·exact hm.2 k h
    ·obtain rfl : k = m := by omega
     rw [hfit]
     exact ⟨hfv, by simpa using h6⟩
   ·cbv
    clear hI
    simp
    exact w64_of (by omega) (by omega)
 ·cbv
  refine hF ?_
  cbv
  clear hI
  intro _
  have : m = l.length := by simp at h4; omega
  subst this
  simp
  exact ⟨fun h => ⟨h, hm.2⟩, fun h => h.1⟩
end Go.AL.Rl

namespace Go.AL.Rl
open Go Go.AL Go.Proofs
variable {γ : Nat → Option AV}
set_option maxRecDepth 100000

theorem getD_mem {α : Type} {l : List α} {i : Nat} {d : α} (h : i < l.length) : l.getD i d ∈ l := by simp [h]

def orV (l : List RelV) (j : Nat) : BitVec 64 := l.foldl (fun a r => a ||| r.2.getD j 0) 0#64
theorem orV_succ (l : List RelV) (k j : Nat) (h : k < l.length) : orV (l.take (k + 1)) j = orV (l.take k) j ||| (l.getD k (0, [])).2.getD j 0 := by
 rw [orV, List.take_succ_eq_append_getElem h, List.foldl_append]
 simp only [List.foldl_cons, List.foldl_nil, List.getD_eq_getElem?_getD, List.getElem?_eq_getElem h, Option.getD_some]; rfl
def orM (n : Nat) (l : List RelV) : List (BitVec 64) := tab n (orV l)
theorem or_yes (l : List RelV) (hl : l.length < 4611686018427387904) (h : Alike l) (n : Nat) (hn : (l.getD 0 (0, [])).1 = n) : Pure Try.prog γ false 29 [.vs 2 fun _ => rls l] (encRel n (orM n l)) := by
 have h0 := (h.2 0 h.1).1
 have hl0 := h.1
 obtain ⟨k0, hk1, hk2, hk3⟩ := fits_len h0
 rw [hn] at hk1
 obtain rfl : n = k0 := by omega
 have hall : ∀ k < l.length, (l.getD k (0, [])).2.length = n := fun k hk => by
  have := h.2 k hk
  obtain ⟨j, e1, e2, _⟩ := fits_len this.1
  have e3 := this.2
  rw [hn, e1] at e3
  omega
 refine Pure.go (ty := ty) ty_eq mo Try.func29 rfl Try.ntmps29 Try.results29 Try.call29 (by simp) fun P C CQ D W F E hF => ?_
 cbv
 refine E.c (SCalls.of_le (alike_ok l hl) ?_ ?_)
 ·(cbv;(try simp only [nc] at *);first|done|(simp;done)|(simp (disch:=(first|omega|(simp only [lnS];omega))) only [rdT,rdS,anT];first|done|omega|(refine ⟨?_,?_⟩<;>omega))|(simp (disch:=(first|omega|(simp only [lnS];omega))) [rdT,rdS];done))
 cbv
 refine br_f (by simp [h]) ?_
 cbv
 refine ⟨fun _ => by simp; omega, fun _ => by rw [show (0 : Int).toNat = 0 from rfl, rls_get _ 0 hl0]; rfl, ?_⟩
 cbv
 simp only [show (0 : Int).toNat = 0 from rfl, rls_get _ 0 hl0, at_r0, hn]
 refine E.c (SCalls.of_owns (none_in (n : Int) (by omega) (by omega)) ?_ ?_)
 ·cbv; all_goals simp
 cbv
 simp only [Int.toNat_natCast, nc]
 refine E.loop (ι := Nat) (fun k => k ≤ l.length) (fun k => l.length - k) (fun k => [(19, .i fun _ => (k : Int))])
  (fun k => [.box (.agg [.lit 0, .nils]), .any, .run 0 1 fun _ => us (tab n (orV (l.take k))), .box (.agg [.i fun _ => (n : Int), .sl 2 0 1 (fun _ => 0) fun _ => n])])
  0 rfl (fun _ => rfl) (Nat.zero_le _) ?_ fun k hk I hI => ?_
 ·cbv
  simp [← tab_zero, show orV [] = fun _ => 0#64 from rfl]
 cbv
 refine ⟨fun _ h4 => ?_, fun _ h4 => ?_⟩
 ·cbv
  have hkk : k < l.length := by simpa using h4
  refine ⟨fun _ => by simp; omega, fun _ => by rw [nct, rls_get _ k hkk]; rfl, ?_⟩
  cbv
  have hsu := orV_succ l k
  have hrl := hall k hkk
  simp only [nct, rls_get _ k hkk, at_r0, at_r1]
  generalize l.getD k (0, []) = r at hsu hrl
  obtain ⟨rn, rr⟩ := r
  simp only at hsu hrl ⊢
  refine E.loop (ι := Nat) (fun i => i ≤ n) (fun i => n - i) (fun i => [(26, .i fun _ => (i : Int))])
   (fun i => [.box (.agg [.lit 0, .nils]), .any, .run 0 1 fun _ => us (tab n fun j => if j < i then orV (l.take (k + 1)) j else orV (l.take k) j), .box (.agg [.i fun _ => (n : Int), .sl 2 0 1 (fun _ => 0) fun _ => n]), .box (encRel rn rr)])
   0 rfl (fun _ => rfl) (Nat.zero_le _) ?_ fun i hi I2 hI2 => ?_
  ·cbv
   simp
  cbv
  refine ⟨fun _ h5 => ?_, fun _ h5 => ?_⟩
  ·cbv
   have hii : i < n := by simp at h5; omega
   refine ⟨fun _ => by simp; omega, fun _ => by rw [nct, us_get _ i (by omega)]; rfl, fun _ => by simp; omega, fun _ => ⟨rfl, by simp; omega⟩, fun _ => by rw [Nat.zero_add, nct, us_get _ i (by simpa using hii)]; rfl, fun _ => by simp; omega,
    fun _ => ⟨rfl, by simp; omega, by rw [Nat.zero_add, nct, us_get _ i (by simpa using hii)]; rfl⟩, ?_⟩
   refine hI2 (i + 1) (by omega) (by omega) ?_
   cbv
   clear hI hI2
   simp only [Nat.zero_add, nct, us_get _ i (show i < (tab n _).length by simpa using hii), us_get rr i (by omega), at_u, upd_u, us_set, us_of, nc, tab_get n _ i hii]
   simp only [implies_true, and_true, true_and, forall_const]
   refine ⟨w64_of (by omega) (by omega), congrArg us (tab_set i _ hii (by simp [hsu i hkk]) fun j _ hj => ?_)⟩
   by_cases h : j < i <;> simp [h] <;> omega
  ·cbv
   refine hI (k + 1) (by omega) (by omega) ?_
   cbv
   clear hI hI2
   have : i = n := by simp at h5; omega
   subst this
   simp
   exact ⟨w64_of (by omega) (by omega), congrArg us (tab_congr fun j hj => by simp [hj])⟩
 ·cbv
  refine hF ?_
  cbv
  clear hI
  have hml : k = l.length := by simp at h4; omega
  subst hml
  simp [orM]
  rw [List.take_of_length_le (by simp)]

theorem alike2 (n m : Int) (a b : List (BitVec 64)) : Alike [(n, a), (m, b)] ↔ Fits n a ∧ Fits m b ∧ m = n := by
 constructor
 ·intro h
  have h0 := h.2 0 (by simp)
  have h1 := h.2 1 (by simp)
  simp at h0 h1
  exact ⟨h0, h1.1, h1.2⟩
 ·rintro ⟨h1, h2, rfl⟩
  refine ⟨by simp, fun i hi => ?_⟩
  have : i = 0 ∨ i = 1 := by simp at hi; omega
  rcases this with rfl | rfl
  ·simp [h1]
  ·simp [h2]
end Go.AL.Rl

namespace Go.AL.Rl
open Go Go.AL Go.Proofs
variable {γ : Nat → Option AV}
set_option maxRecDepth 100000

end Go.AL.Rl

namespace Go.AL.Rl
open Go Go.AL Go.Proofs
variable {γ : Nat → Option AV}
set_option maxRecDepth 100000

@[simp] theorem ps_nil : ps [] = .nil := rfl
end Go.AL.Rl

namespace Go.AL.Rl
theorem bit_tab (n : Nat) (f : Nat → BitVec 64) (i j : Nat) : bit (tab n f) i j = (decide (i < n) && (f i).getLsbD j) := by
 unfold bit
 by_cases h : i < n
 ·rw [tab_get n f i h]; simp [h]
 ·rw [List.getD_eq_getElem?_getD, List.getElem?_eq_none (by simp; omega)]; simp [h]
theorem or_bit (l : List RelV) (i j : Nat) : (orV l i).getLsbD j = true ↔ ∃ r ∈ l, bit r.2 i j = true := by
 have key : ∀ (l : List RelV) (a : BitVec 64), (l.foldl (fun a r => a ||| r.2.getD i 0) a).getLsbD j = true ↔ a.getLsbD j = true ∨ ∃ r ∈ l, bit r.2 i j = true := by
  intro l
  induction l with
  | nil => simp
  | cons r l ih =>
   intro a
   rw [List.foldl_cons, ih, BitVec.getLsbD_or, Bool.or_eq_true]
   simp only [List.mem_cons, exists_eq_or_imp]
   unfold bit
   rw [or_assoc]
 unfold orV
 rw [key]
 simp
theorem bit_or {n : Nat} {l : List RelV} (i j : Nat) : bit (orM n l) i j = true ↔ i < n ∧ ∃ r ∈ l, bit r.2 i j = true := by
 unfold orM
 rw [bit_tab, Bool.and_eq_true, or_bit]
 simp
theorem fits_or {n : Nat} (hn : n ≤ 64) {l : List RelV} (h : ∀ r ∈ l, Fits n r.2) : Fits n (orM n l) := by
 refine fits_mk hn (by simp [orM]) fun i j hb => ?_
 obtain ⟨_, r, hr, h2⟩ := (bit_or i j).1 hb
 have h3 := (fits_bits (h r hr) h2).2
 obtain ⟨k, e1, e2, _⟩ := fits_len (h r hr)
 omega
theorem bit_or2 {n : Nat} {a b : List (BitVec 64)} (ha : Fits n a) (hb : Fits n b) (i j : Nat) : bit (orM n [((n : Int), a), ((n : Int), b)]) i j = true ↔ bit a i j = true ∨ bit b i j = true := by
 rw [bit_or]
 simp only [List.mem_cons, List.not_mem_nil, or_false, exists_eq_or_imp, exists_eq_left]
 constructor
 ·rintro ⟨_, h⟩; exact h
 ·intro h
  refine ⟨?_, h⟩
  obtain ⟨k, e1, e2, _⟩ := fits_len ha
  obtain ⟨k', e1', e2', _⟩ := fits_len hb
  rcases h with h | h
  ·have := (fits_bits ha h).1; omega
  ·have := (fits_bits hb h).1; omega

end Go.AL.Rl

namespace Go.AL.Rl
instance (ahead : List (BitVec 64)) (left : BitVec 64) : DecidablePred (cand ahead left) := fun _ => by unfold cand; infer_instance

section
variable {n : Int} {rows : List (BitVec 64)} (hf : Fits n rows)
include hf
end
end Go.AL.Rl

namespace Go.AL.Rl
open Go Go.AL Go.Proofs
variable {γ : Nat → Option AV}
set_option maxRecDepth 100000

theorem alike3 (n : Int) (a b c : List (BitVec 64)) (ha : Fits n a) (hb : Fits n b) (hc : Fits n c) : Alike [(n, a), (n, b), (n, c)] := by
 refine ⟨by simp, fun i hi => ?_⟩
 have : i = 0 ∨ i = 1 ∨ i = 2 := by simp at hi; omega
 rcases this with rfl | rfl | rfl
 ·simp [ha]
 ·simp [hb]
 ·simp [hc]
theorem or2 (n : Nat) (a b : List (BitVec 64)) (ha : Fits n a) (hb : Fits n b) : Pure Try.prog γ false 29 [.vs 2 fun _ => rls [((n : Int), a), ((n : Int), b)]] (encRel n (orM n [((n : Int), a), ((n : Int), b)])) :=
 or_yes _ (by simp) ((alike2 _ _ _ _).2 ⟨ha, hb, rfl⟩) n rfl
theorem fits_or2 {n : Nat} {a b : List (BitVec 64)} (ha : Fits n a) (hb : Fits n b) : Fits n (orM n [((n : Int), a), ((n : Int), b)]) :=
 fits_or (by obtain ⟨k, e, _, h⟩ := fits_len ha; omega) (by simp [ha, hb])
end Go.AL.Rl

namespace Go.AL
open Go Go.RowKit

def citems : Code → List Code
 | .seq x y => citems x ++ citems y
 | c => [c]
def vcl (τ : Nat → TI) (γ : Nat → Option AV) (C : EC) (D : Array Oper → (St → Prop) → St → Prop) (W : Code → (Exit → St → Prop) → St → Prop) : List Code → (Exit → St → Prop) → St → Prop
 | [], Q, A => Q .normal A
 | c :: r, Q, A => vc τ γ C D W c (thenE (fun A => vcl τ γ C D W r Q A) Q) A
/-- a state of which only this is told -/
def told (n : Nat) (u : List (Nat × AV)) (h : List Blk) : St := ⟨n, sets u (havoc (List.range n) .nil), h⟩

section
variable {P : Program} {γ : Nat → Option AV}

/-- THE CODE's, where only the first 'n' blocks are kept in view -/
def AWPr (P : Program) (γ : Nat → Option AV) (n : Nat) (c : Code) (Q : Exit → St → Prop) (A : St) : Prop :=
 ∀ B S ρ a w, Sim B S γ ρ A a w → c.wp P (fun e a' w' => ∃ S' ρ' A', Q e A' ∧ Sim B S' γ ρ' A' a' w' ∧ Ext B S (ρ.take n) w S' ρ' w') a w
theorem Ext.takeL {B n : Nat} {S S' : Nat → Prop} {ρ ρ' : List Loc} {w w' : World} (h : Ext B S ρ w S' ρ' w') : Ext B S (ρ.take n) w S' ρ' w' :=
 ⟨h.fr, h.below, h.sub, h.same, fun b loc hb => h.locs b loc (get_take hb).2, h.grow⟩
theorem Ext.transR {B n : Nat} {S S' S'' : Nat → Prop} {ρ ρ' ρ'' : List Loc} {w w' w'' : World} (h : Ext B S (ρ.take n) w S' ρ' w') (k : Ext B S' (ρ'.take n) w' S'' ρ'' w'') : Ext B S (ρ.take n) w S'' ρ'' w'' := by
 have h' : Ext B S (ρ.take n) w S' (ρ'.take n) w' := ⟨h.fr, h.below, h.sub, h.same, fun b loc hb => by
  obtain ⟨l', h1, h2⟩ := h.locs b loc hb
  exact ⟨l', take_get h1 (get_take hb).1, h2⟩, h.grow⟩
 exact h'.trans k
theorem AWPr.of {n : Nat} {c : Code} {Q : Exit → St → Prop} {A : St} (h : AWP P γ c Q A) : AWPr P γ n c Q A :=
 fun B S ρ a w hs => wp_mono (h B S ρ a w hs) fun _ _ _ ⟨S', ρ', A', h1, h2, h3⟩ => ⟨S', ρ', A', h1, h2, h3.takeL⟩
theorem AWPr.to {c : Code} {Q : Exit → St → Prop} {A : St} (h : AWPr P γ A.h.length c Q A) : AWP P γ c Q A :=
 fun B S ρ a w hs => wp_mono (h B S ρ a w hs) fun _ _ _ ⟨S', ρ', A', h1, h2, h3⟩ => ⟨S', ρ', A', h1, h2, by rwa [List.take_of_length_le (by rw [hs.heap.len]; exact Nat.le_refl _)] at h3⟩
theorem AWPr.mono {n : Nat} {c : Code} {Q Q' : Exit → St → Prop} {A : St} (h : AWPr P γ n c Q A) (hq : ∀ e A, Q e A → Q' e A) : AWPr P γ n c Q' A :=
 fun B S ρ a w hs => wp_mono (h B S ρ a w hs) fun _ _ _ ⟨S', ρ', A', h1, h2, h3⟩ => ⟨S', ρ', A', hq _ _ h1, h2, h3⟩
theorem AWPr.seq {n : Nat} {x y : Code} {Q : Exit → St → Prop} {A : St} (h : AWPr P γ n x (thenE (fun A => AWPr P γ n y Q A) Q) A) : AWPr P γ n (.seq x y) Q A := by
 intro B S ρ a w hs
 refine wp_seq (wp_mono (h B S ρ a w hs) fun e a' w' ⟨S', ρ', A', h1, h2, h3⟩ => ?_)
 cases e with
 | normal => exact wp_mono (h1 B S' ρ' a' w' h2) fun e a'' w'' ⟨S'', ρ'', A'', k1, k2, k3⟩ => ⟨S'', ρ'', A'', k1, k2, h3.transR k3⟩
 | _ => exact ⟨S', ρ', A', h1, h2, h3⟩
/-- to know less -/
theorem AWPr.weak {n : Nat} {c : Code} {Q : Exit → St → Prop} {A A' : St} (h : AWPr P γ n c Q A) (hn : n ≤ A.h.length) (hl : leSt A.h.length A A') : AWPr P γ n c Q A' := by
 intro B S ρ a w hs
 obtain ⟨hs0, hg0⟩ := hs.le hl rfl
 refine wp_mono (h B _ _ a w hs0) fun e a' w' ⟨S', ρ', A'', q1, q2, q3⟩ => ⟨S', ρ', A'', q1, q2, ?_⟩
 rw [List.take_take, Nat.min_eq_left hn] at q3
 have hx0 : Ext B S (ρ.take n) w (SF A.h.length S ρ) (ρ.take n) w := ⟨Fr.refl w, fun _ _ => rfl, fun k hk => .inl hk, fun _ _ => rfl, LocsUp.refl _, hg0⟩
 exact hx0.trans q3

def AWPl (P : Program) (γ : Nat → Option AV) (n : Nat) : List Code → (Exit → St → Prop) → St → Prop
 | [], Q, A => Q .normal A
 | c :: r, Q, A => AWPr P γ n c (thenE (fun A => AWPl P γ n r Q A) Q) A
theorem AWPl.app {n : Nat} : ∀ {xs ys : List Code} {Q : Exit → St → Prop} {A : St}, AWPl P γ n xs (thenE (fun A => AWPl P γ n ys Q A) Q) A → AWPl P γ n (xs ++ ys) Q A
 | [], ys, Q, A, h => h
 | x :: xs, ys, Q, A, h => AWPr.mono h fun e A' h' => by
  cases e with
  | normal => exact AWPl.app h'
  | _ => exact h'
theorem AWPl.unapp {n : Nat} : ∀ {xs ys : List Code} {Q : Exit → St → Prop} {A : St}, AWPl P γ n (xs ++ ys) Q A → AWPl P γ n xs (thenE (fun A => AWPl P γ n ys Q A) Q) A
 | [], ys, Q, A, h => h
 | x :: xs, ys, Q, A, h => AWPr.mono h fun e A' h' => by
  cases e with
  | normal => exact AWPl.unapp h'
  | _ => exact h'
theorem AWPl.mono {n : Nat} : ∀ {xs : List Code} {Q Q' : Exit → St → Prop} {A : St}, AWPl P γ n xs Q A → (∀ e A, Q e A → Q' e A) → AWPl P γ n xs Q' A
 | [], Q, Q', A, h, hq => hq _ _ h
 | x :: xs, Q, Q', A, h, hq => AWPr.mono h fun e A' h' => by
  cases e with
  | normal => exact AWPl.mono h' hq
  | _ => exact hq _ _ h'
theorem AWPl.one {n : Nat} {c : Code} {Q : Exit → St → Prop} {A : St} (h : AWPl P γ n [c] Q A) : AWPr P γ n c Q A := AWPr.mono h fun e A' h' => by cases e <;> exact h'
theorem AWPr.of_items {n : Nat} : ∀ (c : Code) {Q : Exit → St → Prop} {A : St}, AWPl P γ n (citems c) Q A → AWPr P γ n c Q A
 | .seq x y, Q, A, h => by
  refine AWPr.seq ?_
  have := AWPl.unapp (xs := citems x) (ys := citems y) h
  exact AWPr.of_items x (this.mono fun e A' h' => by
   cases e with
   | normal => exact AWPr.of_items y h'
   | _ => exact h')
 | .skip, Q, A, h => h.one
 | .region .., Q, A, h => h.one
 | .cond .., Q, A, h => h.one
 | .loop .., Q, A, h => h.one
 | .block .., Q, A, h => h.one
 | .exit .., Q, A, h => h.one
 | .ret, Q, A, h => h.one
 | .scope .., Q, A, h => h.one
 | .goto .., Q, A, h => h.one
 | .label .., Q, A, h => h.one
 | .refuse .., Q, A, h => h.one
 | .rangeFunc .., Q, A, h => h.one
theorem AWPl.weak {n : Nat} {l : List Code} {Q : Exit → St → Prop} {A A' : St} (h : AWPl P γ n l Q A) (hl0 : l ≠ []) (hn : n ≤ A.h.length) (hl : leSt A.h.length A A') : AWPl P γ n l Q A' := by
 cases l with
 | nil => exact absurd rfl hl0
 | cons c r => exact AWPr.weak h hn hl

theorem AWPr.block {n id : Nat} {c : Code} {Q : Exit → St → Prop} {A : St} (h : AWPr P γ n c (inBlk id Q) A) : AWPr P γ n (.block id c) Q A := by
 intro B S ρ a w hs
 refine wp_block (wp_mono (h B S ρ a w hs) fun e a' w' ⟨S', ρ', A', h1, h2, h3⟩ => ?_)
 cases e with
 | exit id' =>
  simp only [Exit.inBlock]
  simp only [inBlk] at h1
  split at h1
  ·rename_i e; rw [if_pos e]; exact ⟨S', ρ', A', h1, h2, h3⟩
  ·rename_i e; rw [if_neg e]; exact ⟨S', ρ', A', h1, h2, h3⟩
 | _ => exact ⟨S', ρ', A', h1, h2, h3⟩
/-- a block that is cut within -/
theorem AWPl.block {n id : Nat} {c : Code} {r : List Code} {Q : Exit → St → Prop} {A : St} (h : AWPl P γ n (citems c) (inBlk id (thenE (fun A => AWPl P γ n r Q A) Q)) A) : AWPl P γ n (.block id c :: r) Q A :=
 AWPr.block (AWPr.of_items c h)

variable {C : EC} {CQ : List Blk → QC} {T : Nat → TI} {D : Array Oper → (St → Prop) → St → Prop} {W : Code → (Exit → St → Prop) → St → Prop}
theorem Env.bl (E : Env P γ C CQ T D W) {n : Nat} : ∀ {l : List Code} {Q : Exit → St → Prop} {A : St}, vcl T γ C D W l Q A → AWPl P γ n l Q A
 | [], Q, A, h => h
 | c :: r, Q, A, h => AWPr.mono (AWPr.of (E.b h)) fun e A' h' => by
  cases e with
  | normal => exact E.bl h'
  | _ => exact h'
/-- A CUT behind the first 'k' items: what holds there, of which the rest is gone through. -/
theorem Env.cut (E : Env P γ C CQ T D W) {n : Nat} {l : List Code} {Q : Exit → St → Prop} {A : St} (k : Nat) (A2 : St) (hk0 : (l.drop k).isEmpty = false) (hn : n ≤ A2.h.length)
  (h1 : ∀ I : St → Prop, (∀ {A'}, leSt A2.h.length A2 A' → I A') → vcl T γ C D W (l.take k) (thenE I Q) A) (h2 : AWPl P γ n (l.drop k) Q A2) : AWPl P γ n l Q A := by
 have hk : l.drop k ≠ [] := fun e => by rw [e] at hk0; cases hk0
 rw [← List.take_append_drop k l]
 exact AWPl.app ((E.bl (h1 (fun A' => AWPl P γ n (l.drop k) Q A') fun hl => h2.weak hk hn hl)).mono fun e A' h => by cases e <;> exact h)
theorem AWP.goL {ty : Program → Nat → TI} (hτ : ∀ t, ty P t = tiOf P t) (hm : P.follows .mixedOrders = true) {c : Code} {Q : (Nat → TI) → Exit → St → Prop} {A : St}
  (h : ∀ (P' : Program) (C : EC) (CQ : List Blk → QC) (D : Array Oper → (St → Prop) → St → Prop) (W : Code → (Exit → St → Prop) → St → Prop), Env P γ C CQ (ty P') D W → AWPl P γ A.h.length (citems c) (Q (ty P')) A) : AWP P γ c (Q (ty P)) A :=
 AWPr.to (AWPr.of_items c (h P _ _ _ _ (Env.top hτ hm)))
theorem Pure.goL {ty : Program → Nat → TI} (hτ : ∀ t, ty P t = tiOf P t) (hm : P.follows .mixedOrders = true) {f : FuncId} {fn : Func} {n : Nat} {rs : Array ResultVar}
  (hf : P.funcs[f]? = some fn) (hb : fn.body = some (fn.body.getD .skip)) (hn : fn.ntmps = n) (hr : fn.results = rs) (he : Enters P f) {args : List AV} {y : AV} (hsz : args.length ≤ n ∧ n < 1000)
  (h : ∀ (P' : Program) (C : EC) (CQ : List Blk → QC) (D : Array Oper → (St → Prop) → St → Prop) (W : Code → (Exit → St → Prop) → St → Prop) (F : AV → List Blk → Prop), Env P γ C CQ (ty P') D W → (∀ {v h}, fz h y v → F v h) →
   AWPl P γ 0 (citems (fn.body.getD .skip)) (bodyQ (ty P') rs.toList F) (start n args [])) : Pure P γ false f args y :=
 Pure.of_body hτ hf hb hn (by rw [hr]) he hsz (AWP.goL (Q := fun T => bodyQ T rs.toList fun v h => fz h y v) hτ hm fun P' C CQ D W E => h P' C CQ D W _ E fun h => h)
end
end Go.AL

namespace Go.AL.Rl
open Go Go.AL Go.Proofs
variable {γ : Nat → Option AV}
set_option maxRecDepth 100000

theorem bit_zero (n i j : Nat) : bit (List.replicate n 0#64) i j = false := by
 rw [← tab_zero, bit_tab]; simp
theorem cnt_full_bits (x : BitVec 64) (p : Nat) : ((x >>> p) % 2#64 = 1#64) ↔ x.getLsbD p = true := by
 have e : (x >>> p) % 2#64 = (x >>> p) &&& 1#64 := by
  apply BitVec.eq_of_toNat_eq
  rw [BitVec.toNat_umod, BitVec.toNat_and]
  exact (Nat.and_one_is_mod _).symm
 rw [e]
 constructor
 ·intro h
  have := congrArg (fun y : BitVec 64 => y.getLsbD 0) h
  simpa [BitVec.getLsbD_and, BitVec.getLsbD_ushiftRight] using this
 ·intro h
  apply BitVec.eq_of_getLsbD_eq
  intro i hi
  rw [BitVec.getLsbD_and, BitVec.getLsbD_ushiftRight, BitVec.getLsbD_one]
  by_cases h0 : i = 0
  ·subst h0; simp [h]
  ·simp [h0]

/-- what is sorted is so -/
structure Srt (rows : List (BitVec 64)) (tl : List Nat) : Prop where
 nd : tl.Nodup
 mem : ∀ p, p ∈ tl ↔ p < rows.length
 len : tl.length = rows.length
 ord : ∀ k m (_ : k ≤ m) (hm : m < tl.length), bit rows tl[m] tl[k] = false

end Go.AL.Rl

namespace Go.AL.Rl
open Go Go.AL Go.Proofs
variable {γ : Nat → Option AV}
set_option maxRecDepth 100000

theorem rnone_in (n : Int) (h0 : 0 ≤ n) (h1 : n ≤ 64) : Owns Try.prog γ 34 [.i fun _ => n] (.agg [.i fun _ => n, .sl 1 0 1 (fun _ => 0) fun _ => n.toNat]) [.any, .run 0 1 fun _ => us (List.replicate n.toNat 0#64)] := by
 refine Owns.go (ty := ty) ty_eq mo Try.func34 rfl Try.ntmps34 Try.results34 Try.call34 (by simp) fun P C CQ D W F E hF => ?_
 cbv
 refine br_f (by simp; omega) ?_
 cbv
 refine br_f (by simp; omega) ?_
 cbv
 refine ⟨fun _ => by simp; omega, ?_⟩
 cbv
 refine hF ?_ ?_
 ·cbv; simp
 ·cbv; simp [us]
theorem rcheck_ok (n : Int) (rows : List (BitVec 64)) : Pure Try.prog γ false 33 [encRel n rows] (.i fun _ => checkM n rows) := by
 refine Pure.go (ty := ty) ty_eq mo Try.func33 rfl Try.ntmps33 Try.results33 Try.call33 (by simp) fun P C CQ D W F E hF => ?_
 cbv
 refine ⟨fun _ h0 => ?_, fun _ h0 => ?_⟩
 ·cbv
  refine hF ?_
  cbv
  simp at h0
  intro _
  simp [checkM, Fits]; omega
 cbv
 refine ⟨fun _ h1 => ?_, fun _ h1 => ?_⟩
 ·cbv
  refine hF ?_
  cbv
  simp at h0 h1
  intro _
  simp [checkM, Fits]; omega
 cbv
 refine ⟨fun _ h2 => ?_, fun _ h2 => ?_⟩
 ·cbv
  refine hF ?_
  cbv
  simp at h0 h1 h2
  intro _
  simp [checkM, Fits]; omega
 cbv
 obtain ⟨la, rfl⟩ : ∃ la : Nat, n = la := ⟨n.toNat, by simp at h0; omega⟩
 have hl64 : la ≤ 64 := by simp at h1; omega
 have hla : rows.length = la := by simp at h2; omega
 clear h0 h1 h2
 have bad : ∀ i j, la ≤ j → bit rows i j = true → checkM la rows = 2 := fun i j h1 h2 => by
  have : ¬ Fits la rows := fun hf => by have := (fits_bits hf h2).2; omega
  simp [checkM, this]
 refine E.loop (ι := Nat) (fun i => i ≤ la ∧ ∀ k < i, ∀ j, la ≤ j → bit rows k j = false) (fun i => la - i) (fun i => [(3, .i fun _ => (i : Int))]) (fun _ => [.box (encRel la rows)]) 0 rfl (fun _ => rfl) ⟨Nat.zero_le _, by simp⟩ ?_ fun i hi I hI => ?_
 ·cbv
  simp
 cbv
 refine ⟨fun _ h3 => ?_, fun _ h3 => ?_⟩
 ·cbv
  have hii : i < la := by simp at h3; omega
  refine E.loop (ι := Nat) (fun j => la ≤ j ∧ j ≤ 64 ∧ ∀ k < j, la ≤ k → bit rows i k = false) (fun j => 64 - j) (fun j => [(4, .i fun _ => (j : Int))]) (fun _ => [.box (encRel la rows)]) la rfl (fun _ => rfl) ⟨Nat.le_refl _, hl64, fun k h1 h2 => by omega⟩ ?_ fun j hj I2 hI2 => ?_
  ·cbv
   simp
  cbv
  refine ⟨fun _ h4 => ?_, fun _ h4 => ?_⟩
  ·cbv
   have hjj : j < 64 := by simp at h4; omega
   have hsh : (BitVec.ofInt 64 (j : Int)).toNat = j := by simp; omega
   refine ⟨fun _ => by simp; omega, fun _ => by rw [nct, us_get _ i (by omega)]; rfl, fun _ => by simp, ?_⟩
   simp only [nct, us_get _ i (show i < rows.length by omega), at_u, nc, hsh]
   have hbit := cnt_full_bits (rows.getD i 0) j
   refine ⟨fun _ h5 => ?_, fun _ h5 => ?_⟩
   ·cbv
    refine hF ?_
    cbv
    intro _
    exact (bad i j hj.1 (hbit.1 (by simpa using h5))).symm
   ·cbv
    refine hI2 (j + 1) ⟨by omega, by omega, fun k h1 h2 => ?_⟩ (by omega) ?_
    ·by_cases e : k = j
     ·subst e
      cases hb : bit rows i k with
      | false => rfl
      | true => exact absurd (hbit.2 hb) (by simpa using h5)
     ·exact hj.2.2 k (by omega) h2
    ·cbv
     clear hI hI2
     simp
     exact w64_of (by omega) (by omega)
  ·cbv
   refine hI (i + 1) ⟨by omega, fun k hk j' hj' => ?_⟩ (by omega) ?_
   ·by_cases e : k = i
    ·subst e
     have hj64 : j = 64 := by simp at h4; omega
     by_cases h64 : j' < 64
     ·exact hj.2.2 j' (by omega) hj'
     ·unfold bit; exact BitVec.getLsbD_of_ge _ _ (by omega)
    ·exact hi.2 k (by omega) j' hj'
   ·cbv
    clear hI hI2
    simp
    exact w64_of (by omega) (by omega)
 ·cbv
  refine hF ?_
  cbv
  clear hI
  intro _
  have : i = la := by simp at h3; omega
  subst this
  have : Fits i rows := fits_mk hl64 hla fun k j hb => by
   rcases Nat.lt_or_ge j i with h | h
   ·exact h
   ·rcases Nat.lt_or_ge k i with h' | h'
    ·rw [hi.2 k h' j h] at hb; cases hb
    ·rw [bit_out (by omega)] at hb; cases hb
  simp [checkM, this]

theorem rhas_ok (n : Int) (rows : List (BitVec 64)) (i j : Int) : Pure Try.prog γ false 10 [encRel n rows, .i fun _ => i, .i fun _ => j] (.b fun _ => hasM n rows i j) := by
 refine Pure.go (ty := ty) ty_eq mo Try.func10 rfl Try.ntmps10 Try.results10 Try.call10 (by simp) fun P C CQ D W F E hF => ?_
 cbv
 refine E.c (SCalls.of_le (rcheck_ok n rows) ?_ ?_)
 ·(cbv;(try simp only [nc] at *);first|done|(simp;done)|(simp (disch:=(first|omega|(simp only [lnS];omega))) only [rdT,rdS,anT];first|done|omega|(refine ⟨?_,?_⟩<;>omega))|(simp (disch:=(first|omega|(simp only [lnS];omega))) [rdT,rdS];done))
 cbv
 by_cases hf : Fits n rows
 case neg =>
  refine br_f (by simp [checkM, hf]) ?_
  cbv
  refine hF ?_
  cbv
  simp [hasM, hf]
 refine br_t (by simp [checkM, hf]) ?_
 cbv
 refine ⟨fun _ h1 => ?_, fun _ h1 => ?_⟩
 rotate_left
 ·cbv
  refine hF ?_
  cbv
  intro _
  simp at h1
  simp [hasM]; omega
 cbv
 refine ⟨fun _ h2 => ?_, fun _ h2 => ?_⟩
 rotate_left
 ·cbv
  refine hF ?_
  cbv
  intro _
  simp at h1 h2
  simp [hasM]; omega
 cbv
 refine ⟨fun _ h3 => ?_, fun _ h3 => ?_⟩
 rotate_left
 ·cbv
  refine hF ?_
  cbv
  intro _
  simp at h1 h2 h3
  simp [hasM]; omega
 cbv
 refine ⟨fun _ h4 => ?_, fun _ h4 => ?_⟩
 rotate_left
 ·cbv
  refine hF ?_
  cbv
  intro _
  simp at h1 h2 h3 h4
  simp [hasM]; omega
 cbv
 obtain ⟨len, rfl, hl, hl2⟩ := fits_len hf
 simp at h1 h2 h3 h4
 obtain ⟨p, rfl⟩ : ∃ p : Nat, i = p := ⟨i.toNat, by omega⟩
 obtain ⟨q, rfl⟩ : ∃ q : Nat, j = q := ⟨j.toNat, by omega⟩
 have hp : p < rows.length := by omega
 have h5 : (p : Int) < len ∧ (q : Int) < len := ⟨h2, h4⟩
 have hsh : (BitVec.ofInt 64 (q : Int)).toNat = q := by simp; omega
 refine ⟨fun _ => by simp; omega, fun _ => by rw [nct, us_get _ p hp]; rfl, fun _ => by simp, ?_⟩
 cbv
 refine hF ?_
 cbv
 intro _
 simp only [nct, us_get _ p hp, at_u, nc, hsh]
 have hb := cnt_full_bits (rows.getD p 0) q
 simp only [hasM, hf, h5, Int.toNat_natCast]
 unfold bit
 simp
 rw [Bool.eq_iff_iff, decide_eq_true_iff]
 simpa using hb

theorem rof_in (n : Int) (l : List (Int × Int)) (h0 : 0 ≤ n) (h1 : n ≤ 64) (hl : l.length < 4611686018427387904) : Pure Try.prog γ false 14 [.i fun _ => n, .vs 2 fun _ => ps l] (encRel n (ofTo n l l.length)) := by
 refine Pure.go (ty := ty) ty_eq mo Try.func14 rfl Try.ntmps14 Try.results14 Try.call14 (by simp) fun P C CQ D W F E hF => ?_
 cbv
 refine E.c (SCalls.of_owns (rnone_in n h0 h1) ?_ ?_)
 ·cbv; all_goals simp
 cbv
 obtain ⟨len, hlen⟩ : ∃ len : Nat, n = len := ⟨n.toNat, by omega⟩
 subst hlen
 simp only [Int.toNat_natCast, nc]
 have hln : len ≤ 64 := by omega
 refine E.loop (ι := Nat) (fun m => m ≤ l.length) (fun m => l.length - m) (fun m => [(6, .i fun _ => (m : Int))])
  (fun m => [.box (.agg [.lit 0, .nils]), .any, .run 0 1 fun _ => us (ofTo len l m), .box (.agg [.i fun _ => len, .sl 2 0 1 (fun _ => 0) fun _ => len])])
  0 rfl (fun _ => rfl) (Nat.zero_le _) ?_ fun m hm I hI => ?_
 ·cbv
  simp [ofTo]
 cbv
 refine ⟨fun _ h4 => ?_, fun _ h4 => ?_⟩
 ·cbv
  have hmr : m < l.length := by simp at h4; omega
  refine E.d 12 (by kernel_rfl) ?_
  cbv
  refine ⟨fun _ => by simp; omega, fun _ => by rw [nct, ps_get _ m hmr]; rfl, fun _ => by simp; omega, fun _ => by rw [nct, ps_get _ m hmr]; rfl, ?_⟩
  have hs := ofTo_succ len l m hmr
  simp only [nct, ps_get _ m hmr, at_p0, at_p1]
  generalize l.getD m (0, 0) = p at hs ⊢
  have hlw : (ofTo len l m).length = len := by rw [ofTo_len]; simp
  have no : ¬ (0 ≤ p.1 ∧ p.1 < len ∧ 0 ≤ p.2 ∧ p.2 < len) → ofTo len l (m + 1) = ofTo len l m := fun h => by rw [hs, ofStep, if_neg h]
  refine ⟨fun _ h5 => ?_, fun _ h5 => ?_⟩
  rotate_left
  ·cbv
   refine hI (m + 1) (by omega) (by omega) ?_
   cbv
   clear hI
   simp at h5
   simp
   exact ⟨w64_of (by omega) (by omega), by rw [no (by omega)]⟩
  cbv
  simp at h5
  refine ⟨fun _ h6 => ?_, fun _ h6 => ?_⟩
  rotate_left
  ·cbv
   refine hI (m + 1) (by omega) (by omega) ?_
   cbv
   clear hI
   simp at h6
   simp
   refine ⟨w64_of (by omega) (by omega), ?_⟩
   simp only [nc] at no
   rw [no (fun h => absurd h.2.1 (by simpa using h6))]
  cbv
  simp at h6
  refine ⟨fun _ h7 => ?_, fun _ h7 => ?_⟩
  rotate_left
  ·cbv
   refine hI (m + 1) (by omega) (by omega) ?_
   cbv
   clear hI
   simp at h7
   simp
   exact ⟨w64_of (by omega) (by omega), by rw [no (by omega)]⟩
  cbv
  simp at h7
  refine ⟨fun _ h8 => ?_, fun _ h8 => ?_⟩
  rotate_left
  ·cbv
   refine hI (m + 1) (by omega) (by omega) ?_
   cbv
   clear hI
   simp at h8
   simp
   refine ⟨w64_of (by omega) (by omega), ?_⟩
   simp only [nc] at no
   rw [no (fun h => absurd h.2.2.2 (by simpa using h8))]
  cbv
  simp at h8
  refine E.d 12 (by kernel_rfl) ?_
  cbv
  simp only [nc] at hlw h5 h6 h7 h8
  have hp : p.1.toNat < (ofTo len l m).length := by omega
  have hsh : (BitVec.ofInt 64 p.2).toNat = p.2.toNat := by simp; omega
  refine ⟨fun _ => by simp only [nc]; omega, fun _ => ⟨rfl, by simp; omega⟩, fun _ => by rw [Nat.zero_add, us_get _ _ hp]; rfl, fun _ => by simp only [nc]; omega, fun _ => ⟨rfl, by simp; omega, by rw [Nat.zero_add, us_get _ _ hp]; rfl⟩, ?_⟩
  refine hI (m + 1) (by omega) (by omega) ?_
  cbv
  clear hI
  simp only [nc] at hs h6 h8
  simp only [Nat.zero_add, nc, us_get _ _ hp, at_u, upd_u, us_set, us_of, hsh]
  simp only [implies_true, and_true, true_and, forall_const]
  refine ⟨w64_of (by omega) (by omega), ?_⟩
  rw [hs, ofStep, if_pos ⟨h5, h6, h7, h8⟩]
  rfl
 ·cbv
  refine hF ?_
  cbv
  clear hI
  have hml : m = l.length := by simp at h4; omega
  have hlw : (ofTo len l l.length).length = len := by rw [ofTo_len]; simp
  simp [hml]
  exact ⟨by omega, by rw [List.take_of_length_le (by simp; omega)]⟩
end Go.AL.Rl

namespace Go.AL.Rl
open Go Go.AL Go.Proofs
variable {γ : Nat → Option AV}
set_option maxRecDepth 100000

end Go.AL.Rl

namespace Go.AL.Rl
open Go Go.AL Go.Proofs
variable {γ : Nat → Option AV}
set_option maxRecDepth 100000

end Go.AL.Rl

namespace Go.AL.Rl
open Go Go.AL Go.Proofs
variable {γ : Nat → Option AV}
set_option maxRecDepth 100000

end Go.AL.Rl

namespace Go.AL.Rl
open Go Go.AL Go.Proofs
variable {γ : Nat → Option AV}
set_option maxRecDepth 100000

end Go.AL.Rl

namespace Go.AL.Rl
open Go Go.AL Go.Proofs
variable {γ : Nat → Option AV}
set_option maxRecDepth 100000

end Go.AL.Rl

namespace Go.AL
open Go Go.RowKit
section
variable {P : Program} {γ : Nat → Option AV}
/-- a contract in a heap of which less is told -/
theorem SCalls.le {f : FuncId} {args args' : List AV} {h h' : List Blk} {Q : AV → List Blk → Prop} (hs : SCalls P γ f args' h' Q) (hn : h'.length = h.length) (ha : leVs h.length args' args) (hh : leH h.length h' h) : SCalls P γ f args h Q := by
 refine ⟨hs.1, fun B S ρ w vals hr hv => ?_⟩
 have h1 := hr.le hh hn
 have h2 := Rs_le _ _ _ ha hv
 have e : ρ.take h.length = ρ := List.take_of_length_le (by rw [hr.len]; exact Nat.le_refl _)
 rw [e] at h1 h2
 exact hs.2 B S ρ w vals h1 h2
/-- what it hands back, and the heap behind it, as far as they are told -/
abbrev Post (v : AV) (h : List Blk) : AV → List Blk → Prop := fun v' h' => leV h.length v v' ∧ leH h.length h h'
theorem SCalls.to {f : FuncId} {args args' : List AV} {h h' h2 : List Blk} {v : AV} {Q : AV → List Blk → Prop} (hs : SCalls P γ f args' h' (Post v h2)) (hn : h'.length = h.length) (hn2 : h.length ≤ h2.length) (ha : leVs h.length args' args) (hh : leH h.length h' h) (hq : Q v h2) : SCalls P γ f args h Q := by
 have hs := hs.le hn ha hh
 refine ⟨hs.1, fun B S ρ w vals hr hv => (hs.2 B S ρ w vals hr hv).mono fun e w' ⟨v', h'', S', ρ', v2, h1, ⟨h2', h3⟩, h4, h5, h6⟩ => ?_⟩
 have hb := h5.le h3 rfl
 have hv' := R_le _ _ _ h2' h4
 refine ⟨v, h2, S', ρ'.take h2.length, v2, h1, hq, hv', hb, ⟨h6.fr, h6.below, h6.sub, h6.same, ?_, h6.grow⟩⟩
 intro b loc hb'
 obtain ⟨l', k1, k2⟩ := h6.locs b loc hb'
 exact ⟨l', take_get k1 (by have := (List.getElem?_eq_some_iff.1 hb').1; rw [hr.len] at this; omega), k2⟩
end
section
variable {P : Program} {γ : Nat → Option AV} {C : EC} {CQ : List Blk → QC} {T : Nat → TI} {D : Array Oper → (St → Prop) → St → Prop} {W : Code → (Exit → St → Prop) → St → Prop}
/-- a loop; what of the heap does not change is not told -/
theorem Env.loopS (E : Env P γ C CQ T D W) {c : Code} {Q : Exit → St → Prop} {A : St} {ι : Type} (ok : ι → Prop) (m : ι → Nat) (upd : ι → List (Nat × AV)) (f : ι → List Blk → List Blk) (j0 : ι)
  (hf : ∀ j, (f j A.h).length = A.h.length) (hok : ok j0) (h0 : leSt A.h.length (headSt c A (upd j0) (f j0 A.h)) A)
  (round : ∀ j, ok j → ∀ (I : St → Prop), (∀ {A'} j', ok j' → m j' < m j → leSt A.h.length (headSt c A (upd j') (f j' A.h)) A' → I A') → vc T γ C D W c (thenE I Q) (headSt c A (upd j) (f j A.h))) : W c Q A :=
 E.w (AWP.loopI (ι := ι) A.h.length (fun j => headSt c A (upd j) (f j A.h)) ok m j0 rfl (fun j => hf j) ⟨hok, h0⟩ fun j hj => E.b (round j hj _ fun j' h1 h2 h3 => ⟨j', h1, h2, h3⟩))
theorem Env.loopSA (E : Env P γ C CQ T D W) {c : Code} {Q : Exit → St → Prop} {A : St} {ι : Type} (ok : ι → Prop) (m : ι → Nat) (upd : ι → List (Nat × AV)) (f : ι → List Blk → List Blk) (j0 : ι)
  (hf : ∀ j, (f j A.h).length = A.h.length) (hok : ok j0) (h0 : leSt A.h.length (headSt c A (upd j0) (f j0 A.h)) A)
  (round : ∀ j, ok j → ∀ (I : St → Prop), (∀ {A'} j', ok j' → m j' < m j → leSt A.h.length (headSt c A (upd j') (f j' A.h)) A' → I A') → vc T γ C D W c (thenE I Q) (headSt c A (upd j) (f j A.h))) : AWP P γ (.loop c) Q A :=
 AWP.loopI (ι := ι) A.h.length (fun j => headSt c A (upd j) (f j A.h)) ok m j0 rfl (fun j => hf j) ⟨hok, h0⟩ fun j hj => E.b (round j hj _ fun j' h1 h2 h3 => ⟨j', h1, h2, h3⟩)
end
end Go.AL

namespace Go.AL.Rl
open Go Go.AL Go.Proofs
set_option maxRecDepth 100000

structure Ev where
 kind : Int
 loc : Int
 order : Int
 rd : Int
 wr : Int
theorem Ev.ext' {a b : Ev} (h1 : a.kind = b.kind) (h2 : a.loc = b.loc) (h3 : a.order = b.order) (h4 : a.rd = b.rd) (h5 : a.wr = b.wr) : a = b := by cases a; cases b; simp_all
instance : DecidableEq Ev := fun a b => decidable_of_iff (a.kind = b.kind ∧ a.loc = b.loc ∧ a.order = b.order ∧ a.rd = b.rd ∧ a.wr = b.wr) ⟨fun h => Ev.ext' h.1 h.2.1 h.2.2.1 h.2.2.2.1 h.2.2.2.2, fun h => by subst h; exact ⟨rfl, rfl, rfl, rfl, rfl⟩⟩
structure EId where
 t : Int
 i : Int
theorem EId.ext' {a b : EId} (h1 : a.t = b.t) (h2 : a.i = b.i) : a = b := by cases a; cases b; simp_all
instance : DecidableEq EId := fun a b => decidable_of_iff (a.t = b.t ∧ a.i = b.i) ⟨fun h => EId.ext' h.1 h.2, fun h => by subst h; exact ⟨rfl, rfl⟩⟩
structure Gr where
 init : List Int
 th : List (List Ev)
 fr : List (List EId)
 ord : List (List EId)
abbrev ev0 : Ev := ⟨0, 0, 0, 0, 0⟩
abbrev id0 : EId := ⟨0, 0⟩

abbrev aEv (e : Ev) : AV := .agg [.i fun _ => e.kind, .i fun _ => e.loc, .i fun _ => e.order, .i fun _ => e.rd, .i fun _ => e.wr]
abbrev aId (d : EId) : AV := .agg [.i fun _ => d.t, .i fun _ => d.i]
def evs (l : List Ev) : LV := LV.of (l.map aEv)
def ids (l : List EId) : LV := LV.of (l.map aId)
def evss (l : List (List Ev)) : LV := LV.of (l.map fun x => .vs 5 fun _ => evs x)
def idss (l : List (List EId)) : LV := LV.of (l.map fun x => .vs 2 fun _ => ids x)
abbrev aGr (g : Gr) : AV := .agg [.vs 1 fun _ => is g.init, .vs 1 fun _ => evss g.th, .vs 1 fun _ => idss g.fr, .vs 1 fun _ => idss g.ord]

@[simp] theorem evs_len (l : List Ev) : (evs l).l.length = l.length := by simp [evs]
@[simp] theorem ids_len (l : List EId) : (ids l).l.length = l.length := by simp [ids]
@[simp] theorem evss_len (l : List (List Ev)) : (evss l).l.length = l.length := by simp [evss]
@[simp] theorem idss_len (l : List (List EId)) : (idss l).l.length = l.length := by simp [idss]
theorem evs_get (l : List Ev) (i : Nat) (h : i < l.length) : (evs l).l.getD i .any = aEv (l.getD i ev0) := by simp [evs, h]
theorem ids_get (l : List EId) (i : Nat) (h : i < l.length) : (ids l).l.getD i .any = aId (l.getD i id0) := by simp [ids, h]
theorem evss_get (l : List (List Ev)) (i : Nat) (h : i < l.length) : (evss l).l.getD i .any = .vs 5 fun _ => evs (l.getD i []) := by simp [evss, h]
theorem idss_get (l : List (List EId)) (i : Nat) (h : i < l.length) : (idss l).l.getD i .any = .vs 2 fun _ => ids (l.getD i []) := by simp [idss, h]
section
variable (a b c d e : Unit → Int) (k : Nat) (es : Unit → LV)
theorem at_e0 : ((AV.agg [.i a, .i b, .i c, .i d, .i e]).at 0).asI = a () := rfl
theorem at_e1 : ((AV.agg [.i a, .i b, .i c, .i d, .i e]).at 1).asI = b () := rfl
theorem at_e2 : ((AV.agg [.i a, .i b, .i c, .i d, .i e]).at 2).asI = c () := rfl
theorem at_e3 : ((AV.agg [.i a, .i b, .i c, .i d, .i e]).at 3).asI = d () := rfl
theorem at_e4 : ((AV.agg [.i a, .i b, .i c, .i d, .i e]).at 4).asI = e () := rfl
theorem at_d0 : ((AV.agg [.i a, .i b]).at 0).asI = a () := rfl
theorem at_d1 : ((AV.agg [.i a, .i b]).at 1).asI = b () := rfl
theorem at_l : ((AV.vs k es).at 0).asL = es () := rfl
theorem at_agg (cs : List AV) (off : Nat) : (AV.agg cs).at off = cs.getD off .any := rfl
theorem asL_vs : (AV.vs k es).asL = es () := rfl
theorem asI_i : (AV.i a).asI = a () := rfl
theorem asU_u (u : Unit → BitVec 64) : (AV.u u).asU = u () := rfl
theorem asB_b (u : Unit → Bool) : (AV.b u).asB = u () := rfl
end

theorem bofZ {z : Int} (h0 : 0 ≤ z) (h1 : z < 9223372036854775808) : (BitVec.ofInt 64 z).toNat = z.toNat := by simp; omega
theorem bof1 : BitVec.ofInt 64 1 = 1#64 := rfl
theorem bof0 : BitVec.ofInt 64 0 = 0#64 := rfl
/-- library rules under short names -/
theorem zA {α : Type _} {a b : List α} : (a ++ b).length = a.length + b.length := List.length_append
theorem zM {α β : Type _} {l : List α} (f : α → β) : (l.map f).length = l.length := List.length_map f
theorem zG {n : Nat} : (List.range n).length = n := List.length_range
theorem zP {α : Type _} {n : Nat} {a : α} : (List.replicate n a).length = n := List.length_replicate
theorem zT (n : Nat) : (n : Int).toNat = n := Int.toNat_natCast n
theorem zZ : (0 : Int).toNat = 0 := Int.toNat_zero
theorem zC {α : Type _} {a d : α} {l : List α} : (a :: l).getD 0 d = a := rfl
theorem zS {α : Type _} {a d : α} {l : List α} {n : Nat} : (a :: l).getD (n + 1) d = l.getD n d := rfl
theorem zD {p : Prop} [Decidable p] : (decide p = true) = p := decide_eq_true_eq
theorem zE {p : Prop} {_ : Decidable p} : decide p = false ↔ ¬p := decide_eq_false_iff_not
theorem zB {b : Bool} : (¬b = true) = (b = false) := Bool.not_eq_true b
theorem zF {b : Bool} : (¬b = false) = (b = true) := Bool.not_eq_false b
theorem zN {a : Bool} : ((!a) = true) = (a = false) := Bool.not_eq_true' a
theorem zO {a : Bool} : ((!a) = false) = (a = true) := Bool.not_eq_false' a
theorem zQ {p : Prop} [Decidable p] : ¬¬p ↔ p := Decidable.not_not
theorem zL {a b : Int} : ¬a ≤ b ↔ b < a := Int.not_le
theorem zR {a b : Int} : ¬a < b ↔ b ≤ a := Int.not_lt
/-- the readings of told lists and events, in one -/
theorem rdS : (∀ l : List Int, (is l).l.length = l.length) ∧ (∀ l : List (BitVec 64), (us l).l.length = l.length) ∧ (∀ l : List (Int × Int), (ps l).l.length = l.length)
  ∧ (∀ (l : List Int) (i : Nat) (_ : i < l.length), (is l).l.getD i .any = .i fun _ => l.getD i 0)
  ∧ (∀ (l : List (BitVec 64)) (i : Nat) (_ : i < l.length), (us l).l.getD i .any = .u fun _ => l.getD i 0)
  ∧ (∀ (l : List (Int × Int)) (i : Nat) (_ : i < l.length), (ps l).l.getD i .any = .agg [.i fun _ => (l.getD i (0, 0)).1, .i fun _ => (l.getD i (0, 0)).2])
  ∧ (∀ x : Unit → Int, ((AV.i x).at 0).asI = x ()) ∧ (∀ x : Unit → BitVec 64, ((AV.u x).at 0).asU = x ())
  ∧ (∀ x y : Unit → Int, ((AV.agg [.i x, .i y]).at 0).asI = x ()) ∧ (∀ x y : Unit → Int, ((AV.agg [.i x, .i y]).at 1).asI = y ())
  ∧ (∀ l : List Ev, (evs l).l.length = l.length) ∧ (∀ l : List EId, (ids l).l.length = l.length)
  ∧ (∀ l : List (List Ev), (evss l).l.length = l.length) ∧ (∀ l : List (List EId), (idss l).l.length = l.length)
  ∧ (∀ (l : List Ev) (i : Nat) (_ : i < l.length), (evs l).l.getD i .any = aEv (l.getD i ev0))
  ∧ (∀ (l : List EId) (i : Nat) (_ : i < l.length), (ids l).l.getD i .any = aId (l.getD i id0))
  ∧ (∀ (l : List (List Ev)) (i : Nat) (_ : i < l.length), (evss l).l.getD i .any = .vs 5 fun _ => evs (l.getD i []))
  ∧ (∀ (l : List (List EId)) (i : Nat) (_ : i < l.length), (idss l).l.getD i .any = .vs 2 fun _ => ids (l.getD i []))
  ∧ (∀ a b c d e : Unit → Int, ((AV.agg [.i a, .i b, .i c, .i d, .i e]).at 0).asI = a ())
  ∧ (∀ a b c d e : Unit → Int, ((AV.agg [.i a, .i b, .i c, .i d, .i e]).at 1).asI = b ())
  ∧ (∀ a b c d e : Unit → Int, ((AV.agg [.i a, .i b, .i c, .i d, .i e]).at 2).asI = c ())
  ∧ (∀ a b c d e : Unit → Int, ((AV.agg [.i a, .i b, .i c, .i d, .i e]).at 3).asI = d ())
  ∧ (∀ a b c d e : Unit → Int, ((AV.agg [.i a, .i b, .i c, .i d, .i e]).at 4).asI = e ())
  ∧ (∀ (k : Nat) (es : Unit → LV), ((AV.vs k es).at 0).asL = es ()) ∧ (∀ (k : Nat) (es : Unit → LV), (AV.vs k es).asL = es ())
  ∧ (∀ a : Unit → Int, (AV.i a).asI = a ()) ∧ (∀ u : Unit → BitVec 64, (AV.u u).asU = u ()) ∧ (∀ u : Unit → Bool, (AV.b u).asB = u ()) :=
 ⟨is_len, us_len, ps_len, is_get, us_get, ps_get, at_i, at_u, at_p0, at_p1, evs_len, ids_len, evss_len, idss_len, evs_get, ids_get, evss_get, idss_get, at_e0, at_e1, at_e2, at_e3, at_e4, at_l, asL_vs, asI_i, asU_u, asB_b⟩
/-- the lengths of told lists, in one -/
theorem lnS : (∀ l : List Int, (is l).l.length = l.length) ∧ (∀ l : List (BitVec 64), (us l).l.length = l.length) ∧ (∀ l : List (Int × Int), (ps l).l.length = l.length)
  ∧ (∀ l : List Ev, (evs l).l.length = l.length) ∧ (∀ l : List EId, (ids l).l.length = l.length)
  ∧ (∀ l : List (List Ev), (evss l).l.length = l.length) ∧ (∀ l : List (List EId), (idss l).l.length = l.length)
  ∧ (∀ (n : Nat) (f : Nat → BitVec 64), (tab n f).length = n)
  ∧ (∀ {α : Type} {a b : List α}, (a ++ b).length = a.length + b.length) ∧ (∀ {α β : Type} {l : List α} (f : α → β), (l.map f).length = l.length)
  ∧ (∀ {n : Nat}, (List.range n).length = n) ∧ (∀ {α : Type} {n : Nat} {a : α}, (List.replicate n a).length = n) :=
 ⟨is_len, us_len, ps_len, evs_len, ids_len, evss_len, idss_len, tab_len, zA, fun f => zM f, zG, zP⟩
/-- readings of numbers and cells, in one -/
theorem rdT : (∀ n : Nat, (NatCast.natCast n : Int) = (n : Int)) ∧ (∀ i : Nat, (NatCast.natCast i : Int).toNat = i) ∧ (∀ {n : Int}, -9223372036854775808 ≤ n → n < 9223372036854775808 → w64 n = n)
  ∧ (∀ n : Nat, (n : Int).toNat = n) ∧ (0 : Int).toNat = 0 ∧ (∀ {α β : Type} {l : List α} (f : α → β), (l.map f).length = l.length)
  ∧ (∀ (cs : List AV) (off : Nat), (AV.agg cs).at off = cs.getD off .any) ∧ (∀ {z : Int}, 0 ≤ z → z < 9223372036854775808 → (BitVec.ofInt 64 z).toNat = z.toNat) ∧ BitVec.ofInt 64 1 = 1#64 ∧ BitVec.ofInt 64 0 = 0#64
  ∧ (∀ {α : Type} {a d : α} {l : List α}, (a :: l).getD 0 d = a) ∧ (∀ {α : Type} {a d : α} {l : List α} {n : Nat}, (a :: l).getD (n + 1) d = l.getD n d) :=
 ⟨nc, nct, fun h0 h1 => w64_of h0 h1, zT, zZ, fun f => zM f, at_agg, fun a b => bofZ a b, bof1, bof0, zC, zS⟩
/-- readings of truths, in one -/
theorem trT : (!true) = false ∧ (!false) = true ∧ (∀ {p : Prop} [Decidable p], (decide p = true) = p) ∧ (∀ {p : Prop} {_ : Decidable p}, decide p = false ↔ ¬p) ∧ (∀ {b : Bool}, (¬b = true) = (b = false)) ∧ (∀ {b : Bool}, (¬b = false) = (b = true))
  ∧ (∀ {a : Bool}, ((!a) = true) = (a = false)) ∧ (∀ {a : Bool}, ((!a) = false) = (a = true)) ∧ (∀ {α : Type} (a b : α), (a ≠ b) = ¬a = b) ∧ (∀ {p : Prop} [Decidable p], ¬¬p ↔ p) ∧ (∀ {a b : Int}, ¬a ≤ b ↔ b < a) ∧ (∀ {a b : Int}, ¬a < b ↔ b ≤ a)
  ∧ (∀ {α : Type} [BEq α] [LawfulBEq α] {a b : α}, (a == b) = true ↔ a = b) :=
 ⟨rfl, rfl, zD, zE, zB, zF, zN, zO, fun _ _ => rfl, zQ, zL, zR, beq_iff_eq⟩
/-- what is plainly so, in one -/
theorem anT : (∀ α : Type, (α → True) = True) ∧ (∀ p : Prop, (p → True) = True) ∧ (∀ p : Prop, (p ∧ True) = p) ∧ (∀ p : Prop, (True ∧ p) = p) ∧ (∀ (α : Type) [Nonempty α] (p : Prop), (α → p) ↔ p) :=
 ⟨fun _ => implies_true _, fun _ => implies_true _, fun _ => and_true _, fun _ => true_and _, fun _ _ _ => forall_const _⟩
structure Rd (g : Gr) : Prop where
 init : (g.init.length : Int) ≤ 9223372036854775807
 th : (g.th.length : Int) ≤ 9223372036854775807
 fr : (g.fr.length : Int) ≤ 9223372036854775807
 ord : (g.ord.length : Int) ≤ 9223372036854775807
 ths : ∀ l ∈ g.th, (l.length : Int) ≤ 9223372036854775807
 frs : ∀ l ∈ g.fr, (l.length : Int) ≤ 9223372036854775807
 ords : ∀ l ∈ g.ord, (l.length : Int) ≤ 9223372036854775807
/-- what a graph's lists weigh -/
structure RdB (g : Gr) : Prop where
 init : g.init.length * 8 ≤ 140737488351232
 th : g.th.length * 24 ≤ 140737488351232
 fr : g.fr.length * 24 ≤ 140737488351232
 ord : g.ord.length * 24 ≤ 140737488351232
 ths : ∀ l ∈ g.th, l.length * 40 ≤ 140737488351232
 frs : ∀ l ∈ g.fr, l.length * 16 ≤ 140737488351232
 ords : ∀ l ∈ g.ord, l.length * 16 ≤ 140737488351232
def readsM (e : Ev) : Bool := decide (e.kind = 1) || decide (e.kind = 3)
def writesM (e : Ev) : Bool := decide (e.kind = 2) || decide (e.kind = 3)
variable {γ : Nat → Option AV}
theorem greads_ok (e : Ev) : Pure Try.prog γ false 66 [aEv e] (.b fun _ => readsM e) := by
 refine Pure.go (ty := ty) ty_eq mo Try.func66 rfl Try.ntmps66 Try.results66 Try.call66 (by simp) fun P C CQ D W F E hF => ?_
 cbv
 repeat' (first
  |(refine ⟨fun _ h_s=>?_,fun _ h_s=>?_⟩<;>(cbv;(try simp only [nc] at *);try simp (disch:=(first|omega|(simp only [lnS];omega))) only [rdT,rdS,reduceCtorEq,trT] at h_s))
  |(refine hF ?_;intro _;clear hF)
  |(refine hF ?_;cbv;clear hF)
  |(refine ⟨fun _=>?_,?_⟩;(· ((try simp only [nc] at *);first|done|omega|exact ⟨by omega,rfl⟩|(simp (disch:=(first|omega|(simp only [lnS];omega))) only [rdT,rdS];first|done|omega|rfl|exact ⟨by omega,rfl⟩|(simp;done)|(simp;omega))|(intros;trivial)));try cbv)
  | fail
 )
 all_goals simp_all [readsM]
theorem gwrites_ok (e : Ev) : Pure Try.prog γ false 67 [aEv e] (.b fun _ => writesM e) := by
 refine Pure.go (ty := ty) ty_eq mo Try.func67 rfl Try.ntmps67 Try.results67 Try.call67 (by simp) fun P C CQ D W F E hF => ?_
 cbv
 repeat' (first
  |(refine ⟨fun _ h_s=>?_,fun _ h_s=>?_⟩<;>(cbv;(try simp only [nc] at *);try simp (disch:=(first|omega|(simp only [lnS];omega))) only [rdT,rdS,reduceCtorEq,trT] at h_s))
  |(refine hF ?_;intro _;clear hF)
  |(refine hF ?_;cbv;clear hF)
  |(refine ⟨fun _=>?_,?_⟩;(· ((try simp only [nc] at *);first|done|omega|exact ⟨by omega,rfl⟩|(simp (disch:=(first|omega|(simp only [lnS];omega))) only [rdT,rdS];first|done|omega|rfl|exact ⟨by omega,rfl⟩|(simp;done)|(simp;omega))|(intros;trivial)));try cbv)
  | fail
 )
 all_goals simp_all [writesM]
theorem rreads_ok (e : Ev) : Pure Try.prog γ false 37 [aEv e] (.b fun _ => readsM e) := by
 refine Pure.go (ty := ty) ty_eq mo Try.func37 rfl Try.ntmps37 Try.results37 Try.call37 (by simp) fun P C CQ D W F E hF => ?_
 cbv
 repeat' (first
  |(refine ⟨fun _ h_s=>?_,fun _ h_s=>?_⟩<;>(cbv;(try simp only [nc] at *);try simp (disch:=(first|omega|(simp only [lnS];omega))) only [rdT,rdS,reduceCtorEq,trT] at h_s))
  |(refine hF ?_;intro _;clear hF)
  |(refine hF ?_;cbv;clear hF)
  |(refine ⟨fun _=>?_,?_⟩;(· ((try simp only [nc] at *);first|done|omega|exact ⟨by omega,rfl⟩|(simp (disch:=(first|omega|(simp only [lnS];omega))) only [rdT,rdS];first|done|omega|rfl|exact ⟨by omega,rfl⟩|(simp;done)|(simp;omega))|(intros;trivial)));try cbv)
  | fail
 )
 all_goals simp_all [readsM]
theorem rwrites_ok (e : Ev) : Pure Try.prog γ false 21 [aEv e] (.b fun _ => writesM e) := by
 refine Pure.go (ty := ty) ty_eq mo Try.func21 rfl Try.ntmps21 Try.results21 Try.call21 (by simp) fun P C CQ D W F E hF => ?_
 cbv
 repeat' (first
  |(refine ⟨fun _ h_s=>?_,fun _ h_s=>?_⟩<;>(cbv;(try simp only [nc] at *);try simp (disch:=(first|omega|(simp only [lnS];omega))) only [rdT,rdS,reduceCtorEq,trT] at h_s))
  |(refine hF ?_;intro _;clear hF)
  |(refine hF ?_;cbv;clear hF)
  |(refine ⟨fun _=>?_,?_⟩;(· ((try simp only [nc] at *);first|done|omega|exact ⟨by omega,rfl⟩|(simp (disch:=(first|omega|(simp only [lnS];omega))) only [rdT,rdS];first|done|omega|rfl|exact ⟨by omega,rfl⟩|(simp;done)|(simp;omega))|(intros;trivial)));try cbv)
  | fail
 )
 all_goals simp_all [writesM]
/-- may an event be, of so many locations? -/
def fineM (n : Int) (e : Ev) : Bool :=
 decide (1 ≤ e.kind ∧ e.kind ≤ 4 ∧ 1 ≤ e.order ∧ e.order ≤ 6) && (readsM e || decide (e.rd = 0)) && (writesM e || decide (e.wr = 0)) && (if e.kind = 4 then decide (e.loc = 0) else decide (0 ≤ e.loc ∧ e.loc < n))
theorem rightEvent_ok (e : Ev) (n : Int) : Pure Try.prog γ false 58 [aEv e, .i fun _ => n] (.b fun _ => fineM n e) := by
 refine Pure.go (ty := ty) ty_eq mo Try.func58 rfl Try.ntmps58 Try.results58 Try.call58 (by simp) fun P C CQ D W F E hF => ?_
 cbv
 repeat' (first
  |(refine E.c (SCalls.of_le (gwrites_ok e) ?_ ?_);(· (cbv;(try simp only [nc] at *);first|done|(simp;done)|(simp (disch:=(first|omega|(simp only [lnS];omega))) only [rdT,rdS,anT];first|done|omega|(refine ⟨?_,?_⟩<;>omega))|(simp (disch:=(first|omega|(simp only [lnS];omega))) [rdT,rdS];done)));cbv)
  |(refine E.c (SCalls.of_le (greads_ok e) ?_ ?_);(· (cbv;(try simp only [nc] at *);first|done|(simp;done)|(simp (disch:=(first|omega|(simp only [lnS];omega))) only [rdT,rdS,anT];first|done|omega|(refine ⟨?_,?_⟩<;>omega))|(simp (disch:=(first|omega|(simp only [lnS];omega))) [rdT,rdS];done)));cbv)
  |(refine ⟨fun _ h_s=>?_,fun _ h_s=>?_⟩<;>(cbv;(try simp only [nc] at *);try simp (disch:=(first|omega|(simp only [lnS];omega))) only [rdT,rdS,reduceCtorEq,trT] at h_s))
  |(refine hF ?_;intro _;clear hF)
  |(refine hF ?_;cbv;clear hF)
  |(refine ⟨fun _=>?_,?_⟩;(· ((try simp only [nc] at *);first|done|omega|exact ⟨by omega,rfl⟩|(simp (disch:=(first|omega|(simp only [lnS];omega))) only [rdT,rdS];first|done|omega|rfl|exact ⟨by omega,rfl⟩|(simp;done)|(simp;omega))|(intros;trivial)));try cbv)
  | fail
 )
 all_goals simp only [fineM]
 all_goals grind
theorem fine_ok (e : Ev) (g : Gr) : Pure Try.prog γ false 20 [aGr g, aEv e] (.b fun _ => fineM g.init.length e) := by
 refine Pure.go (ty := ty) ty_eq mo Try.func20 rfl Try.ntmps20 Try.results20 Try.call20 (by simp) fun P C CQ D W F E hF => ?_
 cbv
 repeat' (first
  |(refine E.c (SCalls.of_le (rwrites_ok e) ?_ ?_);(· (cbv;(try simp only [nc] at *);first|done|(simp;done)|(simp (disch:=(first|omega|(simp only [lnS];omega))) only [rdT,rdS,anT];first|done|omega|(refine ⟨?_,?_⟩<;>omega))|(simp (disch:=(first|omega|(simp only [lnS];omega))) [rdT,rdS];done)));cbv)
  |(refine E.c (SCalls.of_le (rreads_ok e) ?_ ?_);(· (cbv;(try simp only [nc] at *);first|done|(simp;done)|(simp (disch:=(first|omega|(simp only [lnS];omega))) only [rdT,rdS,anT];first|done|omega|(refine ⟨?_,?_⟩<;>omega))|(simp (disch:=(first|omega|(simp only [lnS];omega))) [rdT,rdS];done)));cbv)
  |(refine ⟨fun _ h_s=>?_,fun _ h_s=>?_⟩<;>(cbv;(try simp only [nc] at *);try simp (disch:=(first|omega|(simp only [lnS];omega))) only [rdT,rdS,reduceCtorEq,trT] at h_s))
  |(refine hF ?_;intro _;clear hF)
  |(refine hF ?_;cbv;clear hF)
  |(refine ⟨fun _=>?_,?_⟩;(· ((try simp only [nc] at *);first|done|omega|exact ⟨by omega,rfl⟩|(simp (disch:=(first|omega|(simp only [lnS];omega))) only [rdT,rdS];first|done|omega|rfl|exact ⟨by omega,rfl⟩|(simp;done)|(simp;omega))|(intros;trivial)));try cbv)
  | fail
 )
 all_goals (try simp only [fineM])
 all_goals (try simp only [nc, is_len])
 all_goals grind
end Go.AL.Rl

namespace Go.AL.Rl
open Go Go.AL Go.Proofs
set_option maxRecDepth 100000
variable {γ : Nat → Option AV}

/-- the event of an Id -/
def eventM (g : Gr) (d : EId) : Option Ev :=
 if d.t = 0 then (if 0 ≤ d.i ∧ d.i < g.init.length then some ⟨2, d.i, 1, 0, g.init.getD d.i.toNat 0⟩ else none)
 else if 0 < d.t ∧ d.t ≤ g.th.length ∧ 0 ≤ d.i ∧ d.i < (g.th.getD (d.t - 1).toNat []).length then some ((g.th.getD (d.t - 1).toNat []).getD d.i.toNat ev0) else none
theorem revent_ok (g : Gr) (hg : Rd g) (d : EId) : Pure Try.prog γ false 32 [aGr g, aId d] (.tup [aEv ((eventM g d).getD ev0), .b fun _ => (eventM g d).isSome]) := by
 have hg1 := hg.init
 have hg2 := hg.th
 refine Pure.go (ty := ty) ty_eq mo Try.func32 rfl Try.ntmps32 Try.results32 Try.call32 (by simp) fun P C CQ D W F E hF => ?_
 cbv
 repeat' (first
  |(refine ⟨fun _ h_s=>?_,fun _ h_s=>?_⟩<;>(cbv;(try simp only [nc] at *);try simp (disch:=(first|omega|(simp only [lnS];omega))) only [rdT,rdS,reduceCtorEq,trT] at h_s))
  |(refine hF ?_;intro _;clear hF)
  |(refine hF ?_;cbv;clear hF)
  |(refine ⟨fun _=>?_,?_⟩;(· ((try simp only [nc] at *);first|done|omega|exact ⟨by omega,rfl⟩|(simp (disch:=(first|omega|(simp only [lnS];omega))) only [rdT,rdS];first|done|omega|rfl|exact ⟨by omega,rfl⟩|(simp;done)|(simp;omega))|(intros;trivial)));try cbv)
  |(refine E.d 8 (by decide +kernel) ?_;cbv;(fail_if_success guard_target =~ False))
  |(refine E.d 9 (by decide +kernel) ?_;cbv;(fail_if_success guard_target =~ False))
  |(refine E.d 27 (by decide +kernel) ?_;cbv;(fail_if_success guard_target =~ False))
  | fail
 )
 all_goals (try simp only [nc] at *)
 all_goals (try simp (disch:=(first|omega|(simp only [lnS];omega))) only [rdT,rdS])
 all_goals first
  | (
    have e : eventM g d = none := by (unfold eventM; split <;> split <;> first | rfl | omega)
    rw [e]; simp; done)
  | (
    have e : eventM g d = some ⟨2, d.i, 1, 0, g.init.getD d.i.toNat 0⟩ := by (unfold eventM; split <;> split <;> first | rfl | omega)
    rw [e]; simp; done)
  | (
    have e : eventM g d = some ((g.th.getD (d.t - 1).toNat []).getD d.i.toNat ev0) := by (unfold eventM; split <;> split <;> first | rfl | omega)
    rw [e]; simp; done)
  | skip
end Go.AL.Rl

namespace Go.AL.Rl
open Go Go.AL Go.Proofs
set_option maxRecDepth 100000
variable {γ : Nat → Option AV}

def sourceM (g : Gr) (d f : EId) : Bool :=
 if readsM ((eventM g d).getD ev0) = true then (match eventM g f with | some w => decide (f ≠ d) && writesM w && decide (w.loc = ((eventM g d).getD ev0).loc) && decide (w.wr = ((eventM g d).getD ev0).rd) | none => false) else decide (f = id0)
theorem eid_iff (a b : EId) : a = b ↔ a.t = b.t ∧ a.i = b.i := ⟨fun h => by subst h; exact ⟨rfl, rfl⟩, fun h => EId.ext' h.1 h.2⟩
theorem source_ok (g : Gr) (hg : Rd g) (d f : EId) : Pure Try.prog γ false 35 [aGr g, aId d, aId f] (.b fun _ => sourceM g d f) := by
 refine Pure.go (ty := ty) ty_eq mo Try.func35 rfl Try.ntmps35 Try.results35 Try.call35 (by simp) fun P C CQ D W F E hF => ?_
 cbv
 repeat' (first
  |(refine E.c (SCalls.of_le (rwrites_ok ((eventM g f).getD ev0)) ?_ ?_);(· (cbv;(try simp only [nc] at *);first|done|(simp;done)|(simp (disch:=(first|omega|(simp only [lnS];omega))) only [rdT,rdS,anT];first|done|omega|(refine ⟨?_,?_⟩<;>omega))|(simp (disch:=(first|omega|(simp only [lnS];omega))) [rdT,rdS];done)));cbv)
  |(refine E.c (SCalls.of_le (rreads_ok ((eventM g d).getD ev0)) ?_ ?_);(· (cbv;(try simp only [nc] at *);first|done|(simp;done)|(simp (disch:=(first|omega|(simp only [lnS];omega))) only [rdT,rdS,anT];first|done|omega|(refine ⟨?_,?_⟩<;>omega))|(simp (disch:=(first|omega|(simp only [lnS];omega))) [rdT,rdS];done)));cbv)
  |(refine E.c (SCalls.of_le (revent_ok g hg f) ?_ ?_);(· (cbv;(try simp only [nc] at *);first|done|(simp;done)|(simp (disch:=(first|omega|(simp only [lnS];omega))) only [rdT,rdS,anT];first|done|omega|(refine ⟨?_,?_⟩<;>omega))|(simp (disch:=(first|omega|(simp only [lnS];omega))) [rdT,rdS];done)));cbv)
  |(refine E.c (SCalls.of_le (revent_ok g hg d) ?_ ?_);(· (cbv;(try simp only [nc] at *);first|done|(simp;done)|(simp (disch:=(first|omega|(simp only [lnS];omega))) only [rdT,rdS,anT];first|done|omega|(refine ⟨?_,?_⟩<;>omega))|(simp (disch:=(first|omega|(simp only [lnS];omega))) [rdT,rdS];done)));cbv)
  |(refine ⟨fun _ h_s=>?_,fun _ h_s=>?_⟩<;>(cbv;(try simp only [nc] at *);try simp (disch:=(first|omega|(simp only [lnS];omega))) only [rdT,rdS,reduceCtorEq,trT] at h_s))
  |(refine hF ?_;intro _;clear hF)
  |(refine hF ?_;cbv;clear hF)
  |(refine ⟨fun _=>?_,?_⟩;(· ((try simp only [nc] at *);first|done|omega|exact ⟨by omega,rfl⟩|(simp (disch:=(first|omega|(simp only [lnS];omega))) only [rdT,rdS];first|done|omega|rfl|exact ⟨by omega,rfl⟩|(simp;done)|(simp;omega))|(intros;trivial)));try cbv)
  | fail
 )
 all_goals (try simp only [nc] at *)
 all_goals (try simp (disch:=(first|omega|(simp only [lnS];omega))) only [rdT,rdS])
 all_goals (unfold sourceM; cases hf : eventM g f <;> simp_all [eid_iff])

def cntE (x : Int) (l : List Ev) : Nat := l.countP fun e => writesM e && decide (e.loc = x)
def cntT (x : Int) (ts : List (List Ev)) : Nat := (ts.map (cntE x)).sum
theorem take_succ' {α : Type} (l : List α) (i : Nat) (d : α) (h : i < l.length) : l.take (i + 1) = l.take i ++ [l.getD i d] := by
 rw [List.take_succ_eq_append_getElem h]; simp [h]
theorem cntE_succ (x : Int) (l : List Ev) (i : Nat) (h : i < l.length) : cntE x (l.take (i + 1)) = cntE x (l.take i) + if (writesM (l.getD i ev0) && decide ((l.getD i ev0).loc = x)) = true then 1 else 0 := by
 rw [take_succ' l i ev0 h, cntE, List.countP_append]; simp [cntE, List.countP_cons]
theorem cntT_succ (x : Int) (ts : List (List Ev)) (t : Nat) (h : t < ts.length) : cntT x (ts.take (t + 1)) = cntT x (ts.take t) + cntE x (ts.getD t []) := by
 rw [take_succ' ts t [] h, cntT, List.map_append, List.sum_append]; simp [cntT]
theorem cntE_le (x : Int) (l : List Ev) : cntE x l ≤ l.length := List.countP_le_length
theorem cntE_take (x : Int) (l : List Ev) (i : Nat) : cntE x (l.take i) ≤ l.length := Nat.le_trans (cntE_le x _) (by simp; omega)
/-- few threads, few events, few locations -/
structure Short (g : Gr) : Prop where
 th : g.th.length ≤ 4
 init : g.init.length ≤ 6
 ths : ∀ l ∈ g.th, l.length ≤ 14
theorem Short.at {g : Gr} (h : Short g) (t : Nat) : (g.th.getD t []).length ≤ 14 := by
 rcases Nat.lt_or_ge t g.th.length with h1 | h1
 ·exact h.ths _ (getD_mem h1)
 ·simp [List.getElem?_eq_none h1]
theorem cntT_le {ts : List (List Ev)} (x : Int) (h : ∀ l ∈ ts, l.length ≤ 14) : cntT x ts ≤ 14 * ts.length := by
 induction ts with
 | nil => simp [cntT]
 | cons l ts ih =>
  have := ih fun l hl => h l (by simp [hl])
  have h1 := cntE_le x l
  have h2 := h l (by simp)
  simp only [cntT, List.map_cons, List.sum_cons, List.length_cons] at this ⊢
  omega
theorem cntT_take {g : Gr} (h : Short g) (x : Int) (t : Nat) : cntT x (g.th.take t) ≤ 56 := by
 have h1 := cntT_le x (ts := g.th.take t) fun l hl => h.ths l (List.mem_of_mem_take hl)
 have h2 := h.th
 have h3 : (g.th.take t).length ≤ g.th.length := by simp; omega
 omega
/-- an event of a thread that writes there -/
def isW (g : Gr) (x : Int) (d : EId) : Bool := match eventM g d with | some e => decide (d.t ≠ 0) && writesM e && decide (e.loc = x) | none => false
def orderedM (g : Gr) (x : Nat) : Bool :=
 decide (∀ i < (g.ord.getD x []).length, isW g x ((g.ord.getD x []).getD i id0) = true ∧ ∀ k < i, (g.ord.getD x []).getD k id0 ≠ (g.ord.getD x []).getD i id0) && decide ((g.ord.getD x []).length = cntT x g.th)

theorem orderedM_no {g : Gr} {x : Nat} {l : List EId} (hl : g.ord.getD x [] = l) (i : Nat) (hi : i < l.length) (h : ¬ (isW g x (l.getD i id0) = true ∧ ∀ k < i, l.getD k id0 ≠ l.getD i id0)) : orderedM g x = false := by
 unfold orderedM
 rw [hl, Bool.and_eq_false_iff]
 left
 exact decide_eq_false fun hall => h (hall i hi)
theorem ordered_ok (g : Gr) (hg : Rd g) (hs : Short g) (x : Nat) (hx : x < g.ord.length) : Pure Try.prog γ false 36 [aGr g, .i fun _ => (x : Int)] (.b fun _ => orderedM g x) := by
 have hg2 := hg.ord
 have hs1 := hs.th
 have hol : ((g.ord.getD x []).length : Int) ≤ 9223372036854775807 := hg.ords _ (getD_mem hx)
 refine Pure.go (ty := ty) ty_eq mo Try.func36 rfl Try.ntmps36 Try.results36 Try.call36 (by simp) fun P C CQ D W F E hF => ?_
 cbv
 refine E.loopS (ι:=Nat) (fun t=>t≤g.th.length) (fun t=>g.th.length - t) (fun t=>[(6,.i fun _=>((t : Nat) : Int)),(5,.i fun _=>((cntT x (g.th.take t) : Nat) : Int))]) (fun t h=>h) 0 (fun _=>by first|rfl|simp) (Nat.zero_le _) ?_ fun t ht I hI=>?_
 ·cbv; simp [cntT]
 cbv
 refine ⟨fun _ h4 => ?_, fun _ h4 => ?_⟩
 ·(try simp only [nc] at *)
  simp (disch:=(first|omega|(simp only [lnS];omega))) only [rdT,rdS,reduceCtorEq,trT] at h4
  have hs2 := hs.at t
  have hct := cntT_succ x g.th t (by omega)
  have hcl := cntT_take hs x t
  cbv
  refine E.loopS (ι:=Nat) (fun i=>i≤(g.th.getD t []).length) (fun i=>(g.th.getD t []).length - i) (fun i=>[(7,.i fun _=>((i : Nat) : Int)),(5,.i fun _=>((cntT x (g.th.take t) + cntE x ((g.th.getD t []).take i) : Nat) : Int))]) (fun i h=>h) 0 (fun _=>by first|rfl|simp) (Nat.zero_le _) ?_ fun i hi I2 hI2=>?_
  ·cbv; simp [cntE]
  cbv
  have hce := cntE_succ x (g.th.getD t []) i
  have hcm := cntE_take x (g.th.getD t []) i
  repeat' (first
   |(refine hI (t + 1) ?_ ?_ ?_;rotate_left 1;(· ((try simp only [nc] at *);omega));(cbv;clear hI;(try clear hF);(try simp only [nc] at *);(try simp (disch:=(first|omega|(simp only [lnS];omega))) only [rdT,rdS,anT]));rotate_left 1;(try ((try simp only [nc] at *);omega)))
   |(refine hI2 (i + 1) ?_ ?_ ?_;rotate_left 1;(· ((try simp only [nc] at *);omega));(cbv;clear hI2;(try clear hF);(try simp only [nc] at *);(try simp (disch:=(first|omega|(simp only [lnS];omega))) only [rdT,rdS,anT]));rotate_left 1;(try ((try simp only [nc] at *);omega)))
   |(refine E.c (SCalls.of_le (rwrites_ok ((g.th.getD t []).getD i ev0)) ?_ ?_);(· (cbv;(try simp only [nc] at *);first|done|(simp;done)|(simp (disch:=(first|omega|(simp only [lnS];omega))) only [rdT,rdS,anT];first|done|omega|(refine ⟨?_,?_⟩<;>omega))|(simp (disch:=(first|omega|(simp only [lnS];omega))) [rdT,rdS];done)));cbv)
   |(refine ⟨fun _ h_s=>?_,fun _ h_s=>?_⟩<;>(cbv;(try simp only [nc] at *);try simp (disch:=(first|omega|(simp only [lnS];omega))) only [rdT,rdS,reduceCtorEq,trT] at h_s))
   |(refine hF ?_;intro _;clear hF)
   |(refine hF ?_;cbv;clear hF)
   |(refine ⟨fun _=>?_,?_⟩;(· ((try simp only [nc] at *);first|done|omega|exact ⟨by omega,rfl⟩|(simp (disch:=(first|omega|(simp only [lnS];omega))) only [rdT,rdS];first|done|omega|rfl|exact ⟨by omega,rfl⟩|(simp;done)|(simp;omega))|(intros;trivial)));try cbv)
   |(refine E.d 8 (by decide +kernel) ?_;cbv;(fail_if_success guard_target =~ False))
   | fail
  )
  iterate 3
   ·rw [hce (by omega)]
    clear hct hce hcl hcm hs2
    generalize (g.th.getD t []).getD i ev0 = e at *
    simp only [*, decide_true, decide_false, Bool.and_self, Bool.true_and, Bool.false_and, if_true, if_false, Bool.false_eq_true]
    omega
  ·rw [hct]
   have e : i = (g.th.getD t []).length := by omega
   rw [e, List.take_length]; simp
 ·(try simp only [nc] at *)
  simp (disch:=(first|omega|(simp only [lnS];omega))) only [rdT,rdS,reduceCtorEq,trT] at h4
  have ht' : t = g.th.length := by omega
  subst ht'
  rw [List.take_length]
  cbv
  refine ⟨fun _ => ?_, ?_⟩
  ·((try simp only [nc] at *);first|done|omega|exact ⟨by omega,rfl⟩|(simp (disch:=(first|omega|(simp only [lnS];omega))) only [rdT,rdS];first|done|omega|rfl|exact ⟨by omega,rfl⟩|(simp;done)|(simp;omega))|(intros;trivial))
  try cbv
  refine ⟨fun _ => ?_, ?_⟩
  ·((try simp only [nc] at *);first|done|omega|exact ⟨by omega,rfl⟩|(simp (disch:=(first|omega|(simp only [lnS];omega))) only [rdT,rdS];first|done|omega|rfl|exact ⟨by omega,rfl⟩|(simp;done)|(simp;omega))|(intros;trivial))
  try cbv
  simp only [nct, idss_get g.ord x hx, at_l]
  have hcl : cntT x g.th ≤ 56 := by have := cntT_take hs x g.th.length; rwa [List.take_length] at this
  generalize hl : g.ord.getD x [] = l at *
  refine E.loopS (ι:=Nat) (fun i=>i≤l.length∧(∀ j < i,isW g x (l.getD j id0) = true∧∀ k < j,l.getD k id0 ≠ l.getD j id0)) (fun i=>l.length - i) (fun i=>[(9,.i fun _=>((i : Nat) : Int))]) (fun i h=>h) 0 (fun _=>by first|rfl|simp) ⟨Nat.zero_le _,?_⟩ ?_ fun i hi I hI=>?_
  ·intro j hj; omega
  ·cbv; simp
  obtain ⟨hi, hok⟩ := hi
  cbv
  refine ⟨fun _ h5 => ?_, fun _ h5 => ?_⟩
  ·(try simp only [nc] at *)
   simp (disch:=(first|omega|(simp only [lnS];omega))) only [rdT,rdS,reduceCtorEq,trT] at h5
   cbv
   repeat' (first
    |(refine E.c (SCalls.of_le (rwrites_ok ((eventM g (l.getD i id0)).getD ev0)) ?_ ?_);(· (cbv;(try simp only [nc] at *);first|done|(simp;done)|(simp (disch:=(first|omega|(simp only [lnS];omega))) only [rdT,rdS,anT];first|done|omega|(refine ⟨?_,?_⟩<;>omega))|(simp (disch:=(first|omega|(simp only [lnS];omega))) [rdT,rdS];done)));cbv)
    |((first|refine E.c (SCalls.of_le (revent_ok g hg (l.getD i id0)) ?_ ?_)|refine E.q (QCalls.of_le (revent_ok g hg (l.getD i id0)) ?_ ?_));(· (cbv;(try simp only [nc] at *);first|done|(simp;done)|(simp (disch:=(first|omega|(simp only [lnS];omega))) only [rdT,rdS,anT];first|done|omega|(refine ⟨?_,?_⟩<;>omega))|(simp (disch:=(first|omega|(simp only [lnS];omega))) [rdT,rdS];done)));cbv)
    |(refine E.de 12 [] [none] (by decide +kernel) ?_;cbv;(fail_if_success guard_target =~ False))
    |(refine ⟨fun _ h_s=>?_,fun _ h_s=>?_⟩<;>(cbv;(try simp only [nc] at *);try simp (disch:=(first|omega|(simp only [lnS];omega))) only [rdT,rdS,reduceCtorEq,trT] at h_s))
    |(refine hF ?_;intro _;clear hF)
    |(refine hF ?_;cbv;clear hF)
    |(refine ⟨fun _=>?_,?_⟩;(· ((try simp only [nc] at *);first|done|omega|exact ⟨by omega,rfl⟩|(simp (disch:=(first|omega|(simp only [lnS];omega))) only [rdT,rdS];first|done|omega|rfl|exact ⟨by omega,rfl⟩|(simp;done)|(simp;omega))|(intros;trivial)));try cbv)
    |(refine E.d 8 (by decide +kernel) ?_;cbv;(fail_if_success guard_target =~ False))
    | fail
   )
   all_goals (try simp only [nc] at *)
   all_goals (try simp (disch:=(first|omega|(simp only [lnS];omega))) only [rdT,rdS])
   rotate_right 1
   ·have hw : isW g x (l.getD i id0) = true := by
     unfold isW; cases hf : eventM g (l.getD i id0) <;> simp_all
    refine E.loopS (ι:=Nat) (fun k=>k≤i∧(∀ j < k,l.getD j id0 ≠ l.getD i id0)) (fun k=>i - k) (fun k=>[(12,.i fun _=>((k : Nat) : Int))]) (fun k h=>h) 0 (fun _=>by first|rfl|simp) ⟨Nat.zero_le _,?_⟩ ?_ fun k hk I2 hI2=>?_
    ·intro j hj; omega
    ·cbv; simp
    obtain ⟨hk, hokk⟩ := hk
    cbv
    repeat' (first
     |(refine hI (i + 1) ?_ ?_ ?_;rotate_left 1;(· ((try simp only [nc] at *);omega));(cbv;clear hI;(try clear hF);(try simp only [nc] at *);(try simp (disch:=(first|omega|(simp only [lnS];omega))) only [rdT,rdS,anT]));rotate_left 1;(try ((try simp only [nc] at *);omega)))
     |(refine hI2 (k + 1) ?_ ?_ ?_;rotate_left 1;(· ((try simp only [nc] at *);omega));(cbv;clear hI2;(try clear hF);(try simp only [nc] at *);(try simp (disch:=(first|omega|(simp only [lnS];omega))) only [rdT,rdS,anT]));rotate_left 1;(try ((try simp only [nc] at *);omega)))
     |(refine ⟨fun _ h_s=>?_,fun _ h_s=>?_⟩<;>(cbv;(try simp only [nc] at *);try simp (disch:=(first|omega|(simp only [lnS];omega))) only [rdT,rdS,reduceCtorEq,trT] at h_s))
     |(refine hF ?_;intro _;clear hF)
     |(refine hF ?_;cbv;clear hF)
     |(refine ⟨fun _=>?_,?_⟩;(· ((try simp only [nc] at *);first|done|omega|exact ⟨by omega,rfl⟩|(simp (disch:=(first|omega|(simp only [lnS];omega))) only [rdT,rdS];first|done|omega|rfl|exact ⟨by omega,rfl⟩|(simp;done)|(simp;omega))|(intros;trivial)));try cbv)
     |(refine E.d 8 (by decide +kernel) ?_;cbv;(fail_if_success guard_target =~ False))
     | fail
    )
    all_goals (try simp only [nc] at *)
    all_goals (try simp (disch:=(first|omega|(simp only [lnS];omega))) only [rdT,rdS])
    ·refine orderedM_no hl i (by omega) fun h => h.2 k ?_ ((eid_iff _ _).2 ?_)
     ·omega
     ·simp_all
    ·refine ⟨by omega, fun j hj => ?_⟩
     rcases Nat.lt_or_ge j k with h | h
     ·exact hokk j h
     ·obtain rfl : j = k := by omega
      intro he
      rw [eid_iff] at he
      simp_all
    ·omega
    ·refine ⟨by omega, fun j hj => ?_⟩
     rcases Nat.lt_or_ge j i with h | h
     ·exact hok j h
     ·obtain rfl : j = i := by omega
      exact ⟨hw, fun k hk => hokk k (by omega)⟩
    ·omega
   all_goals
    refine orderedM_no hl i (by omega) fun h => ?_
    have h := h.1
    unfold isW at h
    cases hf : eventM g (l.getD i id0) <;> simp_all
  ·(try simp only [nc] at *)
   simp (disch:=(first|omega|(simp only [lnS];omega))) only [rdT,rdS,reduceCtorEq,trT] at h5
   cbv
   repeat' (first
    |(refine ⟨fun _ h_s=>?_,fun _ h_s=>?_⟩<;>(cbv;(try simp only [nc] at *);try simp (disch:=(first|omega|(simp only [lnS];omega))) only [rdT,rdS,reduceCtorEq,trT] at h_s))
    |(refine hF ?_;intro _;clear hF)
    |(refine hF ?_;cbv;clear hF)
    |(refine ⟨fun _=>?_,?_⟩;(· ((try simp only [nc] at *);first|done|omega|exact ⟨by omega,rfl⟩|(simp (disch:=(first|omega|(simp only [lnS];omega))) only [rdT,rdS];first|done|omega|rfl|exact ⟨by omega,rfl⟩|(simp;done)|(simp;omega))|(intros;trivial)));try cbv)
    |(refine E.d 8 (by decide +kernel) ?_;cbv;(fail_if_success guard_target =~ False))
    | fail
   )
   all_goals (try simp only [nc] at *)
   all_goals (try simp (disch:=(first|omega|(simp only [lnS];omega))) only [rdT,rdS])
   have e : i = l.length := by omega
   subst e
   unfold orderedM
   rw [hl, decide_eq_true (p := ∀ i < l.length, _) hok]
   simp
   omega

def eventsOk (g : Gr) : Prop := ∀ t < g.th.length, (g.fr.getD t []).length = (g.th.getD t []).length ∧ ∀ i < (g.th.getD t []).length, fineM g.init.length ((g.th.getD t []).getD i ev0) = true
def sourcesOk (g : Gr) : Prop := ∀ t < g.th.length, ∀ i < (g.th.getD t []).length, sourceM g ⟨t + 1, i⟩ ((g.fr.getD t []).getD i id0) = true
def ordersOk (g : Gr) : Prop := ∀ x < g.init.length, orderedM g x = true
instance (g : Gr) : Decidable (eventsOk g) := inferInstanceAs (Decidable (∀ t < g.th.length, _))
instance (g : Gr) : Decidable (sourcesOk g) := inferInstanceAs (Decidable (∀ t < g.th.length, _))
instance (g : Gr) : Decidable (ordersOk g) := inferInstanceAs (Decidable (∀ x < g.init.length, _))
/-- it may be -/
structure GOk (g : Gr) : Prop where
 short : Short g
 lfr : g.fr.length = g.th.length
 lord : g.ord.length = g.init.length
 events : eventsOk g
 sources : sourcesOk g
 orders : ordersOk g
instance (g : Gr) : Decidable (Short g) := decidable_of_iff (g.th.length ≤ 4 ∧ g.init.length ≤ 6 ∧ ∀ l ∈ g.th, l.length ≤ 14) ⟨fun h => ⟨h.1, h.2.1, h.2.2⟩, fun h => ⟨h.1, h.2, h.3⟩⟩
instance (g : Gr) : Decidable (GOk g) := decidable_of_iff (Short g ∧ g.fr.length = g.th.length ∧ g.ord.length = g.init.length ∧ eventsOk g ∧ sourcesOk g ∧ ordersOk g) ⟨fun h => ⟨h.1, h.2.1, h.2.2.1, h.2.2.2.1, h.2.2.2.2.1, h.2.2.2.2.2⟩, fun h => ⟨h.1, h.2, h.3, h.4, h.5, h.6⟩⟩
def gcheckM (g : Gr) : Int := if Short g then (if GOk g then 0 else 2) else 3
theorem gcheck3 {g : Gr} (h : ¬ Short g) : gcheckM g = 3 := if_neg h
theorem gcheck2 {g : Gr} (h : Short g) (h2 : ¬ GOk g) : gcheckM g = 2 := by unfold gcheckM; rw [if_pos h, if_neg h2]
theorem gcheck0 {g : Gr} (h2 : GOk g) : gcheckM g = 0 := by unfold gcheckM; rw [if_pos h2.short, if_pos h2]

end Go.AL.Rl

namespace Go.AL
open Go Go.RowKit
section
variable {P : Program} {γ : Nat → Option AV}

theorem HeapR.grow {B : Nat} {S : Nat → Prop} {ρ : List Loc} {h : List Blk} {w : World} (hh : HeapR B S γ ρ h w) (K : Nat) (hK : K < w.heap.size) (hB : B ≤ K) (hno : ∀ (b : Nat) (loc : Loc), ρ[b]? = some loc → ¬ loc.has K) :
  HeapR B (fun k => S k ∨ k = K) γ ρ h w ∧ Ext B S ρ w (fun k => S k ∨ k = K) ρ w := by
 refine ⟨⟨hh.len, fun b blk loc h1 h2 => (hh.blk b blk loc h1 h2).mono (fun k hk => .inl hk) (fun _ _ => rfl) (LocsUp.refl ρ) fun _ _ => rfl, fun b loc k h1 h2 => ?_, hh.inj, fun k hk => ?_, fun g x hg => ?_, hh.bsz, hh.sok⟩,
  Fr.refl w, fun _ _ => rfl, fun k hk => .inl hk, fun _ _ => rfl, LocsUp.refl ρ, fun k hk => ?_⟩
 ·obtain ⟨k1, k2, k3⟩ := hh.own b loc k h1 h2
  refine ⟨fun hs => ?_, k2, k3⟩
  rcases hs with hs | hs
  ·exact k1 hs
  ·exact hno b loc h1 (by rw [← hs]; exact h2)
 ·rcases hk with hk | hk
  ·exact hh.sle k hk
  ·rw [hk]; exact hK
 ·exact R.mono (S := S) (fun k hk => .inl hk) (fun _ _ => rfl) (ρ := none) (ρ' := none) trivial _ _ (hh.gok g x hg)
 ·rcases hk with hk | hk
  ·exact .inl hk
  ·rw [hk]; exact .inr hB
end
end Go.AL

namespace Go.AL
open Go Go.RowKit
section
variable {P : Program} {γ : Nat → Option AV} {τ : Nat → TI} {C : EC}

end
section
variable {P : Program} {γ : Nat → Option AV}
end
end Go.AL

namespace Go.AL
open Go Go.RowKit
section
variable {P : Program} {γ : Nat → Option AV}

theorem AWPr.step {n : Nat} {c : Code} {Q : Exit → St → Prop} {A A' : St} (hs : Step γ A A') (h : AWPr P γ n c Q A') : AWPr P γ n c Q A := fun B S ρ a w h0 => by
 obtain ⟨S', ρ', h1, h2⟩ := hs B S ρ a w h0
 exact wp_mono (h B S' ρ' a w h1) fun e a' w' ⟨S'', ρ'', A'', q1, q2, q3⟩ => ⟨S'', ρ'', A'', q1, q2, h2.takeL.transR q3⟩
theorem AWPl.step {n : Nat} {l : List Code} {Q : Exit → St → Prop} {A A' : St} (hs : Step γ A A') (hl : l.isEmpty = false) (h : AWPl P γ n l Q A') : AWPl P γ n l Q A := by
 cases l with
 | nil => cases hl
 | cons c r => exact AWPr.step hs h
section
variable {C : EC} {CQ : List Blk → QC} {T : Nat → TI} {D : Array Oper → (St → Prop) → St → Prop} {W : Code → (Exit → St → Prop) → St → Prop}
/-- to stop behind the first 'k' items -/
theorem Env.at (E : Env P γ C CQ T D W) {n : Nat} {l : List Code} {Q : Exit → St → Prop} {A : St} (k : Nat)
  (h : ∀ I : St → Prop, (∀ {A'}, AWPl P γ n (l.drop k) Q A' → I A') → vcl T γ C D W (l.take k) (thenE I Q) A) : AWPl P γ n l Q A := by
 rw [← List.take_append_drop k l]
 exact AWPl.app ((E.bl (h (fun A' => AWPl P γ n (l.drop k) Q A') fun hl => hl)).mono fun e A' h => by cases e <;> exact h)
end

theorem Step.heap {A : St} {h' : List Blk} (hr : ∀ B S ρ w, HeapR B S γ ρ A.h w → ∃ S' ρ', HeapR B S' γ ρ' h' w ∧ Ext B S ρ w S' ρ' w) : Step γ A ⟨A.n, A.s, h'⟩ := fun B S ρ a w hs => by
 obtain ⟨S', ρ', h1, h2⟩ := hr B S ρ w hs.heap
 exact ⟨S', ρ', hs.ext h2 h1, h2⟩

theorem HeapR.adopt {B : Nat} {S : Nat → Prop} {ρ : List Loc} {h : List Blk} {w : World} (hh : HeapR B S γ ρ h w) (loc : Loc) (blk : Blk) (hsub : loc.sub = [])
  (hk : ∀ K, loc.k = some K → ¬ S K ∧ K < w.heap.size ∧ B ≤ K ∧ ∀ (b : Nat) (l : Loc), ρ[b]? = some l → ¬ l.has K) (hb : BlkR S w (ρ ++ [loc]) loc blk) :
  HeapR B S γ (ρ ++ [loc]) (h ++ [blk]) w ∧ Ext B S ρ w S (ρ ++ [loc]) w := by
 have hup := LocsUp.append ρ [loc]
 have key : ∀ (b : Nat) (lc : Loc), (ρ ++ [loc])[b]? = some lc → (b < ρ.length ∧ ρ[b]? = some lc) ∨ (b = ρ.length ∧ lc = loc) := by
  intro b lc h1
  by_cases hlt : b < ρ.length
  ·rw [List.getElem?_append_left hlt] at h1; exact .inl ⟨hlt, h1⟩
  ·rw [List.getElem?_append_right (by omega)] at h1
   have e1 : b - ρ.length = 0 := by
    have := (List.getElem?_eq_some_iff.1 h1).1; simp at this; omega
   rw [e1] at h1; simp at h1; exact .inr ⟨by omega, h1.symm⟩
 refine ⟨⟨by simp [hh.len], fun b bk lc h1 h2 => ?_, fun b lc K h1 h2 => ?_, fun b b' lc lc' K h1 h2 h3 h4 => ?_, hh.sle, hh.gok, hh.bsz, fun b lc h1 => ?_⟩, Fr.refl w, fun _ _ => rfl, fun _ h => h, fun _ _ => rfl, hup, fun _ h => .inl h⟩
 ·rcases key b lc h2 with ⟨a1, a2⟩ | ⟨a1, rfl⟩
  ·rw [List.getElem?_append_left (by rw [← hh.len]; exact a1)] at h1
   exact (hh.blk b bk lc h1 a2).mono (fun _ h => h) (fun _ _ => rfl) hup fun _ _ => rfl
  ·rw [a1, hh.len] at h1
   simp at h1; subst h1; exact hb
 ·rcases key b lc h1 with ⟨a1, a2⟩ | ⟨a1, rfl⟩
  ·exact hh.own b lc K a2 h2
  ·obtain ⟨k1, k2, k3, _⟩ := hk K (Loc.has_nil hsub h2)
   exact ⟨k1, k2, k3⟩
 ·rcases key b lc h1 with ⟨a1, a2⟩ | ⟨a1, rfl⟩
  ·rcases key b' lc' h2 with ⟨c1, c2⟩ | ⟨c1, rfl⟩
   ·exact hh.inj b b' lc lc' K a2 c2 h3 h4
   ·exact absurd h3 ((hk K (Loc.has_nil hsub h4)).2.2.2 b lc a2)
  ·rcases key b' lc' h2 with ⟨c1, c2⟩ | ⟨c1, rfl⟩
   ·exact absurd h4 ((hk K (Loc.has_nil hsub h3)).2.2.2 b' lc' c2)
   ·omega
 ·rcases key b lc h1 with ⟨a1, a2⟩ | ⟨a1, rfl⟩
  ·exact hh.sok b lc a2
  ·exact .nil hsub
/-- what was one block's is the other's -/
theorem HeapR.move {B : Nat} {S : Nat → Prop} {ρ : List Loc} {h : List Blk} {w : World} (hh : HeapR B S γ ρ h w) {b b2 : Nat} {loc loc2 loc' loc2' : Loc} {blk' : Blk} (hne : b ≠ b2) (hb : ρ[b]? = some loc) (hb2 : ρ[b2]? = some loc2)
  (hup : loc.up loc') (hup2 : loc2.up loc2') (hk : ∀ K, loc'.has K → loc.has K ∨ loc2.has K) (hk2 : ∀ K, ¬ loc2'.has K) (hsok : loc'.SubOk) (hsub2 : loc2'.sub = [])
  (hblk : BlkR S w ((ρ.set b loc').set b2 loc2') loc' blk') : HeapR B S γ ((ρ.set b loc').set b2 loc2') ((h.set b blk').set b2 .any) w ∧ Ext B S ρ w S ((ρ.set b loc').set b2 loc2') w := by
 have hblt : b < ρ.length := (List.getElem?_eq_some_iff.1 hb).1
 have hblt2 : b2 < ρ.length := (List.getElem?_eq_some_iff.1 hb2).1
 have key : ∀ (i : Nat) (l : Loc), ((ρ.set b loc').set b2 loc2')[i]? = some l → (i = b ∧ l = loc') ∨ (i = b2 ∧ l = loc2') ∨ (i ≠ b ∧ i ≠ b2 ∧ ρ[i]? = some l) := by
  intro i l hl
  by_cases e2 : b2 = i
  ·subst e2; simp [hblt2] at hl; exact .inr (.inl ⟨rfl, hl.symm⟩)
  ·rw [List.getElem?_set_ne e2] at hl
   by_cases e : b = i
   ·subst e; simp [hblt] at hl; exact .inl ⟨rfl, hl.symm⟩
   ·rw [List.getElem?_set_ne e] at hl; exact .inr (.inr ⟨fun h => e h.symm, fun h => e2 h.symm, hl⟩)
 have hlocs : LocsUp ρ ((ρ.set b loc').set b2 loc2') := by
  intro i l hl
  by_cases e2 : b2 = i
  ·subst e2; rw [hb2] at hl; cases hl
   exact ⟨loc2', by simp [hblt2], hup2⟩
  ·by_cases e : b = i
   ·subst e; rw [hb] at hl; cases hl
    exact ⟨loc', by rw [List.getElem?_set_ne e2]; simp [hblt], hup⟩
   ·exact ⟨l, by rw [List.getElem?_set_ne e2, List.getElem?_set_ne e]; exact hl, l.up_refl⟩
 refine ⟨⟨by simp [hh.len], fun i bk l h1 h2 => ?_, fun i l K h1 h2 => ?_, fun i j l l' K h1 h2 h3 h4 => ?_, hh.sle, hh.gok, hh.bsz, fun i l h1 => ?_⟩, Fr.refl w, fun _ _ => rfl, fun _ h => h, fun _ _ => rfl, hlocs, fun _ h => .inl h⟩
 ·rcases key i l h2 with ⟨rfl, rfl⟩ | ⟨rfl, rfl⟩ | ⟨n1, n2, h2⟩
  ·rw [List.getElem?_set_ne (fun e => hne e.symm)] at h1
   have : i < h.length := by rw [← hh.len]; exact hblt
   simp [this] at h1; subst h1; exact hblk
  ·have : i < (h.set b blk').length := by rw [List.length_set, ← hh.len]; exact hblt2
   rw [List.getElem?_set_self this] at h1; cases h1; trivial
  ·rw [List.getElem?_set_ne (fun e => n2 e.symm), List.getElem?_set_ne (fun e => n1 e.symm)] at h1
   exact (hh.blk i bk l h1 h2).mono (fun _ h => h) (fun _ _ => rfl) hlocs fun _ _ => rfl
 ·rcases key i l h1 with ⟨rfl, rfl⟩ | ⟨rfl, rfl⟩ | ⟨n1, n2, h1⟩
  ·rcases hk K h2 with e | e
   ·exact hh.own i loc K hb e
   ·exact hh.own b2 loc2 K hb2 e
  ·exact absurd h2 (hk2 K)
  ·exact hh.own i l K h1 h2
 ·have none2 : ∀ (i : Nat) (l : Loc), i ≠ b → i ≠ b2 → ρ[i]? = some l → l.has K → ¬ loc'.has K := fun i l n1 n2 g1 g2 g3 => by
   rcases hk K g3 with e | e
   ·exact n1 (hh.inj i b l loc K g1 hb g2 e)
   ·exact n2 (hh.inj i b2 l loc2 K g1 hb2 g2 e)
  rcases key i l h1 with ⟨rfl, rfl⟩ | ⟨rfl, rfl⟩ | ⟨n1, n2, g1⟩
  ·rcases key j l' h2 with ⟨rfl, rfl⟩ | ⟨rfl, rfl⟩ | ⟨m1, m2, g2⟩
   ·rfl
   ·exact absurd h4 (hk2 K)
   ·exact absurd h3 (none2 j l' m1 m2 g2 h4)
  ·exact absurd h3 (hk2 K)
  ·rcases key j l' h2 with ⟨rfl, rfl⟩ | ⟨rfl, rfl⟩ | ⟨m1, m2, g2⟩
   ·exact absurd h4 (none2 i l n1 n2 g1 h3)
   ·exact absurd h4 (hk2 K)
   ·exact hh.inj i j l l' K g1 g2 h3 h4
 ·rcases key i l h1 with ⟨rfl, rfl⟩ | ⟨rfl, rfl⟩ | ⟨_, _, g1⟩
  ·exact hsok
  ·exact .nil hsub2
  ·exact hh.sok i l g1
theorem Loc.SubOk.set {l l' : Loc} (h : l.SubOk) {i : Nat} (hs : l'.sub = l.sub.set i none) (hk : l'.k = l.k) : l'.SubOk where
 out := fun K hK => by
  rw [hs] at hK
  rw [hk]
  rcases List.mem_or_eq_of_mem_set hK with hK | hK
  ·exact h.out K hK
  ·cases hK
 one := fun a c K ha hc => by
  have key : ∀ a, l'.sub[a]? = some (some K) → l.sub[a]? = some (some K) := fun a ha => by
   rw [hs, List.getElem?_set] at ha
   split at ha
   ·split at ha <;> cases ha
   ·exact ha
  exact h.one a c K (key a ha) (key c hc)
theorem Loc.has_set {l l' : Loc} {i K : Nat} (hs : l'.sub = l.sub.set i none) (hk : l'.k = l.k) (h : l'.has K) : l.has K := by
 rcases h with h | h
 ·exact .inl (by rw [← hk]; exact h)
 ·rw [hs] at h
  rcases List.mem_or_eq_of_mem_set h with h | h
  ·exact .inr h
  ·cases h
theorem HeapR.drop {B : Nat} {S : Nat → Prop} {ρ : List Loc} {h : List Blk} {w : World} (hh : HeapR B S γ ρ h w) {b g q : Nat} {ess : Unit → List LV} (hb : h[b]? = some (.nest g q ess none)) (i : Unit → Nat) {loc : Loc} (hl : ρ[b]? = some loc) :
  HeapR B S γ (ρ.set b { loc with sub := loc.sub.set (i ()) none }) (h.set b (.nest g q ess (some (i, .any)))) w ∧ Ext B S ρ w S (ρ.set b { loc with sub := loc.sub.set (i ()) none }) w := by
 obtain ⟨d1, d2, d3, evs, d4, d5, d6, d7⟩ := hh.blk b _ loc hb hl
 refine hh.updS (loc' := { loc with sub := loc.sub.set (i ()) none }) hl (.inl ⟨_, rfl⟩) (fun K hK => .inl (Loc.has_set (l := loc) (l' := { loc with sub := loc.sub.set (i ()) none }) rfl rfl hK)) (Fr.refl w) (fun _ _ _ => rfl) ⟨d1, d2, d3, evs, d4, d5, by simp [d6], fun p es v s g1 g2 g3 => ?_⟩ ((hh.sok b loc hl).set rfl rfl)
 have hpl : p < loc.sub.length := by have := (List.getElem?_eq_some_iff.1 g2).1; omega
 have hold : InR S w q es v loc.sub[p] := d7 p es v _ g1 g2 (List.getElem?_eq_getElem hpl)
 have g3 : (loc.sub.set (i ()) none)[p]? = some s := g3
 rw [List.getElem?_set] at g3
 split at g3
 ·rename_i e
  rw [if_pos (by omega)] at g3
  cases g3
  obtain ⟨a, cap, ievs, rfl, _⟩ := hold
  exact .inl ⟨e.symm, rfl, trivial, rfl⟩
 ·rename_i e
  rw [List.getElem?_eq_getElem hpl] at g3
  cases g3
  exact .inr ⟨fun h => e h.symm, hold⟩
theorem Step.drop {A : St} (b : Nat) {g q : Nat} {ess : Unit → List LV} (hb : A.h[b]? = some (.nest g q ess none)) (i : Unit → Nat) : Step γ A ⟨A.n, A.s, A.h.set b (.nest g q ess (some (i, .any)))⟩ :=
 Step.heap fun B S ρ w hh => by
  have hlt : b < ρ.length := by rw [hh.len]; exact (List.getElem?_eq_some_iff.1 hb).1
  have := hh.drop hb i (List.getElem?_eq_getElem hlt)
  exact ⟨_, _, this.1, this.2⟩
theorem Step.take {A : St} (b : Nat) {g q : Nat} {ess : Unit → List LV} (hb : A.h[b]? = some (.nest g q ess none)) (i : Unit → Nat) (hi : ∀ _ : Unit, i () < (ess ()).length) :
  Step γ A ⟨A.n, A.s, (A.h.set b (.nest g q ess (some (i, .sl A.h.length 0 q (fun _ => 0) fun _ => ((ess ()).getD (i ()) .nil).l.length)))) ++ [.run 0 q fun _ => (ess ()).getD (i ()) .nil]⟩ :=
 Step.heap fun B S ρ w hh => by
  have hlt : b < ρ.length := by rw [hh.len]; exact (List.getElem?_eq_some_iff.1 hb).1
  obtain ⟨loc, hl⟩ : ∃ loc, ρ[b]? = some loc := ⟨_, List.getElem?_eq_getElem hlt⟩
  obtain ⟨d1, d2, d3, evs, d4, d5, d6, d7⟩ := hh.blk b _ loc hb hl
  have hi := hi ()
  obtain ⟨p1, p2⟩ := hh.drop hb i hl
  have hie : (ess ())[i ()]? = some ((ess ()).getD (i ()) .nil) := by rw [List.getD_eq_getElem?_getD, List.getElem?_eq_getElem hi]; rfl
  have hve : evs[i ()]? = some evs[i ()] := List.getElem?_eq_getElem (by omega)
  have hse : loc.sub[i ()]? = some loc.sub[i ()] := List.getElem?_eq_getElem (by omega)
  have hin : InR S w q ((ess ()).getD (i ()) .nil) evs[i ()] loc.sub[i ()] := d7 _ _ _ _ hie hve hse
  generalize hes : (ess ()).getD (i ()) .nil = es at hin hie
  generalize hv : evs[i ()]'(by omega) = v at hin hve
  generalize hs : loc.sub[i ()]'(by omega) = s at hin hse
  obtain ⟨a, cap, ievs, rfl, c2, c3, c4, c5, c6⟩ := hin
  have hil : ievs.length = es.l.length := Rs_len ((RL_iff _ _ _ _).1 c4)
  -- the run that comes
  obtain ⟨l2, hl2, hbl, hr⟩ : ∃ l2 : Loc, (l2.sub = [] ∧ l2.k = s ∧ l2.box = false ∧ l2.g = 0 ∧ l2.e = q) ∧ (∀ ρ2, BlkR S w ρ2 l2 (.run 0 q fun _ => es)) ∧
    (∀ ρ2 : List Loc, R S w (some (ρ2 ++ [l2])) (.sl ρ2.length 0 q (fun _ => 0) fun _ => es.l.length) (.slice a ievs.length cap)) := by
   rcases c6 with ⟨rfl, c6⟩ | ⟨K, c, ty, rfl, r2, r3, r4, r5⟩
   ·have : ievs = [] := List.eq_nil_of_length_eq_zero (by omega)
    subst this
    exact ⟨⟨false, 0, none, q, 0, []⟩, ⟨rfl, rfl, rfl, rfl, rfl⟩, fun ρ2 => ⟨rfl, rfl, rfl, [], c4, fun e he => (by cases he), .inl ⟨rfl, rfl⟩⟩,
     fun ρ2 => ⟨_, _, a, cap, rfl, getElem?_concat _ _, rfl, rfl, Nat.le_refl _, by rw [← hil], by rw [← hil]; exact c2, c3, fun _ => .inl ⟨rfl, c6, rfl⟩⟩⟩
   ·exact ⟨⟨false, 0, some K, q, c.size, []⟩, ⟨rfl, rfl, rfl, rfl, rfl⟩, fun ρ2 => ⟨rfl, rfl, rfl, ievs, c4, c5, .inr ⟨K, c, ty, rfl, r4, rfl, Nat.le_trans (Nat.mul_le_mul_right _ c2) r3, r5⟩⟩,
     fun ρ2 => ⟨_, _, a, cap, rfl, getElem?_concat _ _, rfl, rfl, Nat.le_refl _, by rw [← hil], by rw [← hil]; exact c2, c3, fun _ => .inr ⟨K, rfl, by simpa using r2, by simpa using r3⟩⟩⟩
  obtain ⟨m1, m2, m3, m4, m5⟩ := hl2
  obtain ⟨q1, q2⟩ := p1.adopt l2 (.run 0 q fun _ => es) m1 (fun K hK => by
   rw [m2] at hK
   obtain ⟨k1, k2, k3⟩ := hh.own b loc K hl (.inr (by rw [← hK, ← hs]; exact List.getElem_mem _))
   refine ⟨k1, k2, k3, fun b' l' hb' hK' => ?_⟩
   by_cases e : b = b'
   ·subst e
    rw [List.getElem?_set_self hlt] at hb'; cases hb'
    rcases hK' with hK' | hK'
    ·exact (hh.sok b loc hl).out K (by rw [← hK]; exact List.mem_of_getElem? hse) hK'
    ·obtain ⟨j, hj, hj2⟩ := List.getElem_of_mem hK'
     have hj3 : (loc.sub.set (i ()) none)[j]? = some (some K) := by rw [← hj2]; exact List.getElem?_eq_getElem hj
     rw [List.getElem?_set] at hj3
     split at hj3
     ·split at hj3 <;> cases hj3
     ·rename_i ne
      exact ne ((hh.sok b loc hl).one j (i ()) K hj3 (by rw [hse, hK])).symm
   ·rw [List.getElem?_set_ne e] at hb'
    exact e (hh.inj b b' loc l' K hl hb' (.inr (by rw [← hK]; exact List.mem_of_getElem? hse)) hK')) (hbl _)
  have hρ : (ρ.set b { loc with sub := loc.sub.set (i ()) none }).length = A.h.length := by rw [List.length_set, hh.len]
  have hT := q1.retell b (.nest g q ess (some (i, .sl A.h.length 0 q (fun _ => 0) fun _ => ((ess ()).getD (i ()) .nil).l.length))) fun loc3 h3 => by
   rw [List.getElem?_append_left (by rw [List.length_set]; exact hlt), List.getElem?_set_self hlt] at h3
   cases h3
   refine ⟨d1, d2, d3, evs, d4, d5, by simp [d6], fun p es' v' s' g1 g2 g3 => ?_⟩
   have hpl : p < loc.sub.length := by have := (List.getElem?_eq_some_iff.1 g2).1; omega
   have hold : InR S w q es' v' loc.sub[p] := d7 p es' v' _ g1 g2 (List.getElem?_eq_getElem hpl)
   have g3 : (loc.sub.set (i ()) none)[p]? = some s' := g3
   rw [List.getElem?_set] at g3
   split at g3
   ·rename_i e
    rw [if_pos (by omega)] at g3
    cases g3
    rw [← e, hve] at g2
    cases g2
    refine .inl ⟨e.symm, rfl, ?_, rfl⟩
    have := hr (ρ.set b { loc with sub := loc.sub.set (i ()) none })
    rw [hρ] at this
    simp only [hes]
    exact this
   ·rename_i e
    rw [List.getElem?_eq_getElem hpl] at g3
    cases g3
    exact .inr ⟨fun h => e h.symm, hold⟩
  refine ⟨S, _, ?_, p2.trans q2⟩
  rw [List.set_append_left _ _ (by rw [List.length_set]; exact (List.getElem?_eq_some_iff.1 hb).1), List.set_set] at hT
  simp only [hes] at hT
  exact hT
end
end Go.AL

namespace Go.AL
open Go Go.RowKit
section
variable {P : Program} {γ : Nat → Option AV}

theorem Step.put {A : St} (b b2 : Nat) {g q g2 g3 : Nat} {ess : Unit → List LV} {i off len : Unit → Nat} {es : Unit → LV} (hb : A.h[b]? = some (.nest g q ess (some (i, .sl b2 g2 q off len)))) (hb2 : A.h[b2]? = some (.run g3 q es))
  (hc : ∀ _ : Unit, g3 = g2 ∧ off () = 0 ∧ len () = (es ()).l.length) :
  Step γ A ⟨A.n, A.s, (A.h.set b (.nest g q (fun _ => (ess ()).set (i ()) (es ())) none)).set b2 .any⟩ :=
 Step.heap fun B S ρ w hh => by
  obtain ⟨rfl, c0, c1⟩ := hc ()
  have hne : b ≠ b2 := fun e => by subst e; rw [hb] at hb2; cases hb2
  have hlt : b < ρ.length := by rw [hh.len]; exact (List.getElem?_eq_some_iff.1 hb).1
  have hlt2 : b2 < ρ.length := by rw [hh.len]; exact (List.getElem?_eq_some_iff.1 hb2).1
  obtain ⟨loc, hl⟩ : ∃ loc, ρ[b]? = some loc := ⟨_, List.getElem?_eq_getElem hlt⟩
  obtain ⟨loc2, hl2⟩ : ∃ loc, ρ[b2]? = some loc := ⟨_, List.getElem?_eq_getElem hlt2⟩
  obtain ⟨d1, d2, d3, evs, d4, d5, d6, d7⟩ := hh.blk b _ loc hb hl
  obtain ⟨f1, f2, f3, ievs, f4, f5, f6⟩ := hh.blk b2 _ loc2 hb2 hl2
  have hil : ievs.length = (es ()).l.length := Rs_len ((RL_iff _ _ _ _).1 f4)
  have hk2 : ∀ K, some K ∈ (loc.sub.set (i ()) loc2.k) → some K ∈ loc.sub ∨ loc2.k = some K := fun K hK => by
   rcases List.mem_or_eq_of_mem_set hK with hK | hK
   ·exact .inl hK
   ·exact .inr hK.symm
  have hsi : ∀ s, loc.sub[i ()]? = some s → s = none := fun s hs => by
   have hil' : i () < loc.sub.length := (List.getElem?_eq_some_iff.1 hs).1
   rcases d7 (i ()) _ _ s (List.getElem?_eq_getElem (by omega)) (List.getElem?_eq_getElem (by omega)) hs with ⟨_, h, _⟩ | ⟨h, _⟩
   ·exact h
   ·exact absurd rfl h
  have hsub : ∀ K, loc2.k = some K → ¬ some K ∈ loc.sub ∧ loc.k ≠ some K := fun K hK => ⟨fun h => hne (hh.inj b b2 loc loc2 K hl hl2 (.inr h) (.inl hK)), fun h => hne (hh.inj b b2 loc loc2 K hl hl2 (.inl h) (.inl hK))⟩
  have hm := hh.move (loc' := { loc with sub := loc.sub.set (i ()) loc2.k }) (loc2' := { loc2 with g := g3 + 1, k := none, size := 0, sub := [] }) (blk' := .nest g q (fun _ => (ess ()).set (i ()) (es ())) none) hne hl hl2 (.inl ⟨_, rfl⟩)
   (.inr (.inl ⟨f1, f1, by show loc2.g < g3 + 1; omega, rfl⟩))
   (fun K hK => by
    rcases hK with hK | hK
    ·exact .inl (.inl hK)
    ·rcases hk2 K hK with h | h
     ·exact .inl (.inr h)
     ·exact .inr (.inl h))
   (fun K hK => by rcases hK with hK | hK <;> first | (cases hK; done) | exact absurd hK (by simp))
   ⟨fun K hK hk => by
    rcases hk2 K hK with h | h
    ·exact (hh.sok b loc hl).out K h hk
    ·exact (hsub K h).2 hk, fun x y K hx hy => by
    have key : ∀ x, (loc.sub.set (i ()) loc2.k)[x]? = some (some K) → (x = i () ∧ loc2.k = some K) ∨ (x ≠ i () ∧ loc.sub[x]? = some (some K)) := fun x hx => by
     rw [List.getElem?_set] at hx
     split at hx
     ·rename_i e
      split at hx
      ·left; exact ⟨e.symm, by simpa using hx⟩
      ·cases hx
     ·rename_i e; exact .inr ⟨fun h => e h.symm, hx⟩
    rcases key x hx with ⟨x1, x2⟩ | ⟨x1, x2⟩ <;> rcases key y hy with ⟨y1, y2⟩ | ⟨y1, y2⟩
    ·omega
    ·exact absurd (List.mem_of_getElem? y2) (hsub K x2).1
    ·exact absurd (List.mem_of_getElem? x2) (hsub K y2).1
    ·exact (hh.sok b loc hl).one x y K x2 y2⟩ rfl
   ⟨d1, d2, d3, evs, d4, by simp [d5], by simp [d6], fun p es' v s g1 g2 g4 => by
    have hpl : p < evs.length := (List.getElem?_eq_some_iff.1 g2).1
    by_cases hp : p = i ()
    ·subst hp
     have g1 : ((ess ()).set (i ()) (es ()))[i ()]? = some es' := g1
     rw [List.getElem?_set_self (by omega)] at g1
     cases g1
     have g4 : (loc.sub.set (i ()) loc2.k)[i ()]? = some s := g4
     rw [List.getElem?_set_self (by omega)] at g4
     cases g4
     rcases d7 (i ()) _ _ _ (List.getElem?_eq_getElem (by omega)) g2 (List.getElem?_eq_getElem (by omega)) with ⟨_, _, hr, _⟩ | ⟨h, _⟩
     ·obtain ⟨l, lc, a, cap, e0, q1, q2, q3, q4, rfl, q6, q7, q8⟩ := hr
      cases e0
      rw [hl2] at q1; cases q1
      refine ⟨a, cap, ievs, by rw [c1, hil], by omega, q7, f4, f5, ?_⟩
      rcases q8 f2 with ⟨r1, r2, _⟩ | ⟨K, r1, r2, r3⟩
      ·exact .inl ⟨r1, r2⟩
      ·rcases f6 with ⟨e1, _⟩ | ⟨K', c, ty, e1, e2, e3, e4, e5⟩
       ·rw [r1] at e1; cases e1
       ·rw [r1] at e1; cases e1
        rw [c0, Nat.zero_mul] at r2
        rw [c0, Nat.zero_add, f3] at r3
        rw [f3] at e5
        exact .inr ⟨K, c, ty, r1, r2, by omega, e2, e5⟩
     ·exact absurd rfl h
    ·have g1 : ((ess ()).set (i ()) (es ()))[p]? = some es' := g1
     rw [List.getElem?_set_ne (fun e => hp e.symm)] at g1
     have g4 : (loc.sub.set (i ()) loc2.k)[p]? = some s := g4
     rw [List.getElem?_set_ne (fun e => hp e.symm)] at g4
     rcases d7 p es' v s g1 g2 g4 with ⟨h, _⟩ | ⟨_, h⟩
     ·exact absurd h hp
     ·exact h⟩
  exact ⟨S, _, hm.1, hm.2⟩

theorem Step.takeE {A : St} (b : Nat) {g q : Nat} {ess : Unit → List LV} (hb : A.h[b]? = some (.nest g q ess none)) (i : Unit → Nat) (es : Unit → LV) (len : Unit → Nat) (hi : ∀ _ : Unit, i () < (ess ()).length)
  (he : ∀ _ : Unit, (ess ()).getD (i ()) .nil = es () ∧ (es ()).l.length = len ()) : Step γ A ⟨A.n, A.s, (A.h.set b (.nest g q ess (some (i, .sl A.h.length 0 q (fun _ => 0) len)))) ++ [.run 0 q es]⟩ := by
 have h := Step.take (γ := γ) b hb i hi
 have e1 : (fun _ : Unit => (ess ()).getD (i ()) .nil) = es := funext fun _ => (he ()).1
 have e2 : (fun _ : Unit => ((ess ()).getD (i ()) .nil).l.length) = len := funext fun _ => by rw [(he ()).1]; exact (he ()).2
 rw [e1, e2] at h
 exact h
theorem Step.putE {A : St} (b b2 : Nat) {g q g2 g3 : Nat} {ess : Unit → List LV} {i off len : Unit → Nat} {es : Unit → LV} (ess' : Unit → List LV) (hb : A.h[b]? = some (.nest g q ess (some (i, .sl b2 g2 q off len)))) (hb2 : A.h[b2]? = some (.run g3 q es))
  (hc : ∀ _ : Unit, (g3 = g2 ∧ off () = 0 ∧ len () = (es ()).l.length) ∧ (ess ()).set (i ()) (es ()) = ess' ()) :
  Step γ A ⟨A.n, A.s, (A.h.set b (.nest g q ess' none)).set b2 .any⟩ := by
 have h := Step.put (γ := γ) b b2 hb hb2 fun _ => (hc ()).1
 have e1 : (fun _ : Unit => (ess ()).set (i ()) (es ())) = ess' := funext fun _ => (hc ()).2
 rw [e1] at h
 exact h

/-- an own run of which nothing is told: a nest that is filled from its front on -/
theorem Step.unrun {A : St} (b q : Nat) {g : Nat} {es : Unit → LV} (hb : A.h[b]? = some (.run g 1 es)) : Step γ A ⟨A.n, A.s, A.h.set b (.nest g q (fun _ => []) none)⟩ :=
 Step.heap fun B S ρ w hh => by
  have hlt : b < ρ.length := by rw [hh.len]; exact (List.getElem?_eq_some_iff.1 hb).1
  obtain ⟨loc, hl⟩ : ∃ loc, ρ[b]? = some loc := ⟨_, List.getElem?_eq_getElem hlt⟩
  obtain ⟨f1, f2, f3, ievs, f4, f5, f6⟩ := hh.blk b _ loc hb hl
  have := hh.updS (loc' := { loc with sub := [] }) (blk' := .nest g q (fun _ => []) none) (w' := w) hl (.inl ⟨_, rfl⟩) (fun K hK => .inl (.inl (Loc.has_nil (l := { loc with sub := [] }) rfl hK))) (Fr.refl w) (fun _ _ _ => rfl)
   ⟨f1, f2, f3, [], by
    rcases f6 with ⟨e1, _⟩ | ⟨K', c, ty, e1, e2, e3, e4, e5⟩
    ·exact .inl ⟨e1, rfl⟩
    ·exact .inr ⟨K', c, ty, e1, e2, e3, Nat.zero_le _, fun i e h => by simp at h⟩, rfl, rfl, fun p es v s g1 => by simp at g1⟩ (.nil rfl)
  exact ⟨S, _, this.1, this.2⟩

end
end Go.AL

namespace Go.AL.Rl
open Go Go.AL Go.Proofs
set_option maxRecDepth 100000
set_option maxHeartbeats 3200000
variable {γ : Nat → Option AV}

def evL (l : List (List Ev)) : List LV := l.map evs
def idL (l : List (List EId)) : List LV := l.map ids
theorem evss_L (l : List (List Ev)) : (evss l).l = (evL l).map fun x => .vs 5 fun _ => x := by simp [evss, evL]
theorem idss_L (l : List (List EId)) : (idss l).l = (idL l).map fun x => .vs 2 fun _ => x := by simp [idss, idL]
theorem evL_len (l : List (List Ev)) : (evL l).length = l.length := by simp [evL]
theorem idL_len (l : List (List EId)) : (idL l).length = l.length := by simp [idL]
theorem evs_flat (l : List Ev) : ∀ v ∈ (evs l).l, v.flat = true := by
 intro v hv
 simp only [evs, LV.l_of, List.mem_map] at hv
 obtain ⟨x, _, rfl⟩ := hv
 rfl
theorem id_flat (l : List EId) : ∀ v ∈ (ids l).l, v.flat = true := by
 intro v hv
 simp only [ids, LV.l_of, List.mem_map] at hv
 obtain ⟨x, _, rfl⟩ := hv
 rfl
theorem set_last {α : Type} (l : List α) (a b : α) : (l ++ [a]).set l.length b = l ++ [b] := by simp
/-- a copied graph: where its lists lie -/
abbrev cpV (g : Gr) (n1 n2 n3 a b c d : Nat) : AV := .agg [.sl a 0 1 (fun _ => 0) fun _ => g.init.length, .sl b n1 1 (fun _ => 0) fun _ => g.th.length, .sl c n2 1 (fun _ => 0) fun _ => g.fr.length, .sl d n3 1 (fun _ => 0) fun _ => g.ord.length]
theorem rcopy_own0 (g : Gr) (hb : RdB g) (hR : Rd g) : Owns Try.prog γ 19 [aGr g] (cpV g g.th.length g.fr.length g.ord.length 2 4 5 6)
  [.any, .any, .run 0 1 fun _ => is g.init, .any, .nest g.th.length 5 (fun _ => evL g.th) none, .nest g.fr.length 2 (fun _ => idL g.fr) none, .nest g.ord.length 2 (fun _ => idL g.ord) none] := by
 have b0 := hb.init
 have b1 := hb.th
 have b2 := hb.fr
 have b3 := hb.ord
 have c1 : ∀ t, (g.th.getD t []).length * 40 ≤ 140737488351232 := fun t => by
  rcases Nat.lt_or_ge t g.th.length with h1 | h1
  ·exact hb.ths _ (getD_mem h1)
  ·simp [List.getElem?_eq_none h1]
 have c2 : ∀ t, (g.fr.getD t []).length * 16 ≤ 140737488351232 := fun t => by
  rcases Nat.lt_or_ge t g.fr.length with h1 | h1
  ·exact hb.frs _ (getD_mem h1)
  ·simp [List.getElem?_eq_none h1]
 have c3 : ∀ t, (g.ord.getD t []).length * 16 ≤ 140737488351232 := fun t => by
  rcases Nat.lt_or_ge t g.ord.length with h1 | h1
  ·exact hb.ords _ (getD_mem h1)
  ·simp [List.getElem?_eq_none h1]
 obtain ⟨TH, hTH⟩ : ∃ TH : Nat → List LV, ∀ i, TH i = evL (g.th.take i) := ⟨_, fun _ => rfl⟩
 obtain ⟨FR, hFR⟩ : ∃ FR : Nat → List LV, ∀ i, FR i = idL (g.fr.take i) := ⟨_, fun _ => rfl⟩
 obtain ⟨OR, hOR⟩ : ∃ OR : Nat → List LV, ∀ i, OR i = idL (g.ord.take i) := ⟨_, fun _ => rfl⟩
 have t0 : TH 0 = [] := by rw [hTH]; rfl
 have f0 : FR 0 = [] := by rw [hFR]; rfl
 have o0 : OR 0 = [] := by rw [hOR]; rfl
 have tS : ∀ i, i < g.th.length → TH (i + 1) = TH i ++ [evs (g.th.getD i [])] := fun i hi => by rw [hTH, hTH, take_succ' _ i [] hi]; simp [evL]
 have fS : ∀ i, i < g.fr.length → FR (i + 1) = FR i ++ [ids (g.fr.getD i [])] := fun i hi => by rw [hFR, hFR, take_succ' _ i [] hi]; simp [idL]
 have oS : ∀ i, i < g.ord.length → OR (i + 1) = OR i ++ [ids (g.ord.getD i [])] := fun i hi => by rw [hOR, hOR, take_succ' _ i [] hi]; simp [idL]
 have tl : ∀ i, i ≤ g.th.length → (TH i).length = i := fun i hi => by rw [hTH, evL_len]; simp; omega
 have fl : ∀ i, i ≤ g.fr.length → (FR i).length = i := fun i hi => by rw [hFR, idL_len]; simp; omega
 have ol : ∀ i, i ≤ g.ord.length → (OR i).length = i := fun i hi => by rw [hOR, idL_len]; simp; omega
 have te : TH g.th.length = evL g.th := by rw [hTH, List.take_length]
 have fe : FR g.fr.length = idL g.fr := by rw [hFR, List.take_length]
 have oe : OR g.ord.length = idL g.ord := by rw [hOR, List.take_length]
 clear hTH hFR hOR
 obtain ⟨G, hG⟩ : ∃ G : Nat → Nat, ∀ x, G x = x := ⟨_, fun _ => rfl⟩
 have hG0 : G 0 = 0 := hG 0
 refine Owns.go (ty := ty) ty_eq mo Try.func19 rfl Try.ntmps19 Try.results19 Try.call19 (by simp) fun P C CQ D W F E hF => ?_
 cbv
 skip
 repeat' (first
  |(refine ⟨fun _ h_s=>?_,fun _ h_s=>?_⟩<;>(cbv;(try simp only [nc] at *);try simp (disch:=(first|omega|(simp only [lnS];omega))) only [rdT,rdS,reduceCtorEq,trT] at h_s))
  |(refine hF ?_;intro _;clear hF)
  |(refine hF ?_;cbv;clear hF)
  |(refine ⟨fun _=>?_,?_⟩;(· ((try simp only [nc] at *);first|done|omega|exact ⟨by omega,rfl⟩|(simp (disch:=(first|omega|(simp only [lnS];omega))) only [rdT,rdS];first|done|omega|rfl|exact ⟨by omega,rfl⟩|(simp;done)|(simp;omega))|(intros;trivial)|(refine ⟨by simp;omega,by simp;omega,fun v hv=>?_⟩;simp only [is,evs,ids,LV.l_of,List.mem_map] at hv;obtain ⟨_,_,rfl⟩:=hv;rfl)));(try (simp only [nc] at *));(try simp (disch:=(first|omega|(simp only [lnS];omega))) only [rdT,rdS]);(try cbv))
  | fail
 )
 skip
 skip
 refine E.w (AWP.ghostField 3 1 1 rfl rfl ?_)
 refine AWP.step (Step.unrun 4 5 rfl) ?_
 refine E.loopSA (ι:=Nat) (fun i=>i≤g.th.length) (fun i=>g.th.length - i) (fun i=>[(4,.i fun _=>((i : Nat) : Int))]) (fun i h=>(h.set 3 (.box (.agg [.sl 2 0 1 (fun _=>0) fun _=>g.init.length,.sl 4 (G i) 1 (fun _=>0) fun _=>i,.nils,.nils]))).set 4 (.nest (G i) 5 (fun _=>TH i) none)) 0 (fun _=>by first|rfl|simp) (Nat.zero_le _) ?_ fun i hi I hI=>?_
 ·cbv; simp [t0, hG0]
 cbv
 have e1 := tS i
 have e2 := tl i hi
 have e3 := c1 i
 repeat' (first
  |(refine hI (i + 1) ?_ ?_ ?_;rotate_left 1;(· ((try simp only [nc] at *);omega));(cbv;clear hI;(try clear hF);(try simp only [nc] at *);(try simp (disch:=(first|omega|(simp only [lnS];omega))) only [rdT,rdS,anT]));rotate_left 1;(try ((try simp only [nc] at *);omega)))
  | (refine hJ (Step.put 4 5 rfl rfl fun _ => ⟨rfl, rfl, ?_⟩) ?_)
  |(refine E.st fun J hJ=>?_;refine E.de 10 [] [some 5] (by decide +kernel) ?_;cbv;(fail_if_success guard_target =~ False))
  |(refine ⟨fun _ h_s=>?_,fun _ h_s=>?_⟩<;>(cbv;(try simp only [nc] at *);try simp (disch:=(first|omega|(simp only [lnS];omega))) only [rdT,rdS,reduceCtorEq,trT] at h_s))
  |(refine hF ?_;intro _;clear hF)
  |(refine hF ?_;cbv;clear hF)
  |(refine ⟨fun _=>?_,?_⟩;(· ((try simp only [nc] at *);first|done|omega|exact ⟨by omega,rfl⟩|(simp (disch:=(first|omega|(simp only [lnS];omega))) only [rdT,rdS];first|done|omega|rfl|exact ⟨by omega,rfl⟩|(simp;done)|(simp;omega))|(intros;trivial)|(refine ⟨by simp;omega,by simp;omega,fun v hv=>?_⟩;simp only [is,evs,ids,LV.l_of,List.mem_map] at hv;obtain ⟨_,_,rfl⟩:=hv;rfl)|exact ⟨by first|trivial|rfl,by first|trivial|rfl,by first|trivial|rfl|(simp [LV.l];done),by first|omega|(simp;omega),by first|omega|(simp;omega),by first|exact evs_flat _|exact id_flat _⟩|exact ⟨by first|trivial|rfl,by first|trivial|rfl,by first|omega|(simp [e2];done),by omega,by omega⟩));(try (simp only [nc] at *));(try simp (disch:=(first|omega|(simp only [lnS];omega))) only [rdT,rdS]);(try cbv))
  | fail
 )
 ·rw [LV.l_of]; simp [LV.l]
 ·rw [e1 (by omega), set_last]
  simp [hG, LV.l]
 obtain rfl : i = g.th.length := by ((try simp only [nc] at *); omega)
 clear e1 e2 e3
 refine E.w (AWP.ghostField 3 2 1 rfl rfl ?_)
 refine AWP.step (Step.unrun 5 2 rfl) ?_
 refine E.loopSA (ι:=Nat) (fun i=>i≤g.fr.length) (fun i=>g.fr.length - i) (fun i=>[(5,.i fun _=>((i : Nat) : Int))]) (fun i h=>(h.set 3 (.box (.agg [.sl 2 0 1 (fun _=>0) fun _=>g.init.length,.sl 4 (G g.th.length) 1 (fun _=>0) fun _=>g.th.length,.sl 5 (G i) 1 (fun _=>0) fun _=>i,.nils]))).set 5 (.nest (G i) 2 (fun _=>FR i) none)) 0 (fun _=>by first|rfl|simp) (Nat.zero_le _) ?_ fun i hi I hI=>?_
 ·cbv; simp [f0, hG0]
 cbv
 have e1 := fS i
 have e2 := fl i hi
 have e3 := c2 i
 repeat' (first
  |(refine hI (i + 1) ?_ ?_ ?_;rotate_left 1;(· ((try simp only [nc] at *);omega));(cbv;clear hI;(try clear hF);(try simp only [nc] at *);(try simp (disch:=(first|omega|(simp only [lnS];omega))) only [rdT,rdS,anT]));rotate_left 1;(try ((try simp only [nc] at *);omega)))
  | (refine hJ (Step.put 5 6 rfl rfl fun _ => ⟨rfl, rfl, ?_⟩) ?_)
  |(refine E.st fun J hJ=>?_;refine E.de 10 [] [some 2] (by decide +kernel) ?_;cbv;(fail_if_success guard_target =~ False))
  |(refine ⟨fun _ h_s=>?_,fun _ h_s=>?_⟩<;>(cbv;(try simp only [nc] at *);try simp (disch:=(first|omega|(simp only [lnS];omega))) only [rdT,rdS,reduceCtorEq,trT] at h_s))
  |(refine hF ?_;intro _;clear hF)
  |(refine hF ?_;cbv;clear hF)
  |(refine ⟨fun _=>?_,?_⟩;(· ((try simp only [nc] at *);first|done|omega|exact ⟨by omega,rfl⟩|(simp (disch:=(first|omega|(simp only [lnS];omega))) only [rdT,rdS];first|done|omega|rfl|exact ⟨by omega,rfl⟩|(simp;done)|(simp;omega))|(intros;trivial)|(refine ⟨by simp;omega,by simp;omega,fun v hv=>?_⟩;simp only [is,evs,ids,LV.l_of,List.mem_map] at hv;obtain ⟨_,_,rfl⟩:=hv;rfl)|exact ⟨by first|trivial|rfl,by first|trivial|rfl,by first|trivial|rfl|(simp [LV.l];done),by first|omega|(simp;omega),by first|omega|(simp;omega),by first|exact evs_flat _|exact id_flat _⟩|exact ⟨by first|trivial|rfl,by first|trivial|rfl,by first|omega|(simp [e2];done),by omega,by omega⟩));(try (simp only [nc] at *));(try simp (disch:=(first|omega|(simp only [lnS];omega))) only [rdT,rdS]);(try cbv))
  | fail
 )
 ·rw [LV.l_of]; simp [LV.l]
 ·rw [e1 (by omega), set_last]
  simp [hG, LV.l]
 obtain rfl : i = g.fr.length := by ((try simp only [nc] at *); omega)
 clear e1 e2 e3
 refine E.w (AWP.ghostField 3 3 1 rfl rfl ?_)
 refine AWP.step (Step.unrun 6 2 rfl) ?_
 refine E.loopSA (ι:=Nat) (fun i=>i≤g.ord.length) (fun i=>g.ord.length - i) (fun i=>[(6,.i fun _=>((i : Nat) : Int))]) (fun i h=>(h.set 3 (.box (.agg [.sl 2 0 1 (fun _=>0) fun _=>g.init.length,.sl 4 (G g.th.length) 1 (fun _=>0) fun _=>g.th.length,.sl 5 (G g.fr.length) 1 (fun _=>0) fun _=>g.fr.length,.sl 6 (G i) 1 (fun _=>0) fun _=>i]))).set 6 (.nest (G i) 2 (fun _=>OR i) none)) 0 (fun _=>by first|rfl|simp) (Nat.zero_le _) ?_ fun i hi I hI=>?_
 ·cbv; simp [o0, hG0]
 cbv
 have e1 := oS i
 have e2 := ol i hi
 have e3 := c3 i
 repeat' (first
  |(refine hI (i + 1) ?_ ?_ ?_;rotate_left 1;(· ((try simp only [nc] at *);omega));(cbv;clear hI;(try clear hF);(try simp only [nc] at *);(try simp (disch:=(first|omega|(simp only [lnS];omega))) only [rdT,rdS,anT]));rotate_left 1;(try ((try simp only [nc] at *);omega)))
  | (refine hJ (Step.put 6 7 rfl rfl fun _ => ⟨rfl, rfl, ?_⟩) ?_)
  |(refine E.st fun J hJ=>?_;refine E.de 10 [] [some 2] (by decide +kernel) ?_;cbv;(fail_if_success guard_target =~ False))
  |(refine ⟨fun _ h_s=>?_,fun _ h_s=>?_⟩<;>(cbv;(try simp only [nc] at *);try simp (disch:=(first|omega|(simp only [lnS];omega))) only [rdT,rdS,reduceCtorEq,trT] at h_s))
  |(refine hF ?_;intro _;clear hF)
  |(refine hF ?_;cbv;clear hF)
  |(refine ⟨fun _=>?_,?_⟩;(· ((try simp only [nc] at *);first|done|omega|exact ⟨by omega,rfl⟩|(simp (disch:=(first|omega|(simp only [lnS];omega))) only [rdT,rdS];first|done|omega|rfl|exact ⟨by omega,rfl⟩|(simp;done)|(simp;omega))|(intros;trivial)|(refine ⟨by simp;omega,by simp;omega,fun v hv=>?_⟩;simp only [is,evs,ids,LV.l_of,List.mem_map] at hv;obtain ⟨_,_,rfl⟩:=hv;rfl)|exact ⟨by first|trivial|rfl,by first|trivial|rfl,by first|trivial|rfl|(simp [LV.l];done),by first|omega|(simp;omega),by first|omega|(simp;omega),by first|exact evs_flat _|exact id_flat _⟩|exact ⟨by first|trivial|rfl,by first|trivial|rfl,by first|omega|(simp [e2];done),by omega,by omega⟩));(try (simp only [nc] at *));(try simp (disch:=(first|omega|(simp only [lnS];omega))) only [rdT,rdS]);(try cbv))
  | fail
 )
 ·rw [LV.l_of]; simp [LV.l]
 ·rw [e1 (by omega), set_last]
  simp [hG, LV.l]
 obtain rfl : i = g.ord.length := by ((try simp only [nc] at *); omega)
 clear e1 e2 e3
 refine hF ?_ ?_
 all_goals simp [leV, leVs, leH, leB, vresult, AV.cells, hG, te, fe, oe]
theorem rcopy_own (g : Gr) (hb : RdB g) (hR : Rd g) : ∃ n1 n2 n3, Owns Try.prog γ 19 [aGr g] (cpV g n1 n2 n3 2 4 5 6)
  [.any, .any, .run 0 1 fun _ => is g.init, .any, .nest n1 5 (fun _ => evL g.th) none, .nest n2 2 (fun _ => idL g.fr) none, .nest n3 2 (fun _ => idL g.ord) none] := ⟨_, _, _, rcopy_own0 g hb hR⟩
end Go.AL.Rl

namespace Go.AL.Rl
open Go Go.AL Go.Proofs
set_option maxRecDepth 100000
variable {γ : Nat → Option AV}

theorem check14_ok (g : Gr) (hg : Rd g) : Pure Try.prog γ false 18 [aGr g] (.i fun _ => gcheckM g) := by
 have hg1 := hg.th
 have hg2 := hg.init
 refine Pure.go (ty := ty) ty_eq mo Try.func18 rfl Try.ntmps18 Try.results18 Try.call18 (by simp) fun P C CQ D W F E hF => ?_
 cbv
 repeat' (first
  |(refine ⟨fun _ h_s=>?_,fun _ h_s=>?_⟩<;>(cbv;(try simp only [nc] at *);try simp (disch:=(first|omega|(simp only [lnS];omega))) only [rdT,rdS,reduceCtorEq,trT] at h_s))
  |(refine hF ?_;intro _;clear hF)
  |(refine hF ?_;cbv;clear hF)
  |(refine ⟨fun _=>?_,?_⟩;(· ((try simp only [nc] at *);first|done|omega|exact ⟨by omega,rfl⟩|(simp (disch:=(first|omega|(simp only [lnS];omega))) only [rdT,rdS];first|done|omega|rfl|exact ⟨by omega,rfl⟩|(simp;done)|(simp;omega))|(intros;trivial)));try cbv)
  |(refine E.d 9 (by decide +kernel) ?_;cbv;(fail_if_success guard_target =~ False))
  |(refine E.d 12 (by decide +kernel) ?_;cbv;(fail_if_success guard_target =~ False))
  |(refine E.d 13 (by decide +kernel) ?_;cbv;(fail_if_success guard_target =~ False))
  | fail
 )
 all_goals (try simp only [nc] at *)
 all_goals (try simp (disch:=(first|omega|(simp only [lnS];omega))) only [rdT,rdS])
 ·exact (gcheck3 fun h => by have := h.th; omega).symm
 ·exact (gcheck3 fun h => by have := h.init; omega).symm
 refine E.loopS (ι:=Nat) (fun t=>t≤g.th.length∧(∀ j < t,(g.th.getD j []).length≤14)) (fun t=>g.th.length - t) (fun t=>[(3,.i fun _=>((t : Nat) : Int))]) (fun t h=>h) 0 (fun _=>by first|rfl|simp) ⟨Nat.zero_le _,?_⟩ ?_ fun t ht I hI=>?_
 ·intro j hj; omega
 ·cbv; simp
 obtain ⟨ht, hok⟩ := ht
 cbv
 refine ⟨fun _ h4 => ?_, fun _ h4 => ?_⟩
 ·(try simp only [nc] at *)
  simp (disch:=(first|omega|(simp only [lnS];omega))) only [rdT,rdS,reduceCtorEq,trT] at h4
  cbv
  repeat' (first
   |(refine hI (t + 1) ?_ ?_ ?_;rotate_left 1;(· ((try simp only [nc] at *);omega));(cbv;clear hI;(try clear hF);(try simp only [nc] at *);(try simp (disch:=(first|omega|(simp only [lnS];omega))) only [rdT,rdS,anT]));rotate_left 1;(try ((try simp only [nc] at *);omega)))
   |(refine ⟨fun _ h_s=>?_,fun _ h_s=>?_⟩<;>(cbv;(try simp only [nc] at *);try simp (disch:=(first|omega|(simp only [lnS];omega))) only [rdT,rdS,reduceCtorEq,trT] at h_s))
   |(refine hF ?_;intro _;clear hF)
   |(refine hF ?_;cbv;clear hF)
   |(refine ⟨fun _=>?_,?_⟩;(· ((try simp only [nc] at *);first|done|omega|exact ⟨by omega,rfl⟩|(simp (disch:=(first|omega|(simp only [lnS];omega))) only [rdT,rdS];first|done|omega|rfl|exact ⟨by omega,rfl⟩|(simp;done)|(simp;omega))|(intros;trivial)));try cbv)
   |(refine E.d 9 (by decide +kernel) ?_;cbv;(fail_if_success guard_target =~ False))
   |(refine E.d 12 (by decide +kernel) ?_;cbv;(fail_if_success guard_target =~ False))
   |(refine E.d 13 (by decide +kernel) ?_;cbv;(fail_if_success guard_target =~ False))
   | fail
  )
  all_goals (try simp only [nc] at *)
  all_goals (try simp (disch:=(first|omega|(simp only [lnS];omega))) only [rdT,rdS])
  ·exact (gcheck3 fun h => by have := h.at t; omega).symm
  ·refine ⟨by omega, fun j hj => ?_⟩
   rcases Nat.lt_or_ge j t with h | h
   ·exact hok j h
   ·obtain rfl : j = t := by omega
    omega
  ·omega
 clear hI
 (try simp only [nc] at *)
 simp (disch:=(first|omega|(simp only [lnS];omega))) only [rdT,rdS,reduceCtorEq,trT] at h4
 have e : t = g.th.length := by omega
 subst e
 (try simp only [nc] at *)
 have hsh : Short g := ⟨by omega, by omega, fun l hl => by
  obtain ⟨j, hj, rfl⟩ := List.getElem_of_mem hl
  simpa [hj] using hok j hj⟩
 cbv
 repeat' (first
  |(refine ⟨fun _ h_s=>?_,fun _ h_s=>?_⟩<;>(cbv;(try simp only [nc] at *);try simp (disch:=(first|omega|(simp only [lnS];omega))) only [rdT,rdS,reduceCtorEq,trT] at h_s))
  |(refine hF ?_;intro _;clear hF)
  |(refine hF ?_;cbv;clear hF)
  |(refine ⟨fun _=>?_,?_⟩;(· ((try simp only [nc] at *);first|done|omega|exact ⟨by omega,rfl⟩|(simp (disch:=(first|omega|(simp only [lnS];omega))) only [rdT,rdS];first|done|omega|rfl|exact ⟨by omega,rfl⟩|(simp;done)|(simp;omega))|(intros;trivial)));try cbv)
  |(refine E.d 9 (by decide +kernel) ?_;cbv;(fail_if_success guard_target =~ False))
  |(refine E.d 12 (by decide +kernel) ?_;cbv;(fail_if_success guard_target =~ False))
  |(refine E.d 13 (by decide +kernel) ?_;cbv;(fail_if_success guard_target =~ False))
  | fail
 )
 all_goals (try simp only [nc] at *)
 all_goals (try simp (disch:=(first|omega|(simp only [lnS];omega))) only [rdT,rdS])
 ·exact (gcheck2 hsh fun h => by have := h.lfr; omega).symm
 ·exact (gcheck2 hsh fun h => by have := h.lord; omega).symm
 have hlf : g.fr.length = g.th.length := by omega
 have hlo : g.ord.length = g.init.length := by omega
 -- events
 refine E.loopS (ι:=Nat) (fun t=>t≤g.th.length∧(∀ j < t,(g.fr.getD j []).length = (g.th.getD j []).length∧∀ i < (g.th.getD j []).length,fineM g.init.length ((g.th.getD j []).getD i ev0) = true)) (fun t=>g.th.length - t) (fun t=>[(4,.i fun _=>((t : Nat) : Int))]) (fun t h=>h) 0 (fun _=>by first|rfl|simp) ⟨Nat.zero_le _,?_⟩ ?_ fun t ht I hI=>?_
 ·intro j hj; omega
 ·cbv; simp
 obtain ⟨ht, hok⟩ := ht
 cbv
 refine ⟨fun _ h4 => ?_, fun _ h4 => ?_⟩
 ·(try simp only [nc] at *)
  simp (disch:=(first|omega|(simp only [lnS];omega))) only [rdT,rdS,reduceCtorEq,trT] at h4
  have hht := hsh.at t
  cbv
  repeat' (first
   |(refine ⟨fun _ h_s=>?_,fun _ h_s=>?_⟩<;>(cbv;(try simp only [nc] at *);try simp (disch:=(first|omega|(simp only [lnS];omega))) only [rdT,rdS,reduceCtorEq,trT] at h_s))
   |(refine hF ?_;intro _;clear hF)
   |(refine hF ?_;cbv;clear hF)
   |(refine ⟨fun _=>?_,?_⟩;(· ((try simp only [nc] at *);first|done|omega|exact ⟨by omega,rfl⟩|(simp (disch:=(first|omega|(simp only [lnS];omega))) only [rdT,rdS];first|done|omega|rfl|exact ⟨by omega,rfl⟩|(simp;done)|(simp;omega))|(intros;trivial)));try cbv)
   |(refine E.d 9 (by decide +kernel) ?_;cbv;(fail_if_success guard_target =~ False))
   |(refine E.d 12 (by decide +kernel) ?_;cbv;(fail_if_success guard_target =~ False))
   |(refine E.d 13 (by decide +kernel) ?_;cbv;(fail_if_success guard_target =~ False))
   | fail
  )
  all_goals (try simp only [nc] at *)
  all_goals (try simp (disch:=(first|omega|(simp only [lnS];omega))) only [rdT,rdS])
  ·exact (gcheck2 hsh fun h => by have := (h.events t (by omega)).1; omega).symm
  refine E.loopS (ι:=Nat) (fun i=>i≤(g.th.getD t []).length∧(∀ j < i,fineM g.init.length ((g.th.getD t []).getD j ev0) = true)) (fun i=>(g.th.getD t []).length - i) (fun i=>[(5,.i fun _=>((i : Nat) : Int))]) (fun i h=>h) 0 (fun _=>by first|rfl|simp) ⟨Nat.zero_le _,?_⟩ ?_ fun i hi I2 hI2=>?_
  ·intro j hj; omega
  ·cbv; simp
  obtain ⟨hi, hoki⟩ := hi
  cbv
  repeat' (first
   |(refine hI (t + 1) ?_ ?_ ?_;rotate_left 1;(· ((try simp only [nc] at *);omega));(cbv;clear hI;(try clear hF);(try simp only [nc] at *);(try simp (disch:=(first|omega|(simp only [lnS];omega))) only [rdT,rdS,anT]));rotate_left 1;(try ((try simp only [nc] at *);omega)))
   |(refine hI2 (i + 1) ?_ ?_ ?_;rotate_left 1;(· ((try simp only [nc] at *);omega));(cbv;clear hI2;(try clear hF);(try simp only [nc] at *);(try simp (disch:=(first|omega|(simp only [lnS];omega))) only [rdT,rdS,anT]));rotate_left 1;(try ((try simp only [nc] at *);omega)))
   |((first|refine E.c (SCalls.of_le (fine_ok ((g.th.getD t []).getD i ev0) g) ?_ ?_)|refine E.q (QCalls.of_le (fine_ok ((g.th.getD t []).getD i ev0) g) ?_ ?_));(· (cbv;(try simp only [nc] at *);first|done|(simp;done)|(simp (disch:=(first|omega|(simp only [lnS];omega))) only [rdT,rdS,anT];first|done|omega|(refine ⟨?_,?_⟩<;>omega))|(simp (disch:=(first|omega|(simp only [lnS];omega))) [rdT,rdS];done)));cbv)
   |(refine ⟨fun _ h_s=>?_,fun _ h_s=>?_⟩<;>(cbv;(try simp only [nc] at *);try simp (disch:=(first|omega|(simp only [lnS];omega))) only [rdT,rdS,reduceCtorEq,trT] at h_s))
   |(refine hF ?_;intro _;clear hF)
   |(refine hF ?_;cbv;clear hF)
   |(refine ⟨fun _=>?_,?_⟩;(· ((try simp only [nc] at *);first|done|omega|exact ⟨by omega,rfl⟩|(simp (disch:=(first|omega|(simp only [lnS];omega))) only [rdT,rdS];first|done|omega|rfl|exact ⟨by omega,rfl⟩|(simp;done)|(simp;omega))|(intros;trivial)));try cbv)
   |(refine E.d 9 (by decide +kernel) ?_;cbv;(fail_if_success guard_target =~ False))
   |(refine E.d 12 (by decide +kernel) ?_;cbv;(fail_if_success guard_target =~ False))
   |(refine E.d 13 (by decide +kernel) ?_;cbv;(fail_if_success guard_target =~ False))
   | fail
  )
  all_goals (try simp only [nc] at *)
  all_goals (try simp (disch:=(first|omega|(simp only [lnS];omega))) only [rdT,rdS])
  ·refine (gcheck2 hsh fun h => ?_).symm
   have := (h.events t (by omega)).2 i (by omega)
   simp_all
  ·refine ⟨by omega, fun j hj => ?_⟩
   rcases Nat.lt_or_ge j i with h | h
   ·exact hoki j h
   ·obtain rfl : j = i := by omega
    assumption
  ·omega
  ·refine ⟨by omega, fun j hj => ?_⟩
   rcases Nat.lt_or_ge j t with h | h
   ·exact hok j h
   ·obtain rfl : j = t := by omega
    exact ⟨by omega, fun k hk => hoki k (by omega)⟩
  ·omega
 clear hI
 (try simp only [nc] at *)
 simp (disch:=(first|omega|(simp only [lnS];omega))) only [rdT,rdS,reduceCtorEq,trT] at h4
 have e : t = g.th.length := by omega
 subst e
 have hev : eventsOk g := hok
 cbv
 -- sources
 refine E.loopS (ι:=Nat) (fun t=>t≤g.th.length∧(∀ j < t,∀ i < (g.th.getD j []).length,sourceM g ⟨j + 1,i⟩ ((g.fr.getD j []).getD i id0) = true)) (fun t=>g.th.length - t) (fun t=>[(6,.i fun _=>((t : Nat) : Int))]) (fun t h=>h) 0 (fun _=>by first|rfl|simp) ⟨Nat.zero_le _,?_⟩ ?_ fun t ht I hI=>?_
 ·intro j hj; omega
 ·cbv; simp
 obtain ⟨ht, hok2⟩ := ht
 cbv
 refine ⟨fun _ h5 => ?_, fun _ h5 => ?_⟩
 ·(try simp only [nc] at *)
  simp (disch:=(first|omega|(simp only [lnS];omega))) only [rdT,rdS,reduceCtorEq,trT] at h5
  have hht := hsh.at t
  cbv
  refine E.loopS (ι:=Nat) (fun i=>i≤(g.th.getD t []).length∧(∀ j < i,sourceM g ⟨t + 1,j⟩ ((g.fr.getD t []).getD j id0) = true)) (fun i=>(g.th.getD t []).length - i) (fun i=>[(7,.i fun _=>((i : Nat) : Int))]) (fun i h=>h) 0 (fun _=>by first|rfl|simp) ⟨Nat.zero_le _,?_⟩ ?_ fun i hi I2 hI2=>?_
  ·intro j hj; omega
  ·cbv; simp
  obtain ⟨hi, hoki⟩ := hi
  have hfl := (hev t (by ((try simp only [nc] at *); omega))).1
  cbv
  repeat' (first
   |(refine hI (t + 1) ?_ ?_ ?_;rotate_left 1;(· ((try simp only [nc] at *);omega));(cbv;clear hI;(try clear hF);(try simp only [nc] at *);(try simp (disch:=(first|omega|(simp only [lnS];omega))) only [rdT,rdS,anT]));rotate_left 1;(try ((try simp only [nc] at *);omega)))
   |(refine hI2 (i + 1) ?_ ?_ ?_;rotate_left 1;(· ((try simp only [nc] at *);omega));(cbv;clear hI2;(try clear hF);(try simp only [nc] at *);(try simp (disch:=(first|omega|(simp only [lnS];omega))) only [rdT,rdS,anT]));rotate_left 1;(try ((try simp only [nc] at *);omega)))
   |((first|refine E.c (SCalls.of_le (source_ok g hg ⟨t + 1,i⟩ ((g.fr.getD t []).getD i id0)) ?_ ?_)|refine E.q (QCalls.of_le (source_ok g hg ⟨t + 1,i⟩ ((g.fr.getD t []).getD i id0)) ?_ ?_));(· (cbv;(try simp only [nc] at *);first|done|(simp;done)|(simp (disch:=(first|omega|(simp only [lnS];omega))) only [rdT,rdS,anT];first|done|omega|(refine ⟨?_,?_⟩<;>omega))|(simp (disch:=(first|omega|(simp only [lnS];omega))) [rdT,rdS];done)));cbv)
   |(refine ⟨fun _ h_s=>?_,fun _ h_s=>?_⟩<;>(cbv;(try simp only [nc] at *);try simp (disch:=(first|omega|(simp only [lnS];omega))) only [rdT,rdS,reduceCtorEq,trT] at h_s))
   |(refine hF ?_;intro _;clear hF)
   |(refine hF ?_;cbv;clear hF)
   |(refine ⟨fun _=>?_,?_⟩;(· ((try simp only [nc] at *);first|done|omega|exact ⟨by omega,rfl⟩|(simp (disch:=(first|omega|(simp only [lnS];omega))) only [rdT,rdS];first|done|omega|rfl|exact ⟨by omega,rfl⟩|(simp;done)|(simp;omega))|(intros;trivial)));try cbv)
   |(refine E.d 9 (by decide +kernel) ?_;cbv;(fail_if_success guard_target =~ False))
   |(refine E.d 12 (by decide +kernel) ?_;cbv;(fail_if_success guard_target =~ False))
   |(refine E.d 13 (by decide +kernel) ?_;cbv;(fail_if_success guard_target =~ False))
   | fail
  )
  all_goals (try simp only [nc] at *)
  all_goals (try simp (disch:=(first|omega|(simp only [lnS];omega))) only [rdT,rdS])
  ·refine (gcheck2 hsh fun h => ?_).symm
   have := h.sources t (by omega) i (by omega)
   simp_all
  ·refine ⟨by omega, fun j hj => ?_⟩
   rcases Nat.lt_or_ge j i with h | h
   ·exact hoki j h
   ·obtain rfl : j = i := by omega
    assumption
  ·omega
  ·refine ⟨by omega, fun j hj => ?_⟩
   rcases Nat.lt_or_ge j t with h | h
   ·exact hok2 j h
   ·obtain rfl : j = t := by omega
    exact fun k hk => hoki k (by omega)
  ·omega
 clear hI
 (try simp only [nc] at *)
 simp (disch:=(first|omega|(simp only [lnS];omega))) only [rdT,rdS,reduceCtorEq,trT] at h5
 have e : t = g.th.length := by omega
 subst e
 have hso : sourcesOk g := hok2
 cbv
 refine E.loopS (ι:=Nat) (fun x=>x≤g.init.length∧(∀ j < x,orderedM g j = true)) (fun x=>g.init.length - x) (fun x=>[(8,.i fun _=>((x : Nat) : Int))]) (fun x h=>h) 0 (fun _=>by first|rfl|simp) ⟨Nat.zero_le _,?_⟩ ?_ fun x hx I hI=>?_
 ·intro j hj; omega
 ·cbv; simp
 obtain ⟨hx, hok3⟩ := hx
 cbv
 repeat' (first
  |(refine hI (x + 1) ?_ ?_ ?_;rotate_left 1;(· ((try simp only [nc] at *);omega));(cbv;clear hI;(try clear hF);(try simp only [nc] at *);(try simp (disch:=(first|omega|(simp only [lnS];omega))) only [rdT,rdS,anT]));rotate_left 1;(try ((try simp only [nc] at *);omega)))
  |(refine E.c (SCalls.of_le (ordered_ok g hg hsh x (by omega)) ?_ ?_);(· (cbv;(try simp only [nc] at *);first|done|(simp;done)|(simp (disch:=(first|omega|(simp only [lnS];omega))) only [rdT,rdS,anT];first|done|omega|(refine ⟨?_,?_⟩<;>omega))|(simp (disch:=(first|omega|(simp only [lnS];omega))) [rdT,rdS];done)));cbv)
  |(refine ⟨fun _ h_s=>?_,fun _ h_s=>?_⟩<;>(cbv;(try simp only [nc] at *);try simp (disch:=(first|omega|(simp only [lnS];omega))) only [rdT,rdS,reduceCtorEq,trT] at h_s))
  |(refine hF ?_;intro _;clear hF)
  |(refine hF ?_;cbv;clear hF)
  |(refine ⟨fun _=>?_,?_⟩;(· ((try simp only [nc] at *);first|done|omega|exact ⟨by omega,rfl⟩|(simp (disch:=(first|omega|(simp only [lnS];omega))) only [rdT,rdS];first|done|omega|rfl|exact ⟨by omega,rfl⟩|(simp;done)|(simp;omega))|(intros;trivial)));try cbv)
  |(refine E.d 9 (by decide +kernel) ?_;cbv;(fail_if_success guard_target =~ False))
  |(refine E.d 12 (by decide +kernel) ?_;cbv;(fail_if_success guard_target =~ False))
  |(refine E.d 13 (by decide +kernel) ?_;cbv;(fail_if_success guard_target =~ False))
  | fail
 )
 all_goals (try simp only [nc] at *)
 all_goals (try simp (disch:=(first|omega|(simp only [lnS];omega))) only [rdT,rdS])
 ·refine (gcheck2 hsh fun h => ?_).symm
  have := h.orders x (by omega)
  simp_all
 ·refine ⟨by omega, fun j hj => ?_⟩
  rcases Nat.lt_or_ge j x with h | h
  ·exact hok3 j h
  ·obtain rfl : j = x := by omega
   assumption
 ·omega
 ·refine (gcheck0 ⟨hsh, by omega, by omega, hev, hso, fun j hj => hok3 j (by omega)⟩).symm
end Go.AL.Rl

namespace Go.AL.Rl
open Go Go.AL Go.Proofs
set_option maxRecDepth 100000
set_option maxHeartbeats 3200000
variable {γ : Nat → Option AV}

/-- an event behind a thread's others, from where it reads -/
def addS (g : Gr) (t : Nat) (e : Ev) (d : EId) : Gr := ⟨g.init, g.th.set t (g.th.getD t [] ++ [e]), g.fr.set t (g.fr.getD t [] ++ [d]), g.ord⟩
/-- where it stands among the writes -/
def addO (g : Gr) (t : Nat) (e : Ev) (p : Int) : List EId := (g.ord.getD e.loc.toNat []).take (p - 1).toNat ++ [⟨(t : Int) + 1, ((g.th.getD t []).length : Int)⟩] ++ (g.ord.getD e.loc.toNat []).drop (p - 1).toNat
def addG (g : Gr) (t : Nat) (e : Ev) (d : EId) (p : Int) : Gr := ⟨g.init, (addS g t e d).th, (addS g t e d).fr, if writesM e = true then g.ord.set e.loc.toNat (addO g t e p) else g.ord⟩
def addC (g : Gr) (t : Nat) (e : Ev) (d : EId) (p : Int) : Prop := fineM g.init.length e = true ∧ (if writesM e = true then 1 ≤ p ∧ p ≤ ((g.ord.getD e.loc.toNat []).length : Nat) + 1 else p = 0) ∧ GOk (addG g t e d p)
instance (g : Gr) (t : Nat) (e : Ev) (d : EId) (p : Int) : Decidable (addC g t e d p) := inferInstanceAs (Decidable (_ ∧ _))
def addE (g : Gr) (thread : Int) (e : Ev) (d : EId) (p : Int) : Int :=
 if GOk g then (if 1 ≤ thread ∧ thread ≤ (g.th.length : Nat) then (if (g.th.getD (thread - 1).toNat []).length = 14 then 3 else if addC g (thread - 1).toNat e d p then 0 else 2) else 9) else 2
def addR (g : Gr) (thread : Int) (e : Ev) (d : EId) (p : Int) : Gr := if addE g thread e d p = 0 then addG g (thread - 1).toNat e d p else ⟨[], [], [], []⟩
theorem rdb_ok {g : Gr} (h : GOk g) : RdB g := by
 have hs := h.short
 have h1 := hs.th
 have h2 := hs.init
 have h3 := h.lfr
 have h4 := h.lord
 have e2 : ∀ l ∈ g.fr, l.length ≤ 14 := fun l hl => by
  obtain ⟨t, ht, rfl⟩ := List.getElem_of_mem hl
  have := (h.events t (by omega)).1
  have h5 := hs.at t
  rw [show g.fr.getD t [] = g.fr[t] by simp [ht]] at this
  omega
 have e3 : ∀ l ∈ g.ord, l.length ≤ 56 := fun l hl => by
  obtain ⟨x, hx, rfl⟩ := List.getElem_of_mem hl
  have := h.orders x (by omega)
  unfold orderedM at this
  have hc : cntT x g.th ≤ 56 := by have := cntT_take hs x g.th.length; rw [List.take_length] at this; omega
  rw [show g.ord.getD x [] = g.ord[x] by simp [hx]] at this
  simp only [Bool.and_eq_true, decide_eq_true_eq] at this
  omega
 exact ⟨by omega, by omega, by omega, by omega, fun l hl => by have := hs.ths l hl; omega, fun l hl => by have := e2 l hl; omega, fun l hl => by have := e3 l hl; omega⟩
theorem ord56 {g : Gr} (h : GOk g) (x : Nat) : (g.ord.getD x []).length ≤ 56 := by
 rcases Nat.lt_or_ge x g.init.length with hx | hx
 ·have := h.orders x hx
  unfold orderedM at this
  have hc : cntT x g.th ≤ 56 := by have := cntT_take h.short x g.th.length; rw [List.take_length] at this; omega
  simp only [Bool.and_eq_true, decide_eq_true_eq] at this
  omega
 ·rw [List.getD_eq_getElem?_getD, List.getElem?_eq_none (by have := h.lord; omega)]; simp
theorem rd_short {g : Gr} (h : GOk g) : Rd g := by
 have hb := rdb_ok h
 exact ⟨by have := hb.init; omega, by have := hb.th; omega, by have := hb.fr; omega, by have := hb.ord; omega, fun l hl => by have := hb.ths l hl; omega, fun l hl => by have := hb.frs l hl; omega, fun l hl => by have := hb.ords l hl; omega⟩
end Go.AL.Rl
