import Derived.Test.YtbpebafmnnofjaaGreatDoorPs3
set_option linter.unusedVariables false
set_option linter.unusedSimpArgs false
namespace Go.AL.Rl
open Go Go.AL Go.Proofs
variable {γ : Nat → Option AV}
set_option maxRecDepth 100000

def cand (ahead : List (BitVec 64)) (left : BitVec 64) (i : Nat) : Prop := left.getLsbD i = true ∧ ahead.getD i 0 &&& left = 0#64
/-- all that is left is sorted behind what is told -/
inductive Sorts (ahead : List (BitVec 64)) (len : Nat) : BitVec 64 → List Int → List Int → Prop
 | done (acc : List Int) : Sorts ahead len 0#64 acc acc
 | step (left : BitVec 64) (acc res : List Int) (i : Nat) (hi : i < len) (hc : cand ahead left i) (hn : ∀ k < i, ¬ cand ahead left k) (h : Sorts ahead len (left &&& ~~~ (1#64 <<< i)) (acc ++ [(i : Int)]) res) : Sorts ahead len left acc res
theorem Sorts.inv {ah : List (BitVec 64)} {len : Nat} {left : BitVec 64} {acc res : List Int} (h : Sorts ah len left acc res) (h0 : left ≠ 0#64) :
  ∃ i, i < len ∧ cand ah left i ∧ (∀ k < i, ¬ cand ah left k) ∧ Sorts ah len (left &&& ~~~ (1#64 <<< i)) (acc ++ [(i : Int)]) res := by
 cases h with
 | done => exact absurd rfl h0
 | step _ _ _ i hi hc hn h => exact ⟨i, hi, hc, hn, h⟩
theorem Sorts.fin {ah : List (BitVec 64)} {len : Nat} {acc res : List Int} (h : Sorts ah len 0#64 acc res) : acc = res := by
 cases h with
 | done => rfl
 | step _ _ _ i hi hc hn h => exact absurd hc.1 (by simp)

def cnt (x : BitVec 64) : Nat := (List.range 64).countP fun p => x.getLsbD p
theorem cnt_le (x : BitVec 64) : cnt x ≤ 64 := by
 have := List.countP_le_length (p := fun p => x.getLsbD p) (l := List.range 64)
 simpa [cnt] using this
end Go.AL.Rl

namespace Go.AL.Rl
open Go Go.AL Go.Proofs
variable {γ : Nat → Option AV}
set_option maxRecDepth 100000

end Go.AL.Rl

namespace Go.AL.Rl
theorem bit_reachTo (rows : List (BitVec 64)) (f : BitVec 64) (j : Nat) : ∀ q, (reachTo q rows f).getLsbD j = true ↔ ∃ p, p < q ∧ f.getLsbD p = true ∧ bit rows p j = true
 | 0 => by simp [reachTo]
 | q + 1 => by
  have ih := bit_reachTo rows f j q
  rw [reachTo_succ]
  constructor
  ·intro h
   split at h
   ·rename_i hf
    rw [BitVec.getLsbD_or, Bool.or_eq_true, ih] at h
    rcases h with ⟨p, h1, h2⟩ | h
    ·exact ⟨p, by omega, h2⟩
    ·exact ⟨q, by omega, hf, h⟩
   ·obtain ⟨p, h1, h2⟩ := ih.1 h
    exact ⟨p, by omega, h2⟩
  ·rintro ⟨p, h1, h2, h3⟩
   by_cases hp : p = q
   ·subst hp
    rw [if_pos h2, BitVec.getLsbD_or]
    unfold bit at h3
    rw [h3, Bool.or_true]
   ·have := ih.2 ⟨p, by omega, h2, h3⟩
    split
    ·rw [BitVec.getLsbD_or, this, Bool.true_or]
    ·exact this
theorem bit_reach (rows : List (BitVec 64)) (f : BitVec 64) (j : Nat) : (reachM rows f).getLsbD j = true ↔ ∃ p, f.getLsbD p = true ∧ bit rows p j = true := by
 unfold reachM
 rw [bit_reachTo]
 constructor
 ·rintro ⟨p, _, h⟩; exact ⟨p, h⟩
 ·rintro ⟨p, h⟩
  refine ⟨p, ?_, h⟩
  rcases Nat.lt_or_ge p 64 with h' | h'
  ·exact h'
  ·rw [BitVec.getLsbD_of_ge _ _ h'] at h; cases h.1

theorem fits_bits {n : Int} {rows : List (BitVec 64)} (hf : Fits n rows) {i j : Nat} (h : bit rows i j = true) : i < rows.length ∧ j < rows.length := by
 have hi : i < rows.length := by
  rcases Nat.lt_or_ge i rows.length with h' | h'
  ·exact h'
  ·rw [bit_out h'] at h; cases h
 have hj : j < 64 := by
  rcases Nat.lt_or_ge j 64 with h' | h'
  ·exact h'
  ·unfold bit at h; rw [BitVec.getLsbD_of_ge _ _ h'] at h; cases h
 refine ⟨hi, fits_row hf (r := rows.getD i 0) ?_ hj h⟩
 simp [hi]
theorem fits_mk {n : Nat} {rows : List (BitVec 64)} (hn : n ≤ 64) (hl : rows.length = n) (h : ∀ i j, bit rows i j = true → j < n) : Fits n rows := by
 refine ⟨by omega, by omega, by omega, fun r hr => ?_⟩
 obtain ⟨i, hi, rfl⟩ := List.getElem_of_mem hr
 apply BitVec.eq_of_getLsbD_eq
 intro j hj
 rw [BitVec.getLsbD_and, BitVec.getLsbD_not, fullM_bit n hn j hj, BitVec.getLsbD_zero]
 have := h i j
 unfold bit at this
 rw [List.getD_eq_getElem?_getD, List.getElem?_eq_getElem hi, Option.getD_some] at this
 cases hb : rows[i].getLsbD j with
 | false => rfl
 | true => simp [hj, this hb]
theorem fits_n {n : Int} {rows : List (BitVec 64)} (hf : Fits n rows) : n = rows.length ∧ rows.length ≤ 64 := by
 have := hf.1; have := hf.2.1; have := hf.2.2.1; omega

theorem fits_plus {n : Int} {rows : List (BitVec 64)} (hf : Fits n rows) : Fits n (plusM n rows) := by
 obtain ⟨h1, h2⟩ := fits_n hf
 rw [h1]
 refine fits_mk h2 (plusM_len _ _) fun i j h => ?_
 exact way_least rows (fun _ j => j < rows.length) (fun i j h => (fits_bits hf h).2) (fun _ _ _ _ h => h) _ i j h
theorem plus_edge {n : Int} {rows : List (BitVec 64)} {i j : Nat} (h : bit rows i j = true) : bit (plusM n rows) i j = true := way_edge rows _ i j h
theorem plus_trans {n : Int} {rows : List (BitVec 64)} (hf : Fits n rows) {i k j : Nat} (h1 : bit (plusM n rows) i k = true) (h2 : bit (plusM n rows) k j = true) : bit (plusM n rows) i j = true := by
 refine way_trans rows n.toNat i k j ?_ h1 h2
 have h3 := (fits_bits (fits_plus hf) h1).2
 have h4 := fits_n hf
 rw [plusM_len] at h3
 omega
theorem plus_least {n : Int} {rows : List (BitVec 64)} (T : Nat → Nat → Prop) (h1 : ∀ i j, bit rows i j = true → T i j) (h2 : ∀ i k j, T i k → T k j → T i j) {i j : Nat} (h : bit (plusM n rows) i j = true) : T i j :=
 way_least rows T h1 h2 _ i j h

theorem bit_image {n : Int} {rows : List (BitVec 64)} (hf : Fits n rows) (f : BitVec 64) (j : Nat) : (imageM n rows f).getLsbD j = true ↔ ∃ p, f.getLsbD p = true ∧ bit rows p j = true := by
 rw [imageM, if_pos hf, bit_reach]
 constructor
 ·rintro ⟨p, h1, h2⟩
  rw [BitVec.getLsbD_and, Bool.and_eq_true] at h1
  exact ⟨p, h1.1, h2⟩
 ·rintro ⟨p, h1, h2⟩
  refine ⟨p, ?_, h2⟩
  have h3 := fits_n hf
  have h4 := (fits_bits hf h2).1
  rw [BitVec.getLsbD_and, h1, h3.1, fullM_bit _ h3.2 p (by omega)]
  simpa using h4

section
variable {n : Int} {rows : List (BitVec 64)} (hf : Fits n rows) (f : BitVec 64)
include hf
end
end Go.AL.Rl

namespace Go.AL.Rl
open Go Go.AL Go.Proofs
variable {γ : Nat → Option AV}
set_option maxRecDepth 100000

end Go.AL.Rl

namespace Go.AL.Rl
open Go Go.AL Go.Proofs
variable {γ : Nat → Option AV}
set_option maxRecDepth 100000

def tab (n : Nat) (f : Nat → BitVec 64) : List (BitVec 64) := (List.range n).map f
@[simp] theorem tab_len (n : Nat) (f : Nat → BitVec 64) : (tab n f).length = n := by simp [tab]
theorem tab_get (n : Nat) (f : Nat → BitVec 64) (i : Nat) (h : i < n) : (tab n f).getD i 0 = f i := by simp [tab, h]
theorem tab_congr {n : Nat} {f g : Nat → BitVec 64} (h : ∀ i < n, f i = g i) : tab n f = tab n g := List.map_congr_left fun i hi => h i (by simpa using hi)
theorem tab_set {n : Nat} {f g : Nat → BitVec 64} (i : Nat) (x : BitVec 64) (_ : i < n) (hx : g i = x) (h : ∀ j < n, j ≠ i → g j = f j) : (tab n f).set i x = tab n g := by
 apply List.ext_getElem (by simp)
 intro j h1 h2
 have hj : j < n := by simpa using h2
 rw [List.getElem_set]
 split
 ·rename_i e; subst e; simp [tab, hx]
 ·rename_i e; simp [tab]; exact (h j hj (Ne.symm e)).symm
theorem tab_self (rows : List (BitVec 64)) : tab rows.length (fun i => rows.getD i 0) = rows := by
 apply List.ext_getElem (by simp)
 intro j h1 h2
 simp [tab, h2]
theorem tab_zero (n : Nat) : tab n (fun _ => 0#64) = List.replicate n 0#64 := by
 apply List.ext_getElem (by simp)
 intro j h1 h2
 simp [tab]
theorem fits_len {n : Int} {rows : List (BitVec 64)} (hf : Fits n rows) : ∃ k : Nat, n = k ∧ rows.length = k ∧ k ≤ 64 := by
 have := hf.1; have := hf.2.1; have := hf.2.2.1
 exact ⟨rows.length, by omega, rfl, by omega⟩

def hasM (n : Int) (rows : List (BitVec 64)) (i j : Int) : Bool := decide (Fits n rows ∧ 0 ≤ i ∧ i < n ∧ 0 ≤ j ∧ j < n) && bit rows i.toNat j.toNat
abbrev RelV := Int × List (BitVec 64)
def rls (l : List RelV) : LV := LV.of (l.map fun r => encRel r.1 r.2)
@[simp] theorem rls_len (l : List RelV) : (rls l).l.length = l.length := by simp [rls]
theorem rls_get (l : List RelV) (i : Nat) (h : i < l.length) : (rls l).l.getD i .any = encRel (l.getD i (0, [])).1 (l.getD i (0, [])).2 := by
 simp [rls, h]
theorem at_r0 (x : Unit → Int) (y : AV) : ((AV.agg [.i x, y]).at 0).asI = x () := rfl
theorem at_r1 (x : AV) (k : Nat) (y : Unit → LV) : ((AV.agg [x, .vs k y]).at 1).asL = y () := rfl
def Alike (l : List RelV) : Prop := 0 < l.length ∧ ∀ i < l.length, Fits (l.getD i (0, [])).1 (l.getD i (0, [])).2 ∧ (l.getD i (0, [])).1 = (l.getD 0 (0, [])).1
instance (l : List RelV) : Decidable (Alike l) := by unfold Alike; infer_instance
theorem alike_ok (l : List RelV) (hl : l.length < 4611686018427387904) : Pure Tryz.prog γ false 94 [.vs 2 fun _ => rls l] (.b fun _ => decide (Alike l)) := by
 refine Pure.go (ty := ty) ty_eq mo Tryz.func94 rfl Tryz.ntmps94 Tryz.results94 Tryz.call94 (by simp) fun P C CQ D W F E hF => ?_
 cbv
 refine E.loop (ι := Nat) (fun m => m ≤ l.length ∧ ∀ k < m, Fits (l.getD k (0, [])).1 (l.getD k (0, [])).2 ∧ (l.getD k (0, [])).1 = (l.getD 0 (0, [])).1) (fun m => l.length - m) (fun m => [(7, .i fun _ => (m : Int))])
  (fun m => []) 0 rfl (fun _ => rfl) ⟨Nat.zero_le _, by simp⟩ ?_ fun m hm I hI => ?_
 ·cbv
  simp
 cbv
 refine ⟨fun _ h4 => ?_, fun _ h4 => ?_⟩
 ·cbv
  have hmm : m < l.length := by simpa using h4
  refine ⟨fun _ => by simp; omega, fun _ => by rw [nct, rls_get _ m hmm]; rfl, ?_⟩
  cbv
  simp only [nct, rls_get _ m hmm, at_r0, at_r1]
  generalize hv : l.getD m (0, []) = v
  obtain ⟨vn, vr⟩ := v
  simp only
  refine E.d 12 (by kernel_rfl) ?_
  cbv
  refine E.q (QCalls.of_le (check_ok vn vr) ?_ ?_)
  ·cbv; all_goals simp
  cbv
  have hfit : l.getD m (0, []) = (vn, vr) := hv
  refine ⟨fun _ h5 => ?_, fun _ h5 => ?_⟩
  ·cbv
   refine hF ?_
   cbv
   intro _
   clear hI
   have : ¬ Alike l := fun h => by
    have := (h.2 m hmm).1
    rw [hfit] at this
    simp [checkM, this] at h5
   simp [this]
  cbv
  have hfv : Fits vn vr := by
   by_cases h : Fits vn vr
   ·exact h
   ·simp [checkM, h] at h5
  refine ⟨fun _ => by simp; omega, fun _ => by rw [show (0 : Int).toNat = 0 from rfl, rls_get _ 0 (by omega)]; rfl, ?_⟩
  simp only [show (0 : Int).toNat = 0 from rfl, rls_get _ 0 (show 0 < l.length by omega), at_r0]
  refine ⟨fun _ h6 => ?_, fun _ h6 => ?_⟩
  ·cbv
   refine hF ?_
   cbv
   intro _
   clear hI
   have : ¬ Alike l := fun h => by
    have := (h.2 m hmm).2
    rw [hfit] at this
    simp at h6
    exact h6 (by simpa using this)
   simp [this]
  ·cbv
   refine hI (m + 1) ⟨hmm, fun k hk => ?_⟩ (by omega) ?_
   ·rcases Nat.lt_or_ge k m with h | h
    ·exact hm.2 k h
    ·obtain rfl : k = m := by omega
     rw [hfit]
     exact ⟨hfv, by simpa using h6⟩
   ·cbv
    clear hI
    simp
    exact w64_of (by omega) (by omega)
 ·cbv
  refine hF ?_
  cbv
  clear hI
  intro _
  have : m = l.length := by simp at h4; omega
  subst this
  simp
  exact ⟨fun h => ⟨h, hm.2⟩, fun h => h.1⟩
end Go.AL.Rl

namespace Go.AL.Rl
open Go Go.AL Go.Proofs
variable {γ : Nat → Option AV}
set_option maxRecDepth 100000

theorem getD_mem {α : Type} {l : List α} {i : Nat} {d : α} (h : i < l.length) : l.getD i d ∈ l := by simp [h]

def orV (l : List RelV) (j : Nat) : BitVec 64 := l.foldl (fun a r => a ||| r.2.getD j 0) 0#64
theorem orV_succ (l : List RelV) (k j : Nat) (h : k < l.length) : orV (l.take (k + 1)) j = orV (l.take k) j ||| (l.getD k (0, [])).2.getD j 0 := by
 rw [orV, List.take_succ_eq_append_getElem h, List.foldl_append]
 simp only [List.foldl_cons, List.foldl_nil, List.getD_eq_getElem?_getD, List.getElem?_eq_getElem h, Option.getD_some]; rfl
def orM (n : Nat) (l : List RelV) : List (BitVec 64) := tab n (orV l)
theorem or_yes (l : List RelV) (hl : l.length < 4611686018427387904) (h : Alike l) (n : Nat) (hn : (l.getD 0 (0, [])).1 = n) : Pure Tryz.prog γ false 63 [.vs 2 fun _ => rls l] (encRel n (orM n l)) := by
 have h0 := (h.2 0 h.1).1
 have hl0 := h.1
 obtain ⟨k0, hk1, hk2, hk3⟩ := fits_len h0
 rw [hn] at hk1
 obtain rfl : n = k0 := by omega
 have hall : ∀ k < l.length, (l.getD k (0, [])).2.length = n := fun k hk => by
  have := h.2 k hk
  obtain ⟨j, e1, e2, _⟩ := fits_len this.1
  have e3 := this.2
  rw [hn, e1] at e3
  omega
 refine Pure.go (ty := ty) ty_eq mo Tryz.func63 rfl Tryz.ntmps63 Tryz.results63 Tryz.call63 (by simp) fun P C CQ D W F E hF => ?_
 cbv
 refine E.c (SCalls.of_le (alike_ok l hl) ?_ ?_)
 ·(cbv;(try simp only [nc] at *);first|done|(simp;done)|(simp (disch:=(first|omega|(simp only [lnS,zA,zM,zG,zP];omega))) only [nc,nct,w64_of,zT,zZ,zM,rdS,at_agg,bofZ,bof1,bof0,zC,zS,implies_true,and_true,true_and,forall_const];first|done|omega|(refine ⟨?_,?_⟩<;>omega))|(simp (disch:=(first|omega|(simp only [lnS,zA,zM,zG,zP];omega))) [nc,nct,w64_of,zT,zZ,zM,rdS,at_agg,bofZ,bof1,bof0,zC,zS];done))
 cbv
 refine br_f (by simp [h]) ?_
 cbv
 refine ⟨fun _ => by simp; omega, fun _ => by rw [show (0 : Int).toNat = 0 from rfl, rls_get _ 0 hl0]; rfl, ?_⟩
 cbv
 simp only [show (0 : Int).toNat = 0 from rfl, rls_get _ 0 hl0, at_r0, hn]
 refine E.c (SCalls.of_owns (none_in (n : Int) (by omega) (by omega)) ?_ ?_)
 ·cbv; all_goals simp
 cbv
 simp only [Int.toNat_natCast, nc]
 refine E.loop (ι := Nat) (fun k => k ≤ l.length) (fun k => l.length - k) (fun k => [(19, .i fun _ => (k : Int))])
  (fun k => [.box (.agg [.lit 0, .nils]), .any, .run 0 1 fun _ => us (tab n (orV (l.take k))), .box (.agg [.i fun _ => (n : Int), .sl 2 0 1 (fun _ => 0) fun _ => n])])
  0 rfl (fun _ => rfl) (Nat.zero_le _) ?_ fun k hk I hI => ?_
 ·cbv
  simp [← tab_zero, show orV [] = fun _ => 0#64 from rfl]
 cbv
 refine ⟨fun _ h4 => ?_, fun _ h4 => ?_⟩
 ·cbv
  have hkk : k < l.length := by simpa using h4
  refine ⟨fun _ => by simp; omega, fun _ => by rw [nct, rls_get _ k hkk]; rfl, ?_⟩
  cbv
  have hsu := orV_succ l k
  have hrl := hall k hkk
  simp only [nct, rls_get _ k hkk, at_r0, at_r1]
  generalize l.getD k (0, []) = r at hsu hrl
  obtain ⟨rn, rr⟩ := r
  simp only at hsu hrl ⊢
  refine E.loop (ι := Nat) (fun i => i ≤ n) (fun i => n - i) (fun i => [(26, .i fun _ => (i : Int))])
   (fun i => [.box (.agg [.lit 0, .nils]), .any, .run 0 1 fun _ => us (tab n fun j => if j < i then orV (l.take (k + 1)) j else orV (l.take k) j), .box (.agg [.i fun _ => (n : Int), .sl 2 0 1 (fun _ => 0) fun _ => n]), .box (encRel rn rr)])
   0 rfl (fun _ => rfl) (Nat.zero_le _) ?_ fun i hi I2 hI2 => ?_
  ·cbv
   simp
  cbv
  refine ⟨fun _ h5 => ?_, fun _ h5 => ?_⟩
  ·cbv
   have hii : i < n := by simp at h5; omega
   refine ⟨fun _ => by simp; omega, fun _ => by rw [nct, us_get _ i (by omega)]; rfl, fun _ => by simp; omega, fun _ => ⟨rfl, by simp; omega⟩, fun _ => by rw [Nat.zero_add, nct, us_get _ i (by simpa using hii)]; rfl, fun _ => by simp; omega,
    fun _ => ⟨rfl, by simp; omega, by rw [Nat.zero_add, nct, us_get _ i (by simpa using hii)]; rfl⟩, ?_⟩
   refine hI2 (i + 1) (by omega) (by omega) ?_
   cbv
   clear hI hI2
   simp only [Nat.zero_add, nct, us_get _ i (show i < (tab n _).length by simpa using hii), us_get rr i (by omega), at_u, upd_u, us_set, us_of, nc, tab_get n _ i hii]
   simp only [implies_true, and_true, true_and, forall_const]
   refine ⟨w64_of (by omega) (by omega), congrArg us (tab_set i _ hii (by simp [hsu i hkk]) fun j _ hj => ?_)⟩
   by_cases h : j < i <;> simp [h] <;> omega
  ·cbv
   refine hI (k + 1) (by omega) (by omega) ?_
   cbv
   clear hI hI2
   have : i = n := by simp at h5; omega
   subst this
   simp
   exact ⟨w64_of (by omega) (by omega), congrArg us (tab_congr fun j hj => by simp [hj])⟩
 ·cbv
  refine hF ?_
  cbv
  clear hI
  have hml : k = l.length := by simp at h4; omega
  subst hml
  simp [orM]
  rw [List.take_of_length_le (by simp)]

theorem alike2 (n m : Int) (a b : List (BitVec 64)) : Alike [(n, a), (m, b)] ↔ Fits n a ∧ Fits m b ∧ m = n := by
 constructor
 ·intro h
  have h0 := h.2 0 (by simp)
  have h1 := h.2 1 (by simp)
  simp at h0 h1
  exact ⟨h0, h1.1, h1.2⟩
 ·rintro ⟨h1, h2, rfl⟩
  refine ⟨by simp, fun i hi => ?_⟩
  have : i = 0 ∨ i = 1 := by simp at hi; omega
  rcases this with rfl | rfl
  ·simp [h1]
  ·simp [h2]
end Go.AL.Rl

namespace Go.AL.Rl
open Go Go.AL Go.Proofs
variable {γ : Nat → Option AV}
set_option maxRecDepth 100000

def thenV (l : List RelV) (k : Nat) : Nat → BitVec 64 := ((l.drop 1).take k).foldl (fun f r j => reachM r.2 (f j)) fun j => (l.getD 0 (0, [])).2.getD j 0
theorem thenV_succ (l : List RelV) (k : Nat) (h : k + 1 < l.length) (j : Nat) : thenV l (k + 1) j = reachM (l.getD (k + 1) (0, [])).2 (thenV l k j) := by
 have h' : k < (l.drop 1).length := by simp; omega
 rw [thenV, List.take_succ_eq_append_getElem h', List.foldl_append]
 simp only [List.foldl_cons, List.foldl_nil, List.getElem_drop, List.getD_eq_getElem?_getD, List.getElem?_eq_getElem h, Option.getD_some, Nat.add_comm 1 k]
 rfl
def thenM (n : Nat) (l : List RelV) : List (BitVec 64) := tab n (thenV l (l.length - 1))
end Go.AL.Rl

namespace Go.AL.Rl
open Go Go.AL Go.Proofs
variable {γ : Nat → Option AV}
set_option maxRecDepth 100000

@[simp] theorem ps_nil : ps [] = .nil := rfl
end Go.AL.Rl

namespace Go.AL.Rl
theorem bit_tab (n : Nat) (f : Nat → BitVec 64) (i j : Nat) : bit (tab n f) i j = (decide (i < n) && (f i).getLsbD j) := by
 unfold bit
 by_cases h : i < n
 ·rw [tab_get n f i h]; simp [h]
 ·rw [List.getD_eq_getElem?_getD, List.getElem?_eq_none (by simp; omega)]; simp [h]
theorem rows_ext {a b : List (BitVec 64)} (hl : a.length = b.length) (h : ∀ i j, i < a.length → (bit a i j = true ↔ bit b i j = true)) : a = b := by
 apply List.ext_getElem hl
 intro i h1 h2
 apply BitVec.eq_of_getLsbD_eq
 intro j hj
 have := h i j h1
 unfold bit at this
 simp only [List.getD_eq_getElem?_getD, List.getElem?_eq_getElem h1, List.getElem?_eq_getElem h2, Option.getD_some] at this
 rw [Bool.eq_iff_iff]; exact this
theorem fits_ext {n : Int} {a b : List (BitVec 64)} (ha : Fits n a) (hb : Fits n b) (h : ∀ i j, bit a i j = true ↔ bit b i j = true) : a = b := by
 obtain ⟨x, e1, e2, _⟩ := fits_len ha
 obtain ⟨y, e3, e4, _⟩ := fits_len hb
 exact rows_ext (by omega) fun i j _ => h i j
theorem one_shl_bit (i j : Nat) (hj : j < 64) : (1#64 <<< i).getLsbD j = decide (i = j) := by
 rw [BitVec.getLsbD_shiftLeft]
 by_cases h1 : j < i
 ·simp [h1]; omega
 ·by_cases h2 : j = i
  ·subst h2; simp [hj]
  ·have : ¬ j - i = 0 := by omega
   simp [h1, hj, BitVec.getLsbD_one, this]; omega
theorem or_bit (l : List RelV) (i j : Nat) : (orV l i).getLsbD j = true ↔ ∃ r ∈ l, bit r.2 i j = true := by
 have key : ∀ (l : List RelV) (a : BitVec 64), (l.foldl (fun a r => a ||| r.2.getD i 0) a).getLsbD j = true ↔ a.getLsbD j = true ∨ ∃ r ∈ l, bit r.2 i j = true := by
  intro l
  induction l with
  | nil => simp
  | cons r l ih =>
   intro a
   rw [List.foldl_cons, ih, BitVec.getLsbD_or, Bool.or_eq_true]
   simp only [List.mem_cons, exists_eq_or_imp]
   unfold bit
   rw [or_assoc]
 unfold orV
 rw [key]
 simp
theorem bit_or {n : Nat} {l : List RelV} (i j : Nat) : bit (orM n l) i j = true ↔ i < n ∧ ∃ r ∈ l, bit r.2 i j = true := by
 unfold orM
 rw [bit_tab, Bool.and_eq_true, or_bit]
 simp
theorem fits_or {n : Nat} (hn : n ≤ 64) {l : List RelV} (h : ∀ r ∈ l, Fits n r.2) : Fits n (orM n l) := by
 refine fits_mk hn (by simp [orM]) fun i j hb => ?_
 obtain ⟨_, r, hr, h2⟩ := (bit_or i j).1 hb
 have h3 := (fits_bits (h r hr) h2).2
 obtain ⟨k, e1, e2, _⟩ := fits_len (h r hr)
 omega
theorem bit_or2 {n : Nat} {a b : List (BitVec 64)} (ha : Fits n a) (hb : Fits n b) (i j : Nat) : bit (orM n [((n : Int), a), ((n : Int), b)]) i j = true ↔ bit a i j = true ∨ bit b i j = true := by
 rw [bit_or]
 simp only [List.mem_cons, List.not_mem_nil, or_false, exists_eq_or_imp, exists_eq_left]
 constructor
 ·rintro ⟨_, h⟩; exact h
 ·intro h
  refine ⟨?_, h⟩
  obtain ⟨k, e1, e2, _⟩ := fits_len ha
  obtain ⟨k', e1', e2', _⟩ := fits_len hb
  rcases h with h | h
  ·have := (fits_bits ha h).1; omega
  ·have := (fits_bits hb h).1; omega

theorem thenV_one (a b : RelV) (j : Nat) : thenV [a, b] 1 j = reachM b.2 (a.2.getD j 0) := by simp [thenV]
theorem bit_then2 {n : Nat} {a b : List (BitVec 64)} (ha : Fits n a) (i j : Nat) : bit (thenM n [((n : Int), a), ((n : Int), b)]) i j = true ↔ ∃ k, bit a i k = true ∧ bit b k j = true := by
 unfold thenM
 rw [bit_tab]
 rw [List.length_cons, List.length_cons, List.length_nil, show 0 + 1 + 1 - 1 = 1 from rfl, thenV_one, Bool.and_eq_true, bit_reach]
 constructor
 ·rintro ⟨_, h⟩; exact h
 ·rintro ⟨k, h1, h2⟩
  obtain ⟨k0, e1, e2, _⟩ := fits_len ha
  have := (fits_bits ha h1).1
  exact ⟨by simp; omega, k, h1, h2⟩
theorem fits_then2 {n : Nat} {a b : List (BitVec 64)} (ha : Fits n a) (hb : Fits n b) : Fits n (thenM n [((n : Int), a), ((n : Int), b)]) := by
 obtain ⟨k0, e1, e2, hk⟩ := fits_len ha
 refine fits_mk (by omega) (by simp [thenM]) fun i j h => ?_
 obtain ⟨k, _, h2⟩ := (bit_then2 ha i j).1 h
 obtain ⟨k1, e3, e4, _⟩ := fits_len hb
 have := (fits_bits hb h2).2
 omega
theorem tIn_get (i : Nat) (row : BitVec 64) (acc : List (BitVec 64)) (p : Nat) (hp : p < acc.length) : ∀ q, (tIn i row q acc).getD p 0 = if p < q ∧ row.getLsbD p = true then acc.getD p 0 ||| 1#64 <<< i else acc.getD p 0
 | 0 => by simp [tIn]
 | q + 1 => by
  have ih := tIn_get i row acc p hp q
  rw [tIn_succ]
  by_cases hq : row.getLsbD q = true
  ·rw [if_pos hq]
   by_cases hpq : p = q
   ·subst hpq
    rw [getD_set_self _ _ _ (by rw [tIn_len]; exact hp), ih, if_neg (by omega), if_pos ⟨by omega, hq⟩]
   ·rw [getD_set_ne' _ _ _ _ (Ne.symm hpq), ih]
    by_cases h : p < q
    ·simp [h, show p < q + 1 by omega]
    ·rw [if_neg (fun e => h e.1), if_neg (fun e => by omega)]
  ·rw [if_neg hq, ih]
   by_cases hpq : p = q
   ·subst hpq
    rw [if_neg (by omega), if_neg (fun e => hq e.2)]
   ·by_cases h : p < q
    ·simp [h, show p < q + 1 by omega]
    ·rw [if_neg (fun e => h e.1), if_neg (fun e => by omega)]
theorem bit_tOut (rows : List (BitVec 64)) (hl : rows.length ≤ 64) (p : Nat) (hp : p < rows.length) (i : Nat) : ∀ m, m ≤ rows.length → (bit (tOut m rows) p i = true ↔ i < m ∧ bit rows i p = true)
 | 0, _ => by
  unfold bit
  simp [tOut, hp]
 | m + 1, hm => by
  have ih := bit_tOut rows hl p hp i m (by omega)
  unfold bit at ih ⊢
  rw [tOut_succ, tIn_get m _ _ p (by rw [tOut_len]; exact hp)]
  by_cases hb : (rows.getD m 0).getLsbD p = true
  ·rw [if_pos ⟨by omega, hb⟩, BitVec.getLsbD_or, Bool.or_eq_true, ih]
   by_cases hi : i < 64
   ·rw [one_shl_bit m i hi]
    constructor
    ·rintro (h | h)
     ·exact ⟨by omega, h.2⟩
     ·have : m = i := by simpa using h
      subst this; exact ⟨by omega, hb⟩
    ·rintro ⟨h1, h2⟩
     by_cases h : i = m
     ·subst h; right; simp
     ·left; exact ⟨by omega, h2⟩
   ·rw [BitVec.getLsbD_of_ge (1#64 <<< m) _ (by omega)]
    constructor
    ·rintro (h | h)
     ·omega
     ·cases h
    ·intro h; omega
  ·rw [if_neg (fun e => hb e.2), ih]
   constructor
   ·rintro ⟨h1, h2⟩; exact ⟨by omega, h2⟩
   ·rintro ⟨h1, h2⟩
    refine ⟨?_, h2⟩
    by_cases h : i = m
    ·subst h; exact absurd h2 hb
    ·omega
theorem bit_turn {n : Int} {rows : List (BitVec 64)} (hf : Fits n rows) (i j : Nat) : bit (turnM rows) i j = true ↔ bit rows j i = true := by
 have h64 := (fits_n hf).2
 by_cases hi : i < rows.length
 ·unfold turnM
  rw [bit_tOut rows h64 i hi j rows.length (Nat.le_refl _)]
  exact ⟨fun h => h.2, fun h => ⟨(fits_bits hf h).1, h⟩⟩
 ·constructor
  ·intro h
   rw [bit_out (by unfold turnM; rw [tOut_len]; omega)] at h; cases h
  ·intro h
   have := (fits_bits hf h).2; omega
theorem fits_turn {n : Nat} {rows : List (BitVec 64)} (hf : Fits n rows) : Fits n (turnM rows) := by
 obtain ⟨k0, e1, e2, hk⟩ := fits_len hf
 refine fits_mk (by omega) (by unfold turnM; rw [tOut_len]; omega) fun i j h => ?_
 have := (fits_bits hf ((bit_turn hf i j).1 h)).1
 omega
end Go.AL.Rl

namespace Go.AL.Rl
theorem countP_lt {α : Type} (p q : α → Bool) : ∀ (l : List α), (∀ x ∈ l, p x = true → q x = true) → (∃ x ∈ l, q x = true ∧ p x = false) → l.countP p < l.countP q
 | [], _, h => by obtain ⟨x, hx, _⟩ := h; cases hx
 | a :: l, h1, h2 => by
  have hle : ∀ l : List α, (∀ x ∈ l, p x = true → q x = true) → l.countP p ≤ l.countP q := fun l h => by
   induction l with
   | nil => simp
   | cons b l ih =>
    have := ih fun x hx => h x (by simp [hx])
    have hb := h b (by simp)
    simp only [List.countP_cons]
    cases hp : p b <;> cases hq : q b <;> simp_all <;> omega
  have hl := hle l fun x hx => h1 x (by simp [hx])
  have ha := h1 a (by simp)
  simp only [List.countP_cons]
  obtain ⟨x, hx, hx1, hx2⟩ := h2
  rcases List.mem_cons.1 hx with rfl | hx
  ·rw [hx1, hx2]; simp; omega
  ·have := countP_lt p q l (fun y hy => h1 y (by simp [hy])) ⟨x, hx, hx1, hx2⟩
   cases hp : p a <;> cases hq : q a <;> simp_all <;> omega

instance (ahead : List (BitVec 64)) (left : BitVec 64) : DecidablePred (cand ahead left) := fun _ => by unfold cand; infer_instance

section
variable {n : Int} {rows : List (BitVec 64)} (hf : Fits n rows)
include hf
end
end Go.AL.Rl

namespace Go.AL.Rl
open Go Go.AL Go.Proofs
variable {γ : Nat → Option AV}
set_option maxRecDepth 100000

theorem alike3 (n : Int) (a b c : List (BitVec 64)) (ha : Fits n a) (hb : Fits n b) (hc : Fits n c) : Alike [(n, a), (n, b), (n, c)] := by
 refine ⟨by simp, fun i hi => ?_⟩
 have : i = 0 ∨ i = 1 ∨ i = 2 := by simp at hi; omega
 rcases this with rfl | rfl | rfl
 ·simp [ha]
 ·simp [hb]
 ·simp [hc]
theorem or2 (n : Nat) (a b : List (BitVec 64)) (ha : Fits n a) (hb : Fits n b) : Pure Tryz.prog γ false 63 [.vs 2 fun _ => rls [((n : Int), a), ((n : Int), b)]] (encRel n (orM n [((n : Int), a), ((n : Int), b)])) :=
 or_yes _ (by simp) ((alike2 _ _ _ _).2 ⟨ha, hb, rfl⟩) n rfl
theorem fits_or2 {n : Nat} {a b : List (BitVec 64)} (ha : Fits n a) (hb : Fits n b) : Fits n (orM n [((n : Int), a), ((n : Int), b)]) :=
 fits_or (by obtain ⟨k, e, _, h⟩ := fits_len ha; omega) (by simp [ha, hb])
end Go.AL.Rl

namespace Go.AL
open Go Go.RowKit

def citems : Code → List Code
 | .seq x y => citems x ++ citems y
 | c => [c]
def vcl (τ : Nat → TI) (γ : Nat → Option AV) (C : EC) (D : Array Oper → (St → Prop) → St → Prop) (W : Code → (Exit → St → Prop) → St → Prop) : List Code → (Exit → St → Prop) → St → Prop
 | [], Q, A => Q .normal A
 | c :: r, Q, A => vc τ γ C D W c (thenE (fun A => vcl τ γ C D W r Q A) Q) A
/-- a state of which only this is told -/
def told (n : Nat) (u : List (Nat × AV)) (h : List Blk) : St := ⟨n, sets u (havoc (List.range n) .nil), h⟩

section
variable {P : Program} {γ : Nat → Option AV}

/-- THE CODE's, where only the first 'n' blocks are kept in view -/
def AWPr (P : Program) (γ : Nat → Option AV) (n : Nat) (c : Code) (Q : Exit → St → Prop) (A : St) : Prop :=
 ∀ B S ρ a w, Sim B S γ ρ A a w → c.wp P (fun e a' w' => ∃ S' ρ' A', Q e A' ∧ Sim B S' γ ρ' A' a' w' ∧ Ext B S (ρ.take n) w S' ρ' w') a w
theorem Ext.takeL {B n : Nat} {S S' : Nat → Prop} {ρ ρ' : List Loc} {w w' : World} (h : Ext B S ρ w S' ρ' w') : Ext B S (ρ.take n) w S' ρ' w' :=
 ⟨h.fr, h.below, h.sub, h.same, fun b loc hb => h.locs b loc (get_take hb).2, h.grow⟩
theorem Ext.transR {B n : Nat} {S S' S'' : Nat → Prop} {ρ ρ' ρ'' : List Loc} {w w' w'' : World} (h : Ext B S (ρ.take n) w S' ρ' w') (k : Ext B S' (ρ'.take n) w' S'' ρ'' w'') : Ext B S (ρ.take n) w S'' ρ'' w'' := by
 have h' : Ext B S (ρ.take n) w S' (ρ'.take n) w' := ⟨h.fr, h.below, h.sub, h.same, fun b loc hb => by
  obtain ⟨l', h1, h2⟩ := h.locs b loc hb
  exact ⟨l', take_get h1 (get_take hb).1, h2⟩, h.grow⟩
 exact h'.trans k
theorem AWPr.of {n : Nat} {c : Code} {Q : Exit → St → Prop} {A : St} (h : AWP P γ c Q A) : AWPr P γ n c Q A :=
 fun B S ρ a w hs => wp_mono (h B S ρ a w hs) fun _ _ _ ⟨S', ρ', A', h1, h2, h3⟩ => ⟨S', ρ', A', h1, h2, h3.takeL⟩
theorem AWPr.to {c : Code} {Q : Exit → St → Prop} {A : St} (h : AWPr P γ A.h.length c Q A) : AWP P γ c Q A :=
 fun B S ρ a w hs => wp_mono (h B S ρ a w hs) fun _ _ _ ⟨S', ρ', A', h1, h2, h3⟩ => ⟨S', ρ', A', h1, h2, by rwa [List.take_of_length_le (by rw [hs.heap.len]; exact Nat.le_refl _)] at h3⟩
theorem AWPr.mono {n : Nat} {c : Code} {Q Q' : Exit → St → Prop} {A : St} (h : AWPr P γ n c Q A) (hq : ∀ e A, Q e A → Q' e A) : AWPr P γ n c Q' A :=
 fun B S ρ a w hs => wp_mono (h B S ρ a w hs) fun _ _ _ ⟨S', ρ', A', h1, h2, h3⟩ => ⟨S', ρ', A', hq _ _ h1, h2, h3⟩
theorem AWPr.seq {n : Nat} {x y : Code} {Q : Exit → St → Prop} {A : St} (h : AWPr P γ n x (thenE (fun A => AWPr P γ n y Q A) Q) A) : AWPr P γ n (.seq x y) Q A := by
 intro B S ρ a w hs
 refine wp_seq (wp_mono (h B S ρ a w hs) fun e a' w' ⟨S', ρ', A', h1, h2, h3⟩ => ?_)
 cases e with
 | normal => exact wp_mono (h1 B S' ρ' a' w' h2) fun e a'' w'' ⟨S'', ρ'', A'', k1, k2, k3⟩ => ⟨S'', ρ'', A'', k1, k2, h3.transR k3⟩
 | _ => exact ⟨S', ρ', A', h1, h2, h3⟩
/-- to know less -/
theorem AWPr.weak {n : Nat} {c : Code} {Q : Exit → St → Prop} {A A' : St} (h : AWPr P γ n c Q A) (hn : n ≤ A.h.length) (hl : leSt A.h.length A A') : AWPr P γ n c Q A' := by
 intro B S ρ a w hs
 obtain ⟨hs0, hg0⟩ := hs.le hl rfl
 refine wp_mono (h B _ _ a w hs0) fun e a' w' ⟨S', ρ', A'', q1, q2, q3⟩ => ⟨S', ρ', A'', q1, q2, ?_⟩
 rw [List.take_take, Nat.min_eq_left hn] at q3
 have hx0 : Ext B S (ρ.take n) w (SF A.h.length S ρ) (ρ.take n) w := ⟨Fr.refl w, fun _ _ => rfl, fun k hk => .inl hk, fun _ _ => rfl, LocsUp.refl _, hg0⟩
 exact hx0.trans q3

def AWPl (P : Program) (γ : Nat → Option AV) (n : Nat) : List Code → (Exit → St → Prop) → St → Prop
 | [], Q, A => Q .normal A
 | c :: r, Q, A => AWPr P γ n c (thenE (fun A => AWPl P γ n r Q A) Q) A
theorem AWPl.app {n : Nat} : ∀ {xs ys : List Code} {Q : Exit → St → Prop} {A : St}, AWPl P γ n xs (thenE (fun A => AWPl P γ n ys Q A) Q) A → AWPl P γ n (xs ++ ys) Q A
 | [], ys, Q, A, h => h
 | x :: xs, ys, Q, A, h => AWPr.mono h fun e A' h' => by
  cases e with
  | normal => exact AWPl.app h'
  | _ => exact h'
theorem AWPl.unapp {n : Nat} : ∀ {xs ys : List Code} {Q : Exit → St → Prop} {A : St}, AWPl P γ n (xs ++ ys) Q A → AWPl P γ n xs (thenE (fun A => AWPl P γ n ys Q A) Q) A
 | [], ys, Q, A, h => h
 | x :: xs, ys, Q, A, h => AWPr.mono h fun e A' h' => by
  cases e with
  | normal => exact AWPl.unapp h'
  | _ => exact h'
theorem AWPl.mono {n : Nat} : ∀ {xs : List Code} {Q Q' : Exit → St → Prop} {A : St}, AWPl P γ n xs Q A → (∀ e A, Q e A → Q' e A) → AWPl P γ n xs Q' A
 | [], Q, Q', A, h, hq => hq _ _ h
 | x :: xs, Q, Q', A, h, hq => AWPr.mono h fun e A' h' => by
  cases e with
  | normal => exact AWPl.mono h' hq
  | _ => exact hq _ _ h'
theorem AWPl.one {n : Nat} {c : Code} {Q : Exit → St → Prop} {A : St} (h : AWPl P γ n [c] Q A) : AWPr P γ n c Q A := AWPr.mono h fun e A' h' => by cases e <;> exact h'
theorem AWPr.of_items {n : Nat} : ∀ (c : Code) {Q : Exit → St → Prop} {A : St}, AWPl P γ n (citems c) Q A → AWPr P γ n c Q A
 | .seq x y, Q, A, h => by
  refine AWPr.seq ?_
  have := AWPl.unapp (xs := citems x) (ys := citems y) h
  exact AWPr.of_items x (this.mono fun e A' h' => by
   cases e with
   | normal => exact AWPr.of_items y h'
   | _ => exact h')
 | .skip, Q, A, h => h.one
 | .region .., Q, A, h => h.one
 | .cond .., Q, A, h => h.one
 | .loop .., Q, A, h => h.one
 | .block .., Q, A, h => h.one
 | .exit .., Q, A, h => h.one
 | .ret, Q, A, h => h.one
 | .scope .., Q, A, h => h.one
 | .goto .., Q, A, h => h.one
 | .label .., Q, A, h => h.one
 | .refuse .., Q, A, h => h.one
 | .rangeFunc .., Q, A, h => h.one
theorem AWPl.weak {n : Nat} {l : List Code} {Q : Exit → St → Prop} {A A' : St} (h : AWPl P γ n l Q A) (hl0 : l ≠ []) (hn : n ≤ A.h.length) (hl : leSt A.h.length A A') : AWPl P γ n l Q A' := by
 cases l with
 | nil => exact absurd rfl hl0
 | cons c r => exact AWPr.weak h hn hl

theorem AWPr.block {n id : Nat} {c : Code} {Q : Exit → St → Prop} {A : St} (h : AWPr P γ n c (inBlk id Q) A) : AWPr P γ n (.block id c) Q A := by
 intro B S ρ a w hs
 refine wp_block (wp_mono (h B S ρ a w hs) fun e a' w' ⟨S', ρ', A', h1, h2, h3⟩ => ?_)
 cases e with
 | exit id' =>
  simp only [Exit.inBlock]
  simp only [inBlk] at h1
  split at h1
  ·rename_i e; rw [if_pos e]; exact ⟨S', ρ', A', h1, h2, h3⟩
  ·rename_i e; rw [if_neg e]; exact ⟨S', ρ', A', h1, h2, h3⟩
 | _ => exact ⟨S', ρ', A', h1, h2, h3⟩
/-- a block that is cut within -/
theorem AWPl.block {n id : Nat} {c : Code} {r : List Code} {Q : Exit → St → Prop} {A : St} (h : AWPl P γ n (citems c) (inBlk id (thenE (fun A => AWPl P γ n r Q A) Q)) A) : AWPl P γ n (.block id c :: r) Q A :=
 AWPr.block (AWPr.of_items c h)

variable {C : EC} {CQ : List Blk → QC} {T : Nat → TI} {D : Array Oper → (St → Prop) → St → Prop} {W : Code → (Exit → St → Prop) → St → Prop}
theorem Env.bl (E : Env P γ C CQ T D W) {n : Nat} : ∀ {l : List Code} {Q : Exit → St → Prop} {A : St}, vcl T γ C D W l Q A → AWPl P γ n l Q A
 | [], Q, A, h => h
 | c :: r, Q, A, h => AWPr.mono (AWPr.of (E.b h)) fun e A' h' => by
  cases e with
  | normal => exact E.bl h'
  | _ => exact h'
/-- A CUT behind the first 'k' items: what holds there, of which the rest is gone through. -/
theorem Env.cut (E : Env P γ C CQ T D W) {n : Nat} {l : List Code} {Q : Exit → St → Prop} {A : St} (k : Nat) (A2 : St) (hk0 : (l.drop k).isEmpty = false) (hn : n ≤ A2.h.length)
  (h1 : ∀ I : St → Prop, (∀ {A'}, leSt A2.h.length A2 A' → I A') → vcl T γ C D W (l.take k) (thenE I Q) A) (h2 : AWPl P γ n (l.drop k) Q A2) : AWPl P γ n l Q A := by
 have hk : l.drop k ≠ [] := fun e => by rw [e] at hk0; cases hk0
 rw [← List.take_append_drop k l]
 exact AWPl.app ((E.bl (h1 (fun A' => AWPl P γ n (l.drop k) Q A') fun hl => h2.weak hk hn hl)).mono fun e A' h => by cases e <;> exact h)
/-- a cut of many cases -/
theorem Env.cutI (E : Env P γ C CQ T D W) {n : Nat} {l : List Code} {Q : Exit → St → Prop} {A : St} {ι : Type} (k : Nat) (ok : ι → Prop) (A2 : ι → St) (hk0 : (l.drop k).isEmpty = false) (hn : ∀ j, n ≤ (A2 j).h.length)
  (h1 : ∀ I : St → Prop, (∀ {A'} j, ok j → leSt (A2 j).h.length (A2 j) A' → I A') → vcl T γ C D W (l.take k) (thenE I Q) A) (h2 : ∀ j, ok j → AWPl P γ n (l.drop k) Q (A2 j)) : AWPl P γ n l Q A := by
 have hk : l.drop k ≠ [] := fun e => by rw [e] at hk0; cases hk0
 rw [← List.take_append_drop k l]
 exact AWPl.app ((E.bl (h1 (fun A' => AWPl P γ n (l.drop k) Q A') fun j hj hl => (h2 j hj).weak hk (hn j) hl)).mono fun e A' h => by cases e <;> exact h)

theorem AWP.goL {ty : Program → Nat → TI} (hτ : ∀ t, ty P t = tiOf P t) (hm : P.follows .mixedOrders = true) {c : Code} {Q : (Nat → TI) → Exit → St → Prop} {A : St}
  (h : ∀ (P' : Program) (C : EC) (CQ : List Blk → QC) (D : Array Oper → (St → Prop) → St → Prop) (W : Code → (Exit → St → Prop) → St → Prop), Env P γ C CQ (ty P') D W → AWPl P γ A.h.length (citems c) (Q (ty P')) A) : AWP P γ c (Q (ty P)) A :=
 AWPr.to (AWPr.of_items c (h P _ _ _ _ (Env.top hτ hm)))
theorem Pure.goL {ty : Program → Nat → TI} (hτ : ∀ t, ty P t = tiOf P t) (hm : P.follows .mixedOrders = true) {f : FuncId} {fn : Func} {n : Nat} {rs : Array ResultVar}
  (hf : P.funcs[f]? = some fn) (hb : fn.body = some (fn.body.getD .skip)) (hn : fn.ntmps = n) (hr : fn.results = rs) (he : Enters P f) {args : List AV} {y : AV} (hsz : args.length ≤ n ∧ n < 1000)
  (h : ∀ (P' : Program) (C : EC) (CQ : List Blk → QC) (D : Array Oper → (St → Prop) → St → Prop) (W : Code → (Exit → St → Prop) → St → Prop) (F : AV → List Blk → Prop), Env P γ C CQ (ty P') D W → (∀ {v h}, fz h y v → F v h) →
   AWPl P γ 0 (citems (fn.body.getD .skip)) (bodyQ (ty P') rs.toList F) (start n args [])) : Pure P γ false f args y :=
 Pure.of_body hτ hf hb hn (by rw [hr]) he hsz (AWP.goL (Q := fun T => bodyQ T rs.toList fun v h => fz h y v) hτ hm fun P' C CQ D W E => h P' C CQ D W _ E fun h => h)
end
end Go.AL

namespace Go.AL.Rl
open Go Go.AL Go.Proofs
variable {γ : Nat → Option AV}
set_option maxRecDepth 100000

theorem bit_zero (n i j : Nat) : bit (List.replicate n 0#64) i j = false := by
 rw [← tab_zero, bit_tab]; simp
theorem cnt_full_bits (x : BitVec 64) (p : Nat) : ((x >>> p) % 2#64 = 1#64) ↔ x.getLsbD p = true := by
 have e : (x >>> p) % 2#64 = (x >>> p) &&& 1#64 := by
  apply BitVec.eq_of_toNat_eq
  rw [BitVec.toNat_umod, BitVec.toNat_and]
  exact (Nat.and_one_is_mod _).symm
 rw [e]
 constructor
 ·intro h
  have := congrArg (fun y : BitVec 64 => y.getLsbD 0) h
  simpa [BitVec.getLsbD_and, BitVec.getLsbD_ushiftRight] using this
 ·intro h
  apply BitVec.eq_of_getLsbD_eq
  intro i hi
  rw [BitVec.getLsbD_and, BitVec.getLsbD_ushiftRight, BitVec.getLsbD_one]
  by_cases h0 : i = 0
  ·subst h0; simp [h]
  ·simp [h0]

/-- what is sorted is so -/
structure Srt (rows : List (BitVec 64)) (tl : List Nat) : Prop where
 nd : tl.Nodup
 mem : ∀ p, p ∈ tl ↔ p < rows.length
 len : tl.length = rows.length
 ord : ∀ k m (_ : k ≤ m) (hm : m < tl.length), bit rows tl[m] tl[k] = false

end Go.AL.Rl

namespace Go.AL.Rl
open Go Go.AL Go.Proofs
variable {γ : Nat → Option AV}
set_option maxRecDepth 100000

theorem rnone_in (n : Int) (h0 : 0 ≤ n) (h1 : n ≤ 64) : Owns Tryz.prog γ 133 [.i fun _ => n] (.agg [.i fun _ => n, .sl 1 0 1 (fun _ => 0) fun _ => n.toNat]) [.any, .run 0 1 fun _ => us (List.replicate n.toNat 0#64)] := by
 refine Owns.go (ty := ty) ty_eq mo Tryz.func133 rfl Tryz.ntmps133 Tryz.results133 Tryz.call133 (by simp) fun P C CQ D W F E hF => ?_
 cbv
 refine br_f (by simp; omega) ?_
 cbv
 refine br_f (by simp; omega) ?_
 cbv
 refine ⟨fun _ => by simp; omega, ?_⟩
 cbv
 refine hF ?_ ?_
 ·cbv; simp
 ·cbv; simp [us]
theorem rcheck_ok (n : Int) (rows : List (BitVec 64)) : Pure Tryz.prog γ false 122 [encRel n rows] (.i fun _ => checkM n rows) := by
 refine Pure.go (ty := ty) ty_eq mo Tryz.func122 rfl Tryz.ntmps122 Tryz.results122 Tryz.call122 (by simp) fun P C CQ D W F E hF => ?_
 cbv
 refine ⟨fun _ h0 => ?_, fun _ h0 => ?_⟩
 ·cbv
  refine hF ?_
  cbv
  simp at h0
  intro _
  simp [checkM, Fits]; omega
 cbv
 refine ⟨fun _ h1 => ?_, fun _ h1 => ?_⟩
 ·cbv
  refine hF ?_
  cbv
  simp at h0 h1
  intro _
  simp [checkM, Fits]; omega
 cbv
 refine ⟨fun _ h2 => ?_, fun _ h2 => ?_⟩
 ·cbv
  refine hF ?_
  cbv
  simp at h0 h1 h2
  intro _
  simp [checkM, Fits]; omega
 cbv
 obtain ⟨la, rfl⟩ : ∃ la : Nat, n = la := ⟨n.toNat, by simp at h0; omega⟩
 have hl64 : la ≤ 64 := by simp at h1; omega
 have hla : rows.length = la := by simp at h2; omega
 clear h0 h1 h2
 have bad : ∀ i j, la ≤ j → bit rows i j = true → checkM la rows = 2 := fun i j h1 h2 => by
  have : ¬ Fits la rows := fun hf => by have := (fits_bits hf h2).2; omega
  simp [checkM, this]
 refine E.loop (ι := Nat) (fun i => i ≤ la ∧ ∀ k < i, ∀ j, la ≤ j → bit rows k j = false) (fun i => la - i) (fun i => [(3, .i fun _ => (i : Int))]) (fun _ => [.box (encRel la rows)]) 0 rfl (fun _ => rfl) ⟨Nat.zero_le _, by simp⟩ ?_ fun i hi I hI => ?_
 ·cbv
  simp
 cbv
 refine ⟨fun _ h3 => ?_, fun _ h3 => ?_⟩
 ·cbv
  have hii : i < la := by simp at h3; omega
  refine E.loop (ι := Nat) (fun j => la ≤ j ∧ j ≤ 64 ∧ ∀ k < j, la ≤ k → bit rows i k = false) (fun j => 64 - j) (fun j => [(4, .i fun _ => (j : Int))]) (fun _ => [.box (encRel la rows)]) la rfl (fun _ => rfl) ⟨Nat.le_refl _, hl64, fun k h1 h2 => by omega⟩ ?_ fun j hj I2 hI2 => ?_
  ·cbv
   simp
  cbv
  refine ⟨fun _ h4 => ?_, fun _ h4 => ?_⟩
  ·cbv
   have hjj : j < 64 := by simp at h4; omega
   have hsh : (BitVec.ofInt 64 (j : Int)).toNat = j := by simp; omega
   refine ⟨fun _ => by simp; omega, fun _ => by rw [nct, us_get _ i (by omega)]; rfl, fun _ => by simp, ?_⟩
   simp only [nct, us_get _ i (show i < rows.length by omega), at_u, nc, hsh]
   have hbit := cnt_full_bits (rows.getD i 0) j
   refine ⟨fun _ h5 => ?_, fun _ h5 => ?_⟩
   ·cbv
    refine hF ?_
    cbv
    intro _
    exact (bad i j hj.1 (hbit.1 (by simpa using h5))).symm
   ·cbv
    refine hI2 (j + 1) ⟨by omega, by omega, fun k h1 h2 => ?_⟩ (by omega) ?_
    ·by_cases e : k = j
     ·subst e
      cases hb : bit rows i k with
      | false => rfl
      | true => exact absurd (hbit.2 hb) (by simpa using h5)
     ·exact hj.2.2 k (by omega) h2
    ·cbv
     clear hI hI2
     simp
     exact w64_of (by omega) (by omega)
  ·cbv
   refine hI (i + 1) ⟨by omega, fun k hk j' hj' => ?_⟩ (by omega) ?_
   ·by_cases e : k = i
    ·subst e
     have hj64 : j = 64 := by simp at h4; omega
     by_cases h64 : j' < 64
     ·exact hj.2.2 j' (by omega) hj'
     ·unfold bit; exact BitVec.getLsbD_of_ge _ _ (by omega)
    ·exact hi.2 k (by omega) j' hj'
   ·cbv
    clear hI hI2
    simp
    exact w64_of (by omega) (by omega)
 ·cbv
  refine hF ?_
  cbv
  clear hI
  intro _
  have : i = la := by simp at h3; omega
  subst this
  have : Fits i rows := fits_mk hl64 hla fun k j hb => by
   rcases Nat.lt_or_ge j i with h | h
   ·exact h
   ·rcases Nat.lt_or_ge k i with h' | h'
    ·rw [hi.2 k h' j h] at hb; cases hb
    ·rw [bit_out (by omega)] at hb; cases hb
  simp [checkM, this]

theorem rhas_ok (n : Int) (rows : List (BitVec 64)) (i j : Int) : Pure Tryz.prog γ false 98 [encRel n rows, .i fun _ => i, .i fun _ => j] (.b fun _ => hasM n rows i j) := by
 refine Pure.go (ty := ty) ty_eq mo Tryz.func98 rfl Tryz.ntmps98 Tryz.results98 Tryz.call98 (by simp) fun P C CQ D W F E hF => ?_
 cbv
 refine E.c (SCalls.of_le (rcheck_ok n rows) ?_ ?_)
 ·(cbv;(try simp only [nc] at *);first|done|(simp;done)|(simp (disch:=(first|omega|(simp only [lnS,zA,zM,zG,zP];omega))) only [nc,nct,w64_of,zT,zZ,zM,rdS,at_agg,bofZ,bof1,bof0,zC,zS,implies_true,and_true,true_and,forall_const];first|done|omega|(refine ⟨?_,?_⟩<;>omega))|(simp (disch:=(first|omega|(simp only [lnS,zA,zM,zG,zP];omega))) [nc,nct,w64_of,zT,zZ,zM,rdS,at_agg,bofZ,bof1,bof0,zC,zS];done))
 cbv
 by_cases hf : Fits n rows
 case neg =>
  refine br_f (by simp [checkM, hf]) ?_
  cbv
  refine hF ?_
  cbv
  simp [hasM, hf]
 refine br_t (by simp [checkM, hf]) ?_
 cbv
 refine ⟨fun _ h1 => ?_, fun _ h1 => ?_⟩
 rotate_left
 ·cbv
  refine hF ?_
  cbv
  intro _
  simp at h1
  simp [hasM]; omega
 cbv
 refine ⟨fun _ h2 => ?_, fun _ h2 => ?_⟩
 rotate_left
 ·cbv
  refine hF ?_
  cbv
  intro _
  simp at h1 h2
  simp [hasM]; omega
 cbv
 refine ⟨fun _ h3 => ?_, fun _ h3 => ?_⟩
 rotate_left
 ·cbv
  refine hF ?_
  cbv
  intro _
  simp at h1 h2 h3
  simp [hasM]; omega
 cbv
 refine ⟨fun _ h4 => ?_, fun _ h4 => ?_⟩
 rotate_left
 ·cbv
  refine hF ?_
  cbv
  intro _
  simp at h1 h2 h3 h4
  simp [hasM]; omega
 cbv
 obtain ⟨len, rfl, hl, hl2⟩ := fits_len hf
 simp at h1 h2 h3 h4
 obtain ⟨p, rfl⟩ : ∃ p : Nat, i = p := ⟨i.toNat, by omega⟩
 obtain ⟨q, rfl⟩ : ∃ q : Nat, j = q := ⟨j.toNat, by omega⟩
 have hp : p < rows.length := by omega
 have h5 : (p : Int) < len ∧ (q : Int) < len := ⟨h2, h4⟩
 have hsh : (BitVec.ofInt 64 (q : Int)).toNat = q := by simp; omega
 refine ⟨fun _ => by simp; omega, fun _ => by rw [nct, us_get _ p hp]; rfl, fun _ => by simp, ?_⟩
 cbv
 refine hF ?_
 cbv
 intro _
 simp only [nct, us_get _ p hp, at_u, nc, hsh]
 have hb := cnt_full_bits (rows.getD p 0) q
 simp only [hasM, hf, h5, Int.toNat_natCast]
 unfold bit
 simp
 rw [Bool.eq_iff_iff, decide_eq_true_iff]
 simpa using hb

theorem rof_in (n : Int) (l : List (Int × Int)) (h0 : 0 ≤ n) (h1 : n ≤ 64) (hl : l.length < 4611686018427387904) : Pure Tryz.prog γ false 120 [.i fun _ => n, .vs 2 fun _ => ps l] (encRel n (ofTo n l l.length)) := by
 refine Pure.go (ty := ty) ty_eq mo Tryz.func120 rfl Tryz.ntmps120 Tryz.results120 Tryz.call120 (by simp) fun P C CQ D W F E hF => ?_
 cbv
 refine E.c (SCalls.of_owns (rnone_in n h0 h1) ?_ ?_)
 ·cbv; all_goals simp
 cbv
 obtain ⟨len, hlen⟩ : ∃ len : Nat, n = len := ⟨n.toNat, by omega⟩
 subst hlen
 simp only [Int.toNat_natCast, nc]
 have hln : len ≤ 64 := by omega
 refine E.loop (ι := Nat) (fun m => m ≤ l.length) (fun m => l.length - m) (fun m => [(6, .i fun _ => (m : Int))])
  (fun m => [.box (.agg [.lit 0, .nils]), .any, .run 0 1 fun _ => us (ofTo len l m), .box (.agg [.i fun _ => len, .sl 2 0 1 (fun _ => 0) fun _ => len])])
  0 rfl (fun _ => rfl) (Nat.zero_le _) ?_ fun m hm I hI => ?_
 ·cbv
  simp [ofTo]
 cbv
 refine ⟨fun _ h4 => ?_, fun _ h4 => ?_⟩
 ·cbv
  have hmr : m < l.length := by simp at h4; omega
  refine E.d 12 (by kernel_rfl) ?_
  cbv
  refine ⟨fun _ => by simp; omega, fun _ => by rw [nct, ps_get _ m hmr]; rfl, fun _ => by simp; omega, fun _ => by rw [nct, ps_get _ m hmr]; rfl, ?_⟩
  have hs := ofTo_succ len l m hmr
  simp only [nct, ps_get _ m hmr, at_p0, at_p1]
  generalize l.getD m (0, 0) = p at hs ⊢
  have hlw : (ofTo len l m).length = len := by rw [ofTo_len]; simp
  have no : ¬ (0 ≤ p.1 ∧ p.1 < len ∧ 0 ≤ p.2 ∧ p.2 < len) → ofTo len l (m + 1) = ofTo len l m := fun h => by rw [hs, ofStep, if_neg h]
  refine ⟨fun _ h5 => ?_, fun _ h5 => ?_⟩
  rotate_left
  ·cbv
   refine hI (m + 1) (by omega) (by omega) ?_
   cbv
   clear hI
   simp at h5
   simp
   exact ⟨w64_of (by omega) (by omega), by rw [no (by omega)]⟩
  cbv
  simp at h5
  refine ⟨fun _ h6 => ?_, fun _ h6 => ?_⟩
  rotate_left
  ·cbv
   refine hI (m + 1) (by omega) (by omega) ?_
   cbv
   clear hI
   simp at h6
   simp
   refine ⟨w64_of (by omega) (by omega), ?_⟩
   simp only [nc] at no
   rw [no (fun h => absurd h.2.1 (by simpa using h6))]
  cbv
  simp at h6
  refine ⟨fun _ h7 => ?_, fun _ h7 => ?_⟩
  rotate_left
  ·cbv
   refine hI (m + 1) (by omega) (by omega) ?_
   cbv
   clear hI
   simp at h7
   simp
   exact ⟨w64_of (by omega) (by omega), by rw [no (by omega)]⟩
  cbv
  simp at h7
  refine ⟨fun _ h8 => ?_, fun _ h8 => ?_⟩
  rotate_left
  ·cbv
   refine hI (m + 1) (by omega) (by omega) ?_
   cbv
   clear hI
   simp at h8
   simp
   refine ⟨w64_of (by omega) (by omega), ?_⟩
   simp only [nc] at no
   rw [no (fun h => absurd h.2.2.2 (by simpa using h8))]
  cbv
  simp at h8
  refine E.d 12 (by kernel_rfl) ?_
  cbv
  simp only [nc] at hlw h5 h6 h7 h8
  have hp : p.1.toNat < (ofTo len l m).length := by omega
  have hsh : (BitVec.ofInt 64 p.2).toNat = p.2.toNat := by simp; omega
  refine ⟨fun _ => by simp only [nc]; omega, fun _ => ⟨rfl, by simp; omega⟩, fun _ => by rw [Nat.zero_add, us_get _ _ hp]; rfl, fun _ => by simp only [nc]; omega, fun _ => ⟨rfl, by simp; omega, by rw [Nat.zero_add, us_get _ _ hp]; rfl⟩, ?_⟩
  refine hI (m + 1) (by omega) (by omega) ?_
  cbv
  clear hI
  simp only [nc] at hs h6 h8
  simp only [Nat.zero_add, nc, us_get _ _ hp, at_u, upd_u, us_set, us_of, hsh]
  simp only [implies_true, and_true, true_and, forall_const]
  refine ⟨w64_of (by omega) (by omega), ?_⟩
  rw [hs, ofStep, if_pos ⟨h5, h6, h7, h8⟩]
  rfl
 ·cbv
  refine hF ?_
  cbv
  clear hI
  have hml : m = l.length := by simp at h4; omega
  have hlw : (ofTo len l l.length).length = len := by rw [ofTo_len]; simp
  simp [hml]
  exact ⟨by omega, by rw [List.take_of_length_le (by simp; omega)]⟩
end Go.AL.Rl

namespace Go.AL.Rl
open Go Go.AL Go.Proofs
variable {γ : Nat → Option AV}
set_option maxRecDepth 100000

theorem ralike_ok (l : List RelV) (hl : l.length < 4611686018427387904) : Pure Tryz.prog γ false 132 [.vs 2 fun _ => rls l] (.b fun _ => decide (Alike l)) := by
 refine Pure.go (ty := ty) ty_eq mo Tryz.func132 rfl Tryz.ntmps132 Tryz.results132 Tryz.call132 (by simp) fun P C CQ D W F E hF => ?_
 cbv
 refine E.loop (ι := Nat) (fun m => m ≤ l.length ∧ ∀ k < m, Fits (l.getD k (0, [])).1 (l.getD k (0, [])).2 ∧ (l.getD k (0, [])).1 = (l.getD 0 (0, [])).1) (fun m => l.length - m) (fun m => [(3, .i fun _ => (m : Int))])
  (fun m => []) 0 rfl (fun _ => rfl) ⟨Nat.zero_le _, by simp⟩ ?_ fun m hm I hI => ?_
 ·cbv
  simp
 cbv
 refine ⟨fun _ h4 => ?_, fun _ h4 => ?_⟩
 ·cbv
  have hmm : m < l.length := by simp at h4; omega
  refine E.d 18 (by kernel_rfl) ?_
  cbv
  refine ⟨fun _ => by simp; omega, fun _ => by rw [nct, rls_get _ m hmm]; rfl, ?_⟩
  simp only [nct, rls_get _ m hmm, at_r0, at_r1]
  generalize hv : l.getD m (0, []) = v
  obtain ⟨vn, vr⟩ := v
  simp only
  have hfit : l.getD m (0, []) = (vn, vr) := hv
  refine E.q (QCalls.of_le (rcheck_ok vn vr) ?_ ?_)
  ·cbv; all_goals simp
  cbv
  refine ⟨fun _ h5 => ?_, fun _ h5 => ?_⟩
  ·cbv
   refine hF ?_
   cbv
   intro _
   clear hI
   have : ¬ Alike l := fun h => by
    have := (h.2 m hmm).1
    rw [hfit] at this
    simp [checkM, this] at h5
   simp [this]
  cbv
  have hfv : Fits vn vr := by
   by_cases h : Fits vn vr
   ·exact h
   ·simp [checkM, h] at h5
  refine ⟨fun _ => by simp; omega, fun _ => by rw [nct, rls_get _ m hmm, hfit]; rfl, fun _ => by simp; omega, fun _ => by rw [show (0 : Int).toNat = 0 from rfl, rls_get _ 0 (by omega)]; rfl, ?_⟩
  simp only [show (0 : Int).toNat = 0 from rfl, nct, rls_get _ m hmm, hfit, rls_get _ 0 (show 0 < l.length by omega), at_r0]
  refine ⟨fun _ h6 => ?_, fun _ h6 => ?_⟩
  ·cbv
   refine hF ?_
   cbv
   intro _
   clear hI
   have : ¬ Alike l := fun h => by
    have := (h.2 m hmm).2
    rw [hfit] at this
    simp at h6
    exact h6 (by simpa using this)
   simp [this]
  ·cbv
   refine hI (m + 1) ⟨hmm, fun k hk => ?_⟩ (by omega) ?_
   ·rcases Nat.lt_or_ge k m with h | h
    ·exact hm.2 k h
    ·obtain rfl : k = m := by omega
     rw [hfit]
     exact ⟨hfv, by simpa using h6⟩
   ·cbv
    clear hI
    simp
    exact w64_of (by omega) (by omega)
 ·cbv
  refine hF ?_
  cbv
  clear hI
  intro _
  have : m = l.length := by simp at h4; omega
  subst this
  simp
  exact ⟨fun h => ⟨h, hm.2⟩, fun h => h.1⟩

theorem alike_all {l : List RelV} (h : Alike l) {n : Nat} (hn : (l.getD 0 (0, [])).1 = n) : n ≤ 64 ∧ ∀ k < l.length, (l.getD k (0, [])).2.length = n := by
 have h0 := (h.2 0 h.1).1
 obtain ⟨k0, hk1, hk2, hk3⟩ := fits_len h0
 rw [hn] at hk1
 refine ⟨by omega, fun k hk => ?_⟩
 have := h.2 k hk
 obtain ⟨j, e1, e2, _⟩ := fits_len this.1
 have e3 := this.2
 rw [hn, e1] at e3
 omega
theorem ror_yes (l : List RelV) (hl : l.length < 4611686018427387904) (h : Alike l) (n : Nat) (hn : (l.getD 0 (0, [])).1 = n) : Pure Tryz.prog γ false 119 [.vs 2 fun _ => rls l] (encRel n (orM n l)) := by
 have hl0 := h.1
 obtain ⟨h64, hall⟩ := alike_all h hn
 refine Pure.go (ty := ty) ty_eq mo Tryz.func119 rfl Tryz.ntmps119 Tryz.results119 Tryz.call119 (by simp) fun P C CQ D W F E hF => ?_
 cbv
 refine E.c (SCalls.of_le (ralike_ok l hl) ?_ ?_)
 ·(cbv;(try simp only [nc] at *);first|done|(simp;done)|(simp (disch:=(first|omega|(simp only [lnS,zA,zM,zG,zP];omega))) only [nc,nct,w64_of,zT,zZ,zM,rdS,at_agg,bofZ,bof1,bof0,zC,zS,implies_true,and_true,true_and,forall_const];first|done|omega|(refine ⟨?_,?_⟩<;>omega))|(simp (disch:=(first|omega|(simp only [lnS,zA,zM,zG,zP];omega))) [nc,nct,w64_of,zT,zZ,zM,rdS,at_agg,bofZ,bof1,bof0,zC,zS];done))
 cbv
 refine br_f (by simp [h]) ?_
 cbv
 refine ⟨fun _ => by simp; omega, fun _ => by rw [show (0 : Int).toNat = 0 from rfl, rls_get _ 0 hl0]; rfl, ?_⟩
 cbv
 simp only [show (0 : Int).toNat = 0 from rfl, rls_get _ 0 hl0, at_r0, hn]
 refine E.c (SCalls.of_owns (rnone_in (n : Int) (by omega) (by omega)) ?_ ?_)
 ·cbv; all_goals simp
 cbv
 simp only [Int.toNat_natCast, nc]
 refine E.loop (ι := Nat) (fun k => k ≤ l.length) (fun k => l.length - k) (fun k => [(4, .i fun _ => (k : Int))])
  (fun k => [.box (.agg [.lit 0, .nils]), .any, .run 0 1 fun _ => us (tab n (orV (l.take k))), .box (.agg [.i fun _ => (n : Int), .sl 2 0 1 (fun _ => 0) fun _ => n])])
  0 rfl (fun _ => rfl) (Nat.zero_le _) ?_ fun k hk I hI => ?_
 ·cbv
  simp [← tab_zero, show orV [] = fun _ => 0#64 from rfl]
 cbv
 refine ⟨fun _ h4 => ?_, fun _ h4 => ?_⟩
 ·cbv
  have hkk : k < l.length := by simp at h4; omega
  have hsu := orV_succ l k
  have hrl := hall k hkk
  refine E.loop (ι := Nat) (fun i => i ≤ n) (fun i => n - i) (fun i => [(5, .i fun _ => (i : Int))])
   (fun i => [.box (.agg [.lit 0, .nils]), .any, .run 0 1 fun _ => us (tab n fun j => if j < i then orV (l.take (k + 1)) j else orV (l.take k) j), .box (.agg [.i fun _ => (n : Int), .sl 2 0 1 (fun _ => 0) fun _ => n])])
   0 rfl (fun _ => rfl) (Nat.zero_le _) ?_ fun i hi I2 hI2 => ?_
  ·cbv
   simp
  cbv
  refine ⟨fun _ h5 => ?_, fun _ h5 => ?_⟩
  ·cbv
   have hii : i < n := by simp at h5; omega
   refine E.d 17 (by kernel_rfl) ?_
   cbv
   simp only [nct, rls_get _ k hkk, at_r1]
   refine ⟨fun _ => by simp; omega, fun _ => ⟨trivial, by simp; omega⟩, fun _ => by rw [Nat.zero_add, us_get _ i (by simpa using hii)]; rfl, fun _ => by simp; omega, fun _ => rfl, fun _ => by simp only [us_len, nc]; omega, fun _ => by rw [us_get _ i (by omega)]; rfl, fun _ => by simp; omega,
    fun _ => ⟨trivial, by simp; omega, by rw [Nat.zero_add, us_get _ i (by simpa using hii)]; rfl⟩, ?_⟩
   refine hI2 (i + 1) (by omega) (by omega) ?_
   cbv
   clear hI hI2
   simp only [Nat.zero_add, nct, us_get _ i (show i < (tab n _).length by simpa using hii), us_get (l.getD k (0, [])).2 i (by omega), at_u, upd_u, us_set, us_of, nc, tab_get n _ i hii]
   simp only [implies_true, and_true, true_and, forall_const]
   refine ⟨w64_of (by omega) (by omega), congrArg us (tab_set i _ hii (by simp [hsu i hkk]) fun j _ hj => ?_)⟩
   by_cases h : j < i <;> simp [h] <;> omega
  ·cbv
   refine hI (k + 1) (by omega) (by omega) ?_
   cbv
   clear hI hI2
   have : i = n := by simp at h5; omega
   subst this
   simp
   exact ⟨w64_of (by omega) (by omega), congrArg us (tab_congr fun j hj => by simp [hj])⟩
 ·cbv
  refine hF ?_
  cbv
  clear hI
  have hml : k = l.length := by simp at h4; omega
  subst hml
  simp [orM]
  rw [List.take_of_length_le (by simp)]

end Go.AL.Rl

namespace Go.AL.Rl
open Go Go.AL Go.Proofs
variable {γ : Nat → Option AV}
set_option maxRecDepth 100000

end Go.AL.Rl

namespace Go.AL.Rl
open Go Go.AL Go.Proofs
variable {γ : Nat → Option AV}
set_option maxRecDepth 100000

theorem rsame_ok (n m : Int) (a b : List (BitVec 64)) (hb : b.length ≤ 9223372036854775807) : Pure Tryz.prog γ false 131 [encRel n a, encRel m b] (.b fun _ => decide (Fits n a ∧ n = m ∧ a = b)) := by
 refine Pure.go (ty := ty) ty_eq mo Tryz.func131 rfl Tryz.ntmps131 Tryz.results131 Tryz.call131 (by simp) fun P C CQ D W F E hF => ?_
 cbv
 refine ⟨fun _ h0 => ?_, fun _ h0 => ?_⟩
 ·cbv
  refine hF ?_
  cbv
  intro _
  simp at h0 ⊢
  exact fun _ h => absurd h h0
 cbv
 refine ⟨fun _ h1 => ?_, fun _ h1 => ?_⟩
 ·cbv
  refine hF ?_
  cbv
  intro _
  simp at h1 ⊢
  rintro - - rfl
  omega
 cbv
 obtain rfl : n = m := by simpa using h0
 have hl : a.length = b.length := by simp at h1; omega
 refine E.loop (ι := Nat) (fun i => i ≤ a.length ∧ ∀ k < i, a.getD k 0 = b.getD k 0) (fun i => a.length - i) (fun i => [(5, .i fun _ => (i : Int))]) (fun _ => [.box (encRel n a), .box (encRel n b)]) 0 rfl (fun _ => rfl) ⟨Nat.zero_le _, by simp⟩ ?_ fun i hi I hI => ?_
 ·cbv
  simp
 cbv
 refine ⟨fun _ h4 => ?_, fun _ h4 => ?_⟩
 ·cbv
  have hii : i < a.length := by simp at h4; omega
  refine E.d 11 (by kernel_rfl) ?_
  cbv
  refine ⟨fun _ => by simp; omega, fun _ => by rw [nct, us_get _ i (by omega)]; rfl, fun _ => by simp; omega, fun _ => by rw [nct, us_get _ i (by omega)]; rfl, ?_⟩
  simp only [nct, us_get a i (by omega), us_get b i (by omega), at_u]
  refine ⟨fun _ h5 => ?_, fun _ h5 => ?_⟩
  ·cbv
   refine hF ?_
   cbv
   clear hI
   intro _
   simp at h5 ⊢
   rintro - rfl
   simp at h5
  ·cbv
   refine hI (i + 1) ⟨by omega, fun k hk => ?_⟩ (by omega) ?_
   ·rcases Nat.lt_or_ge k i with h | h
    ·exact hi.2 k h
    ·obtain rfl : k = i := by omega
     simpa using h5
   ·cbv
    clear hI
    simp
    exact w64_of (by omega) (by omega)
 ·cbv
  clear hI
  have : i = a.length := by simp at h4; omega
  have hab : a = b := List.ext_getElem (by omega) fun k h1 h2 => by
   have := hi.2 k (by omega)
   simpa [h1, h2] using this
  subst hab
  refine E.c (SCalls.of_le (rcheck_ok n a) ?_ ?_)
  ·(cbv;(try simp only [nc] at *);first|done|(simp;done)|(simp (disch:=(first|omega|(simp only [lnS,zA,zM,zG,zP];omega))) only [nc,nct,w64_of,zT,zZ,zM,rdS,at_agg,bofZ,bof1,bof0,zC,zS,implies_true,and_true,true_and,forall_const];first|done|omega|(refine ⟨?_,?_⟩<;>omega))|(simp (disch:=(first|omega|(simp only [lnS,zA,zM,zG,zP];omega))) [nc,nct,w64_of,zT,zZ,zM,rdS,at_agg,bofZ,bof1,bof0,zC,zS];done))
  cbv
  refine hF ?_
  cbv
  intro _
  by_cases hf : Fits n a <;> simp [checkM, hf]

end Go.AL.Rl

namespace Go.AL.Rl
open Go Go.AL Go.Proofs
variable {γ : Nat → Option AV}
set_option maxRecDepth 100000

theorem reachTo_all (rows : List (BitVec 64)) (f : BitVec 64) (q : Nat) (hq : rows.length ≤ q) : reachTo q rows f = reachM rows f := by
 apply BitVec.eq_of_getLsbD_eq
 intro j hj
 rw [Bool.eq_iff_iff, bit_reachTo, bit_reach]
 constructor
 ·rintro ⟨p, _, h⟩; exact ⟨p, h⟩
 ·rintro ⟨p, h1, h2⟩
  refine ⟨p, ?_, h1, h2⟩
  rcases Nat.lt_or_ge p rows.length with h | h
  ·omega
  ·rw [bit_out h] at h2; cases h2
theorem or_one (n : Nat) (rows : List (BitVec 64)) (hl : rows.length = n) : orM n [((n : Int), rows)] = rows := by
 unfold orM
 subst hl
 conv => rhs; rw [← tab_self rows]
 exact tab_congr fun i _ => by simp [orV]
theorem alike1 (n : Int) (a : List (BitVec 64)) (ha : Fits n a) : Alike [(n, a)] := by
 refine ⟨by simp, fun i hi => ?_⟩
 have : i = 0 := by simp at hi; omega
 subst this; simp [ha]
theorem rthen_yes (l : List RelV) (hl : l.length < 4611686018427387904) (h : Alike l) (n : Nat) (hn : (l.getD 0 (0, [])).1 = n) : Pure Tryz.prog γ false 130 [.vs 2 fun _ => rls l] (encRel n (thenM n l)) := by
 have hl0 := h.1
 obtain ⟨h64, hall⟩ := alike_all h hn
 have h0 := (h.2 0 h.1).1
 have hz := hall 0 hl0
 have hto : tab n (thenV l 0) = (l.getD 0 (0, [])).2 := by
  have := tab_self (l.getD 0 (0, [])).2
  rw [hz] at this; exact this
 refine Pure.go (ty := ty) ty_eq mo Tryz.func130 rfl Tryz.ntmps130 Tryz.results130 Tryz.call130 (by simp) fun P C CQ D W F E hF => ?_
 cbv
 refine E.c (SCalls.of_le (ralike_ok l hl) ?_ ?_)
 ·(cbv;(try simp only [nc] at *);first|done|(simp;done)|(simp (disch:=(first|omega|(simp only [lnS,zA,zM,zG,zP];omega))) only [nc,nct,w64_of,zT,zZ,zM,rdS,at_agg,bofZ,bof1,bof0,zC,zS,implies_true,and_true,true_and,forall_const];first|done|omega|(refine ⟨?_,?_⟩<;>omega))|(simp (disch:=(first|omega|(simp only [lnS,zA,zM,zG,zP];omega))) [nc,nct,w64_of,zT,zZ,zM,rdS,at_agg,bofZ,bof1,bof0,zC,zS];done))
 cbv
 refine br_f (by simp [h]) ?_
 cbv
 refine ⟨fun _ => by simp; omega, fun _ => by rw [show (0 : Int).toNat = 0 from rfl, rls_get _ 0 hl0]; rfl, ?_⟩
 cbv
 simp only [show (0 : Int).toNat = 0 from rfl, rls_get _ 0 hl0, at_r0, at_r1, hn]
 rw [hn] at h0
 refine E.c (SCalls.of_le (ror_yes [((n : Int), (l.getD 0 (0, [])).2)] (by simp) (alike1 _ _ h0) n rfl) ?_ ?_)
 ·cbv; all_goals simp [rls, ps, us, is, LV.of]
 cbv
 rw [or_one n _ hz, ← hto]
 refine E.loop (ι := Nat) (fun k => k + 1 ≤ l.length) (fun k => l.length - k) (fun k => [(4, .i fun _ => ((k + 1 : Nat) : Int))])
  (fun k => [.box (.agg [.lit 0, .nils]), .box (encRel n (tab n (thenV l k)))]) 0 rfl (fun _ => rfl) hl0 ?_ fun k hk I hI => ?_
 ·cbv
  simp
 cbv
 refine ⟨fun _ h4 => ?_, fun _ h4 => ?_⟩
 ·cbv
  have hkk : k + 1 < l.length := by simp at h4; omega
  have hsu := thenV_succ l k hkk
  have hrl := hall (k + 1) hkk
  refine E.c (SCalls.of_owns (rnone_in (n : Int) (by omega) (by omega)) ?_ ?_)
  ·cbv; all_goals simp
  cbv
  simp only [Int.toNat_natCast, nc]
  refine E.loop (ι := Nat) (fun i => i ≤ n) (fun i => n - i) (fun i => [(6, .i fun _ => (i : Int))])
   (fun i => [.box (.agg [.lit 0, .nils]), .box (encRel n (tab n (thenV l k))), .any, .run 0 1 fun _ => us (tab n fun p => if p < i then thenV l (k + 1) p else 0#64), .box (.agg [.i fun _ => (n : Int), .sl 3 0 1 (fun _ => 0) fun _ => n])])
   0 rfl (fun _ => rfl) (Nat.zero_le _) ?_ fun i hi I2 hI2 => ?_
  ·cbv
   simp [← tab_zero]
  cbv
  refine ⟨fun _ h5 => ?_, fun _ h5 => ?_⟩
  ·cbv
   have hii : i < n := by simp at h5; omega
   refine E.loop (ι := Nat) (fun j => j ≤ n) (fun j => n - j) (fun j => [(7, .i fun _ => (j : Int))])
    (fun j => [.box (.agg [.lit 0, .nils]), .box (encRel n (tab n (thenV l k))), .any, .run 0 1 fun _ => us (tab n fun p => if p < i then thenV l (k + 1) p else if p = i then reachTo j (l.getD (k + 1) (0, [])).2 (thenV l k i) else 0#64), .box (.agg [.i fun _ => (n : Int), .sl 3 0 1 (fun _ => 0) fun _ => n])])
    0 rfl (fun _ => rfl) (Nat.zero_le _) ?_ fun j hj I3 hI3 => ?_
   ·cbv
    simp
    refine congrArg us (tab_congr fun p _ => ?_)
    by_cases hpi : p < i
    ·simp [hpi]
    ·by_cases e : p = i <;> simp [hpi, e, reachTo]
   cbv
   refine ⟨fun _ h6 => ?_, fun _ h6 => ?_⟩
   ·cbv
    have hjj : j < n := by simp at h6; omega
    have hsh : (BitVec.ofInt 64 (j : Int)).toNat = j := by simp; omega
    have hbit := cnt_full_bits (thenV l k i) j
    have hrs := reachTo_succ j (l.getD (k + 1) (0, [])).2 (thenV l k i)
    refine ⟨fun _ => by simp; omega, fun _ => by rw [nct, us_get _ i (by simpa using hii)]; rfl, fun _ => by simp, ?_⟩
    simp only [nct, us_get _ i (show i < (tab n _).length by simpa using hii), at_u, nc, hsh, tab_get n _ i hii]
    refine ⟨fun _ h7 => ?_, fun _ h7 => ?_⟩
    ·cbv
     rw [if_pos (hbit.1 (by simpa using h7))] at hrs
     refine E.d 17 (by kernel_rfl) ?_
     cbv
     have hk1 : ((NatCast.natCast (k + 1) : Int)).toNat = k + 1 := rfl
     simp only [nct, hk1, rls_get _ (k + 1) hkk, at_r1]
     refine ⟨fun _ => by simp; omega, fun _ => ⟨by first | rfl | trivial, by simp; omega⟩, fun _ => by rw [Nat.zero_add, us_get _ i (by simpa using hii)]; rfl, fun _ => by simp; omega, fun _ => rfl, fun _ => by simp only [us_len, nc]; omega, fun _ => by rw [us_get _ j (by omega)]; rfl, fun _ => by simp; omega,
      fun _ => ⟨by first | rfl | trivial, by simp; omega, by rw [Nat.zero_add, us_get _ i (by simpa using hii)]; rfl⟩, ?_⟩
     refine hI3 (j + 1) (by omega) (by omega) ?_
     cbv
     clear hI hI2 hI3
     simp only [Nat.zero_add, nct, us_get _ i (show i < (tab n _).length by simpa using hii), us_get (l.getD (k + 1) (0, [])).2 j (by omega), at_u, upd_u, us_set, us_of, nc, tab_get n _ i hii]
     simp only [implies_true, and_true, true_and, forall_const]
     refine ⟨w64_of (by omega) (by omega), congrArg us (tab_set i _ hii (by simp only [Nat.lt_irrefl, if_false, if_true]; exact hrs) fun p _ hp => ?_)⟩
     by_cases h : p < i <;> simp [h, hp]
    ·cbv
     rw [if_neg (fun hb => absurd (hbit.2 hb) (by simpa using h7))] at hrs
     refine hI3 (j + 1) (by omega) (by omega) ?_
     cbv
     clear hI hI2 hI3
     simp only [hrs]
     simp
     exact w64_of (by omega) (by omega)
   ·cbv
    have hjn : j = n := by simp at h6; omega
    have hra := reachTo_all (l.getD (k + 1) (0, [])).2 (thenV l k i) n (by omega)
    refine hI2 (i + 1) (by omega) (by omega) ?_
    cbv
    clear hI hI2 hI3
    subst hjn
    simp
    refine ⟨w64_of (by omega) (by omega), congrArg us (tab_congr fun p _ => ?_)⟩
    by_cases hpi : p < i
    ·simp [hpi, show p < i + 1 by omega]
    ·by_cases e : p = i
     ·subst e; simp; rw [hsu p, ← List.getD_eq_getElem?_getD, hra]
     ·rw [if_neg hpi, if_neg e, if_neg (by omega)]
  ·cbv
   have hin : i = n := by simp at h5; omega
   refine hI (k + 1) (by omega) (by omega) ?_
   cbv
   clear hI hI2
   subst hin
   simp
   exact ⟨w64_of (by omega) (by omega), by rw [List.take_of_length_le (by simp)]; exact congrArg (fun x => (us x).l) (tab_congr fun p hp => by simp [hp])⟩
 ·cbv
  refine hF ?_
  cbv
  clear hI
  have hml : k = l.length - 1 := by simp at h4; omega
  subst hml
  simp [thenM]
end Go.AL.Rl

namespace Go.AL.Rl
open Go Go.AL Go.Proofs
variable {γ : Nat → Option AV}
set_option maxRecDepth 100000

def cntR (rows : List (BitVec 64)) : Nat := (rows.map cnt).sum
theorem cnt_mono {a b : BitVec 64} (h : ∀ p, a.getLsbD p = true → b.getLsbD p = true) : cnt a ≤ cnt b ∧ (a ≠ b → cnt a < cnt b) := by
 have hle : ∀ l : List Nat, l.countP (fun p => a.getLsbD p) ≤ l.countP fun p => b.getLsbD p := fun l => by
  induction l with
  | nil => simp
  | cons x l ih =>
   have := h x
   simp only [List.countP_cons]
   cases ha : a.getLsbD x <;> cases hb : b.getLsbD x <;> simp_all <;> omega
 refine ⟨hle _, fun hne => ?_⟩
 have : ∃ p, b.getLsbD p = true ∧ a.getLsbD p = false := by
  apply Classical.byContradiction
  intro hno
  apply hne
  apply BitVec.eq_of_getLsbD_eq
  intro i _
  cases ha : a.getLsbD i with
  | true => exact (h i ha).symm
  | false =>
   cases hb : b.getLsbD i with
   | false => rfl
   | true => exact absurd ⟨i, hb, ha⟩ hno
 obtain ⟨p, h1, h2⟩ := this
 have hp : p < 64 := by
  rcases Nat.lt_or_ge p 64 with h' | h'
  ·exact h'
  ·rw [BitVec.getLsbD_of_ge _ _ h'] at h1; cases h1
 exact countP_lt _ _ _ (fun x _ hx => h x hx) ⟨p, by simpa using hp, h1, h2⟩
theorem cntR_le : ∀ (rows : List (BitVec 64)), cntR rows ≤ 64 * rows.length
 | [] => by simp [cntR]
 | r :: rows => by
  have := cntR_le rows
  have := cnt_le r
  simp only [cntR, List.map_cons, List.sum_cons, List.length_cons] at *
  omega
theorem cntR_mono : ∀ {a b : List (BitVec 64)}, a.length = b.length → (∀ i j, bit a i j = true → bit b i j = true) → cntR a ≤ cntR b ∧ (a ≠ b → cntR a < cntR b)
 | [], [], _, _ => ⟨Nat.le_refl _, fun h => absurd rfl h⟩
 | x :: a, y :: b, hl, h => by
  obtain ⟨h1, h2⟩ := cntR_mono (a := a) (b := b) (by simpa using hl) fun i j hij => by
   have := h (i + 1) j
   unfold bit at this hij ⊢
   simpa using this (by simpa using hij)
  obtain ⟨h3, h4⟩ := cnt_mono (a := x) (b := y) fun p hp => by
   have := h 0 p
   unfold bit at this
   simpa using this (by simpa using hp)
  simp only [cntR, List.map_cons, List.sum_cons] at *
  refine ⟨by omega, fun hne => ?_⟩
  by_cases hxy : x = y
  ·subst hxy
   have := h2 (fun e => hne (by rw [e]))
   omega
  ·have := h4 hxy
   omega

theorem ror2 (n : Nat) (a b : List (BitVec 64)) (ha : Fits n a) (hb : Fits n b) : Pure Tryz.prog γ false 119 [.vs 2 fun _ => rls [((n : Int), a), ((n : Int), b)]] (encRel n (orM n [((n : Int), a), ((n : Int), b)])) :=
 ror_yes _ (by simp) ((alike2 _ _ _ _).2 ⟨ha, hb, rfl⟩) n rfl
theorem rthen2 (n : Nat) (a b : List (BitVec 64)) (ha : Fits n a) (hb : Fits n b) : Pure Tryz.prog γ false 130 [.vs 2 fun _ => rls [((n : Int), a), ((n : Int), b)]] (encRel n (thenM n [((n : Int), a), ((n : Int), b)])) :=
 rthen_yes _ (by simp) ((alike2 _ _ _ _).2 ⟨ha, hb, rfl⟩) n rfl
theorem rplus_yes (n : Nat) (rows : List (BitVec 64)) (hf : Fits n rows) : Pure Tryz.prog γ false 118 [encRel n rows] (encRel n (plusM n rows)) := by
 obtain ⟨la, e1, hla, hl64⟩ := fits_len hf
 obtain rfl : n = la := by omega
 have hp := fits_plus hf
 have hpt := fun i k j => plus_trans hf (i := i) (k := k) (j := j)
 have hpe := fun i j => plus_edge (n := (n : Int)) (rows := rows) (i := i) (j := j)
 have hpl := fun (T : Nat → Nat → Prop) h1 h2 i j => plus_least (n := (n : Int)) (rows := rows) T h1 h2 (i := i) (j := j)
 generalize plusM (n : Int) rows = p at hp hpt hpe hpl
 refine Pure.go (ty := ty) ty_eq mo Tryz.func118 rfl Tryz.ntmps118 Tryz.results118 Tryz.call118 (by simp) fun P C CQ D W F E hF => ?_
 cbv
 refine E.c (SCalls.of_le (rcheck_ok n rows) ?_ ?_)
 ·(cbv;(try simp only [nc] at *);first|done|(simp;done)|(simp (disch:=(first|omega|(simp only [lnS,zA,zM,zG,zP];omega))) only [nc,nct,w64_of,zT,zZ,zM,rdS,at_agg,bofZ,bof1,bof0,zC,zS,implies_true,and_true,true_and,forall_const];first|done|omega|(refine ⟨?_,?_⟩<;>omega))|(simp (disch:=(first|omega|(simp only [lnS,zA,zM,zG,zP];omega))) [nc,nct,w64_of,zT,zZ,zM,rdS,at_agg,bofZ,bof1,bof0,zC,zS];done))
 cbv
 refine br_f (by simp [checkM, hf]) ?_
 cbv
 refine E.c (SCalls.of_le (ror_yes [((n : Int), rows)] (by simp) (alike1 _ _ hf) n rfl) ?_ ?_)
 ·cbv; all_goals simp [rls, ps, us, is, LV.of]
 cbv
 rw [or_one n rows hla]
 refine E.loop (ι := List (BitVec 64)) (fun out => Fits n out ∧ (∀ i j, bit rows i j = true → bit out i j = true) ∧ ∀ i j, bit out i j = true → bit p i j = true) (fun out => 64 * n - cntR out) (fun _ => [])
  (fun out => [.box (encRel n rows), .box (.agg [.lit 0, .nils]), .box (encRel n out)]) rows rfl (fun _ => rfl) ⟨hf, fun _ _ h => h, hpe⟩ ?_ fun out hout I hI => ?_
 ·cbv
  simp
 obtain ⟨ho1, ho2, ho3⟩ := hout
 have hoo := fits_then2 ho1 ho1
 have hnx := fits_or2 ho1 hoo
 have hnb := bit_or2 ho1 hoo
 obtain ⟨lo, e2, hlo, _⟩ := fits_len ho1
 cbv
 refine E.da 8 71 (by kernel_rfl) (by kernel_rfl) rfl rfl rfl ?_
 cbv
 refine E.q (QCalls.of_le (rthen2 n out out ho1 ho1) ?_ ?_)
 ·cbv; all_goals simp [rls, ps, us, is, LV.of]
 cbv
 refine E.q (QCalls.of_le (ror2 n out (thenM n [((n : Int), out), ((n : Int), out)]) ho1 hoo) ?_ ?_)
 ·cbv; all_goals simp [rls, ps, us, is, LV.of]
 cbv
 generalize hnext : orM n [((n : Int), out), ((n : Int), thenM n [((n : Int), out), ((n : Int), out)])] = next at hnx hnb
 obtain ⟨ln, e3, hln, _⟩ := fits_len hnx
 have hoL : out.length = n := by simp only [nc] at e2; omega
 have hnL : next.length = n := by simp only [nc] at e3; omega
 refine E.c (SCalls.of_le (rsame_ok n n next out (by omega)) ?_ ?_)
 ·(cbv;(try simp only [nc] at *);first|done|(simp;done)|(simp (disch:=(first|omega|(simp only [lnS,zA,zM,zG,zP];omega))) only [nc,nct,w64_of,zT,zZ,zM,rdS,at_agg,bofZ,bof1,bof0,zC,zS,implies_true,and_true,true_and,forall_const];first|done|omega|(refine ⟨?_,?_⟩<;>omega))|(simp (disch:=(first|omega|(simp only [lnS,zA,zM,zG,zP];omega))) [nc,nct,w64_of,zT,zZ,zM,rdS,at_agg,bofZ,bof1,bof0,zC,zS];done))
 cbv
 refine ⟨fun _ h4 => ?_, fun _ h4 => ?_⟩
 ·cbv
  have heq : next = out := by simp at h4; exact h4.2
  have hop : out = p := fits_ext ho1 hp fun i j => ⟨ho3 i j, fun h => by
   refine hpl (fun i j => bit out i j = true) ho2 (fun i k j h1 h2 => ?_) i j h
   rw [← heq, hnb]
   exact .inr ((bit_then2 ho1 i j).2 ⟨k, h1, h2⟩)⟩
  refine hF ?_
  cbv
  clear hI
  subst hop
  simp
 ·cbv
  have hne : out ≠ next := fun e => by
   rw [← e] at h4
   simp [ho1] at h4
  have hm := (cntR_mono (a := out) (b := next) (by omega) fun i j h => (hnb i j).2 (.inl h)).2 hne
  have hle := cntR_le next
  rw [hnL] at hle
  refine hI next ⟨hnx, fun i j h => (hnb i j).2 (.inl (ho2 i j h)), fun i j h => ?_⟩ (by omega) ?_
  ·rcases (hnb i j).1 h with h | h
   ·exact ho3 i j h
   ·obtain ⟨k, h1, h2⟩ := (bit_then2 ho1 i j).1 h
    exact hpt i k j (ho3 _ _ h1) (ho3 _ _ h2)
  ·cbv
   clear hI
   simp

end Go.AL.Rl

namespace Go.AL
open Go Go.RowKit
section
variable {P : Program} {γ : Nat → Option AV}
/-- a contract in a heap of which less is told -/
theorem SCalls.le {f : FuncId} {args args' : List AV} {h h' : List Blk} {Q : AV → List Blk → Prop} (hs : SCalls P γ f args' h' Q) (hn : h'.length = h.length) (ha : leVs h.length args' args) (hh : leH h.length h' h) : SCalls P γ f args h Q := by
 refine ⟨hs.1, fun B S ρ w vals hr hv => ?_⟩
 have h1 := hr.le hh hn
 have h2 := Rs_le _ _ _ ha hv
 have e : ρ.take h.length = ρ := List.take_of_length_le (by rw [hr.len]; exact Nat.le_refl _)
 rw [e] at h1 h2
 exact hs.2 B S ρ w vals h1 h2
/-- what it hands back, and the heap behind it, as far as they are told -/
abbrev Post (v : AV) (h : List Blk) : AV → List Blk → Prop := fun v' h' => leV h.length v v' ∧ leH h.length h h'
theorem SCalls.to {f : FuncId} {args args' : List AV} {h h' h2 : List Blk} {v : AV} {Q : AV → List Blk → Prop} (hs : SCalls P γ f args' h' (Post v h2)) (hn : h'.length = h.length) (hn2 : h.length ≤ h2.length) (ha : leVs h.length args' args) (hh : leH h.length h' h) (hq : Q v h2) : SCalls P γ f args h Q := by
 have hs := hs.le hn ha hh
 refine ⟨hs.1, fun B S ρ w vals hr hv => (hs.2 B S ρ w vals hr hv).mono fun e w' ⟨v', h'', S', ρ', v2, h1, ⟨h2', h3⟩, h4, h5, h6⟩ => ?_⟩
 have hb := h5.le h3 rfl
 have hv' := R_le _ _ _ h2' h4
 refine ⟨v, h2, S', ρ'.take h2.length, v2, h1, hq, hv', hb, ⟨h6.fr, h6.below, h6.sub, h6.same, ?_, h6.grow⟩⟩
 intro b loc hb'
 obtain ⟨l', k1, k2⟩ := h6.locs b loc hb'
 exact ⟨l', take_get k1 (by have := (List.getElem?_eq_some_iff.1 hb').1; rw [hr.len] at this; omega), k2⟩
end
section
variable {P : Program} {γ : Nat → Option AV} {C : EC} {CQ : List Blk → QC} {T : Nat → TI} {D : Array Oper → (St → Prop) → St → Prop} {W : Code → (Exit → St → Prop) → St → Prop}
/-- a loop; what of the heap does not change is not told -/
theorem Env.loopS (E : Env P γ C CQ T D W) {c : Code} {Q : Exit → St → Prop} {A : St} {ι : Type} (ok : ι → Prop) (m : ι → Nat) (upd : ι → List (Nat × AV)) (f : ι → List Blk → List Blk) (j0 : ι)
  (hf : ∀ j, (f j A.h).length = A.h.length) (hok : ok j0) (h0 : leSt A.h.length (headSt c A (upd j0) (f j0 A.h)) A)
  (round : ∀ j, ok j → ∀ (I : St → Prop), (∀ {A'} j', ok j' → m j' < m j → leSt A.h.length (headSt c A (upd j') (f j' A.h)) A' → I A') → vc T γ C D W c (thenE I Q) (headSt c A (upd j) (f j A.h))) : W c Q A :=
 E.w (AWP.loopI (ι := ι) A.h.length (fun j => headSt c A (upd j) (f j A.h)) ok m j0 rfl (fun j => hf j) ⟨hok, h0⟩ fun j hj => E.b (round j hj _ fun j' h1 h2 h3 => ⟨j', h1, h2, h3⟩))
theorem Env.loopSA (E : Env P γ C CQ T D W) {c : Code} {Q : Exit → St → Prop} {A : St} {ι : Type} (ok : ι → Prop) (m : ι → Nat) (upd : ι → List (Nat × AV)) (f : ι → List Blk → List Blk) (j0 : ι)
  (hf : ∀ j, (f j A.h).length = A.h.length) (hok : ok j0) (h0 : leSt A.h.length (headSt c A (upd j0) (f j0 A.h)) A)
  (round : ∀ j, ok j → ∀ (I : St → Prop), (∀ {A'} j', ok j' → m j' < m j → leSt A.h.length (headSt c A (upd j') (f j' A.h)) A' → I A') → vc T γ C D W c (thenE I Q) (headSt c A (upd j) (f j A.h))) : AWP P γ (.loop c) Q A :=
 AWP.loopI (ι := ι) A.h.length (fun j => headSt c A (upd j) (f j A.h)) ok m j0 rfl (fun j => hf j) ⟨hok, h0⟩ fun j hj => E.b (round j hj _ fun j' h1 h2 h3 => ⟨j', h1, h2, h3⟩)
end
end Go.AL

namespace Go.AL.Rl
open Go Go.AL Go.Proofs
set_option maxRecDepth 100000

structure Ev where
 kind : Int
 loc : Int
 order : Int
 rd : Int
 wr : Int
theorem Ev.ext' {a b : Ev} (h1 : a.kind = b.kind) (h2 : a.loc = b.loc) (h3 : a.order = b.order) (h4 : a.rd = b.rd) (h5 : a.wr = b.wr) : a = b := by cases a; cases b; simp_all
instance : DecidableEq Ev := fun a b => decidable_of_iff (a.kind = b.kind ∧ a.loc = b.loc ∧ a.order = b.order ∧ a.rd = b.rd ∧ a.wr = b.wr) ⟨fun h => Ev.ext' h.1 h.2.1 h.2.2.1 h.2.2.2.1 h.2.2.2.2, fun h => by subst h; exact ⟨rfl, rfl, rfl, rfl, rfl⟩⟩
structure EId where
 t : Int
 i : Int
theorem EId.ext' {a b : EId} (h1 : a.t = b.t) (h2 : a.i = b.i) : a = b := by cases a; cases b; simp_all
instance : DecidableEq EId := fun a b => decidable_of_iff (a.t = b.t ∧ a.i = b.i) ⟨fun h => EId.ext' h.1 h.2, fun h => by subst h; exact ⟨rfl, rfl⟩⟩
structure Gr where
 init : List Int
 th : List (List Ev)
 fr : List (List EId)
 ord : List (List EId)
abbrev ev0 : Ev := ⟨0, 0, 0, 0, 0⟩
abbrev id0 : EId := ⟨0, 0⟩

abbrev aEv (e : Ev) : AV := .agg [.i fun _ => e.kind, .i fun _ => e.loc, .i fun _ => e.order, .i fun _ => e.rd, .i fun _ => e.wr]
abbrev aId (d : EId) : AV := .agg [.i fun _ => d.t, .i fun _ => d.i]
def evs (l : List Ev) : LV := LV.of (l.map aEv)
def ids (l : List EId) : LV := LV.of (l.map aId)
def evss (l : List (List Ev)) : LV := LV.of (l.map fun x => .vs 5 fun _ => evs x)
def idss (l : List (List EId)) : LV := LV.of (l.map fun x => .vs 2 fun _ => ids x)
abbrev aGr (g : Gr) : AV := .agg [.vs 1 fun _ => is g.init, .vs 1 fun _ => evss g.th, .vs 1 fun _ => idss g.fr, .vs 1 fun _ => idss g.ord]

@[simp] theorem evs_len (l : List Ev) : (evs l).l.length = l.length := by simp [evs]
@[simp] theorem ids_len (l : List EId) : (ids l).l.length = l.length := by simp [ids]
@[simp] theorem evss_len (l : List (List Ev)) : (evss l).l.length = l.length := by simp [evss]
@[simp] theorem idss_len (l : List (List EId)) : (idss l).l.length = l.length := by simp [idss]
theorem evs_get (l : List Ev) (i : Nat) (h : i < l.length) : (evs l).l.getD i .any = aEv (l.getD i ev0) := by simp [evs, h]
theorem ids_get (l : List EId) (i : Nat) (h : i < l.length) : (ids l).l.getD i .any = aId (l.getD i id0) := by simp [ids, h]
theorem evss_get (l : List (List Ev)) (i : Nat) (h : i < l.length) : (evss l).l.getD i .any = .vs 5 fun _ => evs (l.getD i []) := by simp [evss, h]
theorem idss_get (l : List (List EId)) (i : Nat) (h : i < l.length) : (idss l).l.getD i .any = .vs 2 fun _ => ids (l.getD i []) := by simp [idss, h]
section
variable (a b c d e : Unit → Int) (k : Nat) (es : Unit → LV)
theorem at_e0 : ((AV.agg [.i a, .i b, .i c, .i d, .i e]).at 0).asI = a () := rfl
theorem at_e1 : ((AV.agg [.i a, .i b, .i c, .i d, .i e]).at 1).asI = b () := rfl
theorem at_e2 : ((AV.agg [.i a, .i b, .i c, .i d, .i e]).at 2).asI = c () := rfl
theorem at_e3 : ((AV.agg [.i a, .i b, .i c, .i d, .i e]).at 3).asI = d () := rfl
theorem at_e4 : ((AV.agg [.i a, .i b, .i c, .i d, .i e]).at 4).asI = e () := rfl
theorem at_d0 : ((AV.agg [.i a, .i b]).at 0).asI = a () := rfl
theorem at_d1 : ((AV.agg [.i a, .i b]).at 1).asI = b () := rfl
theorem at_l : ((AV.vs k es).at 0).asL = es () := rfl
theorem at_agg (cs : List AV) (off : Nat) : (AV.agg cs).at off = cs.getD off .any := rfl
theorem asL_vs : (AV.vs k es).asL = es () := rfl
theorem asI_i : (AV.i a).asI = a () := rfl
theorem asU_u (u : Unit → BitVec 64) : (AV.u u).asU = u () := rfl
theorem asB_b (u : Unit → Bool) : (AV.b u).asB = u () := rfl
end

theorem bofZ {z : Int} (h0 : 0 ≤ z) (h1 : z < 9223372036854775808) : (BitVec.ofInt 64 z).toNat = z.toNat := by simp; omega
theorem bof1 : BitVec.ofInt 64 1 = 1#64 := rfl
theorem bof0 : BitVec.ofInt 64 0 = 0#64 := rfl
/-- library rules under short names -/
theorem zA {α : Type _} {a b : List α} : (a ++ b).length = a.length + b.length := List.length_append
theorem zM {α β : Type _} {l : List α} (f : α → β) : (l.map f).length = l.length := List.length_map f
theorem zG {n : Nat} : (List.range n).length = n := List.length_range
theorem zP {α : Type _} {n : Nat} {a : α} : (List.replicate n a).length = n := List.length_replicate
theorem zT (n : Nat) : (n : Int).toNat = n := Int.toNat_natCast n
theorem zZ : (0 : Int).toNat = 0 := Int.toNat_zero
theorem zC {α : Type _} {a d : α} {l : List α} : (a :: l).getD 0 d = a := rfl
theorem zS {α : Type _} {a d : α} {l : List α} {n : Nat} : (a :: l).getD (n + 1) d = l.getD n d := rfl
theorem zD {p : Prop} [Decidable p] : (decide p = true) = p := decide_eq_true_eq
theorem zE {p : Prop} {_ : Decidable p} : decide p = false ↔ ¬p := decide_eq_false_iff_not
theorem zB {b : Bool} : (¬b = true) = (b = false) := Bool.not_eq_true b
theorem zF {b : Bool} : (¬b = false) = (b = true) := Bool.not_eq_false b
theorem zN {a : Bool} : ((!a) = true) = (a = false) := Bool.not_eq_true' a
theorem zO {a : Bool} : ((!a) = false) = (a = true) := Bool.not_eq_false' a
theorem zQ {p : Prop} [Decidable p] : ¬¬p ↔ p := Decidable.not_not
theorem zL {a b : Int} : ¬a ≤ b ↔ b < a := Int.not_le
theorem zR {a b : Int} : ¬a < b ↔ b ≤ a := Int.not_lt
/-- the readings of told lists and events, in one -/
theorem rdS : (∀ l : List Int, (is l).l.length = l.length) ∧ (∀ l : List (BitVec 64), (us l).l.length = l.length) ∧ (∀ l : List (Int × Int), (ps l).l.length = l.length)
  ∧ (∀ (l : List Int) (i : Nat) (_ : i < l.length), (is l).l.getD i .any = .i fun _ => l.getD i 0)
  ∧ (∀ (l : List (BitVec 64)) (i : Nat) (_ : i < l.length), (us l).l.getD i .any = .u fun _ => l.getD i 0)
  ∧ (∀ (l : List (Int × Int)) (i : Nat) (_ : i < l.length), (ps l).l.getD i .any = .agg [.i fun _ => (l.getD i (0, 0)).1, .i fun _ => (l.getD i (0, 0)).2])
  ∧ (∀ x : Unit → Int, ((AV.i x).at 0).asI = x ()) ∧ (∀ x : Unit → BitVec 64, ((AV.u x).at 0).asU = x ())
  ∧ (∀ x y : Unit → Int, ((AV.agg [.i x, .i y]).at 0).asI = x ()) ∧ (∀ x y : Unit → Int, ((AV.agg [.i x, .i y]).at 1).asI = y ())
  ∧ (∀ l : List Ev, (evs l).l.length = l.length) ∧ (∀ l : List EId, (ids l).l.length = l.length)
  ∧ (∀ l : List (List Ev), (evss l).l.length = l.length) ∧ (∀ l : List (List EId), (idss l).l.length = l.length)
  ∧ (∀ (l : List Ev) (i : Nat) (_ : i < l.length), (evs l).l.getD i .any = aEv (l.getD i ev0))
  ∧ (∀ (l : List EId) (i : Nat) (_ : i < l.length), (ids l).l.getD i .any = aId (l.getD i id0))
  ∧ (∀ (l : List (List Ev)) (i : Nat) (_ : i < l.length), (evss l).l.getD i .any = .vs 5 fun _ => evs (l.getD i []))
  ∧ (∀ (l : List (List EId)) (i : Nat) (_ : i < l.length), (idss l).l.getD i .any = .vs 2 fun _ => ids (l.getD i []))
  ∧ (∀ a b c d e : Unit → Int, ((AV.agg [.i a, .i b, .i c, .i d, .i e]).at 0).asI = a ())
  ∧ (∀ a b c d e : Unit → Int, ((AV.agg [.i a, .i b, .i c, .i d, .i e]).at 1).asI = b ())
  ∧ (∀ a b c d e : Unit → Int, ((AV.agg [.i a, .i b, .i c, .i d, .i e]).at 2).asI = c ())
  ∧ (∀ a b c d e : Unit → Int, ((AV.agg [.i a, .i b, .i c, .i d, .i e]).at 3).asI = d ())
  ∧ (∀ a b c d e : Unit → Int, ((AV.agg [.i a, .i b, .i c, .i d, .i e]).at 4).asI = e ())
  ∧ (∀ (k : Nat) (es : Unit → LV), ((AV.vs k es).at 0).asL = es ()) ∧ (∀ (k : Nat) (es : Unit → LV), (AV.vs k es).asL = es ())
  ∧ (∀ a : Unit → Int, (AV.i a).asI = a ()) ∧ (∀ u : Unit → BitVec 64, (AV.u u).asU = u ()) ∧ (∀ u : Unit → Bool, (AV.b u).asB = u ()) :=
 ⟨is_len, us_len, ps_len, is_get, us_get, ps_get, at_i, at_u, at_p0, at_p1, evs_len, ids_len, evss_len, idss_len, evs_get, ids_get, evss_get, idss_get, at_e0, at_e1, at_e2, at_e3, at_e4, at_l, asL_vs, asI_i, asU_u, asB_b⟩
/-- the lengths of told lists, in one -/
theorem lnS : (∀ l : List Int, (is l).l.length = l.length) ∧ (∀ l : List (BitVec 64), (us l).l.length = l.length) ∧ (∀ l : List (Int × Int), (ps l).l.length = l.length)
  ∧ (∀ l : List Ev, (evs l).l.length = l.length) ∧ (∀ l : List EId, (ids l).l.length = l.length)
  ∧ (∀ l : List (List Ev), (evss l).l.length = l.length) ∧ (∀ l : List (List EId), (idss l).l.length = l.length)
  ∧ (∀ (n : Nat) (f : Nat → BitVec 64), (tab n f).length = n)
  ∧ (∀ {α : Type} {a b : List α}, (a ++ b).length = a.length + b.length) ∧ (∀ {α β : Type} {l : List α} (f : α → β), (l.map f).length = l.length)
  ∧ (∀ {n : Nat}, (List.range n).length = n) ∧ (∀ {α : Type} {n : Nat} {a : α}, (List.replicate n a).length = n) :=
 ⟨is_len, us_len, ps_len, evs_len, ids_len, evss_len, idss_len, tab_len, zA, fun f => zM f, zG, zP⟩
/-- readings of numbers and cells, in one -/
theorem rdT : (∀ n : Nat, (NatCast.natCast n : Int) = (n : Int)) ∧ (∀ i : Nat, (NatCast.natCast i : Int).toNat = i) ∧ (∀ {n : Int}, -9223372036854775808 ≤ n → n < 9223372036854775808 → w64 n = n)
  ∧ (∀ n : Nat, (n : Int).toNat = n) ∧ (0 : Int).toNat = 0 ∧ (∀ {α β : Type} {l : List α} (f : α → β), (l.map f).length = l.length)
  ∧ (∀ (cs : List AV) (off : Nat), (AV.agg cs).at off = cs.getD off .any) ∧ (∀ {z : Int}, 0 ≤ z → z < 9223372036854775808 → (BitVec.ofInt 64 z).toNat = z.toNat) ∧ BitVec.ofInt 64 1 = 1#64 ∧ BitVec.ofInt 64 0 = 0#64
  ∧ (∀ {α : Type} {a d : α} {l : List α}, (a :: l).getD 0 d = a) ∧ (∀ {α : Type} {a d : α} {l : List α} {n : Nat}, (a :: l).getD (n + 1) d = l.getD n d) :=
 ⟨nc, nct, fun h0 h1 => w64_of h0 h1, zT, zZ, fun f => zM f, at_agg, fun a b => bofZ a b, bof1, bof0, zC, zS⟩
/-- readings of truths, in one -/
theorem trT : (!true) = false ∧ (!false) = true ∧ (∀ {p : Prop} [Decidable p], (decide p = true) = p) ∧ (∀ {p : Prop} {_ : Decidable p}, decide p = false ↔ ¬p) ∧ (∀ {b : Bool}, (¬b = true) = (b = false)) ∧ (∀ {b : Bool}, (¬b = false) = (b = true))
  ∧ (∀ {a : Bool}, ((!a) = true) = (a = false)) ∧ (∀ {a : Bool}, ((!a) = false) = (a = true)) ∧ (∀ {α : Type} (a b : α), (a ≠ b) = ¬a = b) ∧ (∀ {p : Prop} [Decidable p], ¬¬p ↔ p) ∧ (∀ {a b : Int}, ¬a ≤ b ↔ b < a) ∧ (∀ {a b : Int}, ¬a < b ↔ b ≤ a)
  ∧ (∀ {α : Type} [BEq α] [LawfulBEq α] {a b : α}, (a == b) = true ↔ a = b) :=
 ⟨rfl, rfl, zD, zE, zB, zF, zN, zO, fun _ _ => rfl, zQ, zL, zR, beq_iff_eq⟩
/-- what is plainly so, in one -/
theorem anT : (∀ α : Type, (α → True) = True) ∧ (∀ p : Prop, (p → True) = True) ∧ (∀ p : Prop, (p ∧ True) = p) ∧ (∀ p : Prop, (True ∧ p) = p) ∧ (∀ (α : Type) [Nonempty α] (p : Prop), (α → p) ↔ p) :=
 ⟨fun _ => implies_true _, fun _ => implies_true _, fun _ => and_true _, fun _ => true_and _, fun _ _ _ => forall_const _⟩
structure Rd (g : Gr) : Prop where
 init : (g.init.length : Int) ≤ 9223372036854775807
 th : (g.th.length : Int) ≤ 9223372036854775807
 fr : (g.fr.length : Int) ≤ 9223372036854775807
 ord : (g.ord.length : Int) ≤ 9223372036854775807
 ths : ∀ l ∈ g.th, (l.length : Int) ≤ 9223372036854775807
 frs : ∀ l ∈ g.fr, (l.length : Int) ≤ 9223372036854775807
 ords : ∀ l ∈ g.ord, (l.length : Int) ≤ 9223372036854775807
def readsM (e : Ev) : Bool := decide (e.kind = 1) || decide (e.kind = 3)
def writesM (e : Ev) : Bool := decide (e.kind = 2) || decide (e.kind = 3)
variable {γ : Nat → Option AV}
theorem greads_ok (e : Ev) : Pure Tryz.prog γ false 76 [aEv e] (.b fun _ => readsM e) := by
 refine Pure.go (ty := ty) ty_eq mo Tryz.func76 rfl Tryz.ntmps76 Tryz.results76 Tryz.call76 (by simp) fun P C CQ D W F E hF => ?_
 cbv
 repeat' (first
  |(refine ⟨fun _ h_s=>?_,fun _ h_s=>?_⟩<;>(cbv;(try simp only [nc] at *);try simp (disch:=(first|omega|(simp only [lnS];omega))) only [rdT,rdS,reduceCtorEq,trT] at h_s))
  |(refine hF ?_;intro _;clear hF)
  |(refine hF ?_;cbv;clear hF)
  |(refine ⟨fun _=>?_,?_⟩;(· ((try simp only [nc] at *);first|done|omega|exact ⟨by omega,rfl⟩|(simp (disch:=(first|omega|(simp only [lnS];omega))) only [rdT,rdS];first|done|omega|rfl|exact ⟨by omega,rfl⟩|(simp;done)|(simp;omega))|(intros;trivial)));try cbv)
  | fail
 )
 all_goals simp_all [readsM]
theorem gwrites_ok (e : Ev) : Pure Tryz.prog γ false 77 [aEv e] (.b fun _ => writesM e) := by
 refine Pure.go (ty := ty) ty_eq mo Tryz.func77 rfl Tryz.ntmps77 Tryz.results77 Tryz.call77 (by simp) fun P C CQ D W F E hF => ?_
 cbv
 repeat' (first
  |(refine ⟨fun _ h_s=>?_,fun _ h_s=>?_⟩<;>(cbv;(try simp only [nc] at *);try simp (disch:=(first|omega|(simp only [lnS];omega))) only [rdT,rdS,reduceCtorEq,trT] at h_s))
  |(refine hF ?_;intro _;clear hF)
  |(refine hF ?_;cbv;clear hF)
  |(refine ⟨fun _=>?_,?_⟩;(· ((try simp only [nc] at *);first|done|omega|exact ⟨by omega,rfl⟩|(simp (disch:=(first|omega|(simp only [lnS];omega))) only [rdT,rdS];first|done|omega|rfl|exact ⟨by omega,rfl⟩|(simp;done)|(simp;omega))|(intros;trivial)));try cbv)
  | fail
 )
 all_goals simp_all [writesM]
theorem rreads_ok (e : Ev) : Pure Tryz.prog γ false 79 [aEv e] (.b fun _ => readsM e) := by
 refine Pure.go (ty := ty) ty_eq mo Tryz.func79 rfl Tryz.ntmps79 Tryz.results79 Tryz.call79 (by simp) fun P C CQ D W F E hF => ?_
 cbv
 repeat' (first
  |(refine ⟨fun _ h_s=>?_,fun _ h_s=>?_⟩<;>(cbv;(try simp only [nc] at *);try simp (disch:=(first|omega|(simp only [lnS];omega))) only [rdT,rdS,reduceCtorEq,trT] at h_s))
  |(refine hF ?_;intro _;clear hF)
  |(refine hF ?_;cbv;clear hF)
  |(refine ⟨fun _=>?_,?_⟩;(· ((try simp only [nc] at *);first|done|omega|exact ⟨by omega,rfl⟩|(simp (disch:=(first|omega|(simp only [lnS];omega))) only [rdT,rdS];first|done|omega|rfl|exact ⟨by omega,rfl⟩|(simp;done)|(simp;omega))|(intros;trivial)));try cbv)
  | fail
 )
 all_goals simp_all [readsM]
theorem rwrites_ok (e : Ev) : Pure Tryz.prog γ false 80 [aEv e] (.b fun _ => writesM e) := by
 refine Pure.go (ty := ty) ty_eq mo Tryz.func80 rfl Tryz.ntmps80 Tryz.results80 Tryz.call80 (by simp) fun P C CQ D W F E hF => ?_
 cbv
 repeat' (first
  |(refine ⟨fun _ h_s=>?_,fun _ h_s=>?_⟩<;>(cbv;(try simp only [nc] at *);try simp (disch:=(first|omega|(simp only [lnS];omega))) only [rdT,rdS,reduceCtorEq,trT] at h_s))
  |(refine hF ?_;intro _;clear hF)
  |(refine hF ?_;cbv;clear hF)
  |(refine ⟨fun _=>?_,?_⟩;(· ((try simp only [nc] at *);first|done|omega|exact ⟨by omega,rfl⟩|(simp (disch:=(first|omega|(simp only [lnS];omega))) only [rdT,rdS];first|done|omega|rfl|exact ⟨by omega,rfl⟩|(simp;done)|(simp;omega))|(intros;trivial)));try cbv)
  | fail
 )
 all_goals simp_all [writesM]
/-- may an event be, of so many locations? -/
def fineM (n : Int) (e : Ev) : Bool :=
 decide (1 ≤ e.kind ∧ e.kind ≤ 4 ∧ 1 ≤ e.order ∧ e.order ≤ 6) && (readsM e || decide (e.rd = 0)) && (writesM e || decide (e.wr = 0)) && (if e.kind = 4 then decide (e.loc = 0) else decide (0 ≤ e.loc ∧ e.loc < n))
theorem rightEvent_ok (e : Ev) (n : Int) : Pure Tryz.prog γ false 48 [aEv e, .i fun _ => n] (.b fun _ => fineM n e) := by
 refine Pure.go (ty := ty) ty_eq mo Tryz.func48 rfl Tryz.ntmps48 Tryz.results48 Tryz.call48 (by simp) fun P C CQ D W F E hF => ?_
 cbv
 repeat' (first
  |(refine E.c (SCalls.of_le (gwrites_ok e) ?_ ?_);(· (cbv;(try simp only [nc] at *);first|done|(simp;done)|(simp (disch:=(first|omega|(simp only [lnS];omega))) only [rdT,rdS,anT];first|done|omega|(refine ⟨?_,?_⟩<;>omega))|(simp (disch:=(first|omega|(simp only [lnS];omega))) [rdT,rdS];done)));cbv)
  |(refine E.c (SCalls.of_le (greads_ok e) ?_ ?_);(· (cbv;(try simp only [nc] at *);first|done|(simp;done)|(simp (disch:=(first|omega|(simp only [lnS];omega))) only [rdT,rdS,anT];first|done|omega|(refine ⟨?_,?_⟩<;>omega))|(simp (disch:=(first|omega|(simp only [lnS];omega))) [rdT,rdS];done)));cbv)
  |(refine ⟨fun _ h_s=>?_,fun _ h_s=>?_⟩<;>(cbv;(try simp only [nc] at *);try simp (disch:=(first|omega|(simp only [lnS];omega))) only [rdT,rdS,reduceCtorEq,trT] at h_s))
  |(refine hF ?_;intro _;clear hF)
  |(refine hF ?_;cbv;clear hF)
  |(refine ⟨fun _=>?_,?_⟩;(· ((try simp only [nc] at *);first|done|omega|exact ⟨by omega,rfl⟩|(simp (disch:=(first|omega|(simp only [lnS];omega))) only [rdT,rdS];first|done|omega|rfl|exact ⟨by omega,rfl⟩|(simp;done)|(simp;omega))|(intros;trivial)));try cbv)
  | fail
 )
 all_goals simp only [fineM]
 all_goals grind
theorem fine_ok (e : Ev) (g : Gr) : Pure Tryz.prog γ false 52 [aGr g, aEv e] (.b fun _ => fineM g.init.length e) := by
 refine Pure.go (ty := ty) ty_eq mo Tryz.func52 rfl Tryz.ntmps52 Tryz.results52 Tryz.call52 (by simp) fun P C CQ D W F E hF => ?_
 cbv
 repeat' (first
  |(refine E.c (SCalls.of_le (rwrites_ok e) ?_ ?_);(· (cbv;(try simp only [nc] at *);first|done|(simp;done)|(simp (disch:=(first|omega|(simp only [lnS];omega))) only [rdT,rdS,anT];first|done|omega|(refine ⟨?_,?_⟩<;>omega))|(simp (disch:=(first|omega|(simp only [lnS];omega))) [rdT,rdS];done)));cbv)
  |(refine E.c (SCalls.of_le (rreads_ok e) ?_ ?_);(· (cbv;(try simp only [nc] at *);first|done|(simp;done)|(simp (disch:=(first|omega|(simp only [lnS];omega))) only [rdT,rdS,anT];first|done|omega|(refine ⟨?_,?_⟩<;>omega))|(simp (disch:=(first|omega|(simp only [lnS];omega))) [rdT,rdS];done)));cbv)
  |(refine ⟨fun _ h_s=>?_,fun _ h_s=>?_⟩<;>(cbv;(try simp only [nc] at *);try simp (disch:=(first|omega|(simp only [lnS];omega))) only [rdT,rdS,reduceCtorEq,trT] at h_s))
  |(refine hF ?_;intro _;clear hF)
  |(refine hF ?_;cbv;clear hF)
  |(refine ⟨fun _=>?_,?_⟩;(· ((try simp only [nc] at *);first|done|omega|exact ⟨by omega,rfl⟩|(simp (disch:=(first|omega|(simp only [lnS];omega))) only [rdT,rdS];first|done|omega|rfl|exact ⟨by omega,rfl⟩|(simp;done)|(simp;omega))|(intros;trivial)));try cbv)
  | fail
 )
 all_goals (try simp only [fineM])
 all_goals (try simp only [nc, is_len])
 all_goals grind
end Go.AL.Rl

namespace Go.AL.Rl
open Go Go.AL Go.Proofs
set_option maxRecDepth 100000
variable {γ : Nat → Option AV}

/-- the event of an Id -/
def eventM (g : Gr) (d : EId) : Option Ev :=
 if d.t = 0 then (if 0 ≤ d.i ∧ d.i < g.init.length then some ⟨2, d.i, 1, 0, g.init.getD d.i.toNat 0⟩ else none)
 else if 0 < d.t ∧ d.t ≤ g.th.length ∧ 0 ≤ d.i ∧ d.i < (g.th.getD (d.t - 1).toNat []).length then some ((g.th.getD (d.t - 1).toNat []).getD d.i.toNat ev0) else none
theorem revent_ok (g : Gr) (hg : Rd g) (d : EId) : Pure Tryz.prog γ false 81 [aGr g, aId d] (.tup [aEv ((eventM g d).getD ev0), .b fun _ => (eventM g d).isSome]) := by
 have hg1 := hg.init
 have hg2 := hg.th
 refine Pure.go (ty := ty) ty_eq mo Tryz.func81 rfl Tryz.ntmps81 Tryz.results81 Tryz.call81 (by simp) fun P C CQ D W F E hF => ?_
 cbv
 repeat' (first
  |(refine ⟨fun _ h_s=>?_,fun _ h_s=>?_⟩<;>(cbv;(try simp only [nc] at *);try simp (disch:=(first|omega|(simp only [lnS];omega))) only [rdT,rdS,reduceCtorEq,trT] at h_s))
  |(refine hF ?_;intro _;clear hF)
  |(refine hF ?_;cbv;clear hF)
  |(refine ⟨fun _=>?_,?_⟩;(· ((try simp only [nc] at *);first|done|omega|exact ⟨by omega,rfl⟩|(simp (disch:=(first|omega|(simp only [lnS];omega))) only [rdT,rdS];first|done|omega|rfl|exact ⟨by omega,rfl⟩|(simp;done)|(simp;omega))|(intros;trivial)));try cbv)
  |(refine E.d 8 (by decide +kernel) ?_;cbv;(fail_if_success guard_target =~ False))
  |(refine E.d 9 (by decide +kernel) ?_;cbv;(fail_if_success guard_target =~ False))
  |(refine E.d 27 (by decide +kernel) ?_;cbv;(fail_if_success guard_target =~ False))
  | fail
 )
 all_goals (try simp only [nc] at *)
 all_goals (try simp (disch:=(first|omega|(simp only [lnS];omega))) only [rdT,rdS])
 all_goals first
  | (
    have e : eventM g d = none := by (unfold eventM; split <;> split <;> first | rfl | omega)
    rw [e]; simp; done)
  | (
    have e : eventM g d = some ⟨2, d.i, 1, 0, g.init.getD d.i.toNat 0⟩ := by (unfold eventM; split <;> split <;> first | rfl | omega)
    rw [e]; simp; done)
  | (
    have e : eventM g d = some ((g.th.getD (d.t - 1).toNat []).getD d.i.toNat ev0) := by (unfold eventM; split <;> split <;> first | rfl | omega)
    rw [e]; simp; done)
  | skip
end Go.AL.Rl

namespace Go.AL.Rl
open Go Go.AL Go.Proofs
set_option maxRecDepth 100000
variable {γ : Nat → Option AV}

def sourceM (g : Gr) (d f : EId) : Bool :=
 if readsM ((eventM g d).getD ev0) = true then (match eventM g f with | some w => decide (f ≠ d) && writesM w && decide (w.loc = ((eventM g d).getD ev0).loc) && decide (w.wr = ((eventM g d).getD ev0).rd) | none => false) else decide (f = id0)
theorem eid_iff (a b : EId) : a = b ↔ a.t = b.t ∧ a.i = b.i := ⟨fun h => by subst h; exact ⟨rfl, rfl⟩, fun h => EId.ext' h.1 h.2⟩
theorem source_ok (g : Gr) (hg : Rd g) (d f : EId) : Pure Tryz.prog γ false 53 [aGr g, aId d, aId f] (.b fun _ => sourceM g d f) := by
 refine Pure.go (ty := ty) ty_eq mo Tryz.func53 rfl Tryz.ntmps53 Tryz.results53 Tryz.call53 (by simp) fun P C CQ D W F E hF => ?_
 cbv
 repeat' (first
  |(refine E.c (SCalls.of_le (rwrites_ok ((eventM g f).getD ev0)) ?_ ?_);(· (cbv;(try simp only [nc] at *);first|done|(simp;done)|(simp (disch:=(first|omega|(simp only [lnS];omega))) only [rdT,rdS,anT];first|done|omega|(refine ⟨?_,?_⟩<;>omega))|(simp (disch:=(first|omega|(simp only [lnS];omega))) [rdT,rdS];done)));cbv)
  |(refine E.c (SCalls.of_le (rreads_ok ((eventM g d).getD ev0)) ?_ ?_);(· (cbv;(try simp only [nc] at *);first|done|(simp;done)|(simp (disch:=(first|omega|(simp only [lnS];omega))) only [rdT,rdS,anT];first|done|omega|(refine ⟨?_,?_⟩<;>omega))|(simp (disch:=(first|omega|(simp only [lnS];omega))) [rdT,rdS];done)));cbv)
  |(refine E.c (SCalls.of_le (revent_ok g hg f) ?_ ?_);(· (cbv;(try simp only [nc] at *);first|done|(simp;done)|(simp (disch:=(first|omega|(simp only [lnS];omega))) only [rdT,rdS,anT];first|done|omega|(refine ⟨?_,?_⟩<;>omega))|(simp (disch:=(first|omega|(simp only [lnS];omega))) [rdT,rdS];done)));cbv)
  |(refine E.c (SCalls.of_le (revent_ok g hg d) ?_ ?_);(· (cbv;(try simp only [nc] at *);first|done|(simp;done)|(simp (disch:=(first|omega|(simp only [lnS];omega))) only [rdT,rdS,anT];first|done|omega|(refine ⟨?_,?_⟩<;>omega))|(simp (disch:=(first|omega|(simp only [lnS];omega))) [rdT,rdS];done)));cbv)
  |(refine ⟨fun _ h_s=>?_,fun _ h_s=>?_⟩<;>(cbv;(try simp only [nc] at *);try simp (disch:=(first|omega|(simp only [lnS];omega))) only [rdT,rdS,reduceCtorEq,trT] at h_s))
  |(refine hF ?_;intro _;clear hF)
  |(refine hF ?_;cbv;clear hF)
  |(refine ⟨fun _=>?_,?_⟩;(· ((try simp only [nc] at *);first|done|omega|exact ⟨by omega,rfl⟩|(simp (disch:=(first|omega|(simp only [lnS];omega))) only [rdT,rdS];first|done|omega|rfl|exact ⟨by omega,rfl⟩|(simp;done)|(simp;omega))|(intros;trivial)));try cbv)
  | fail
 )
 all_goals (try simp only [nc] at *)
 all_goals (try simp (disch:=(first|omega|(simp only [lnS];omega))) only [rdT,rdS])
 all_goals (unfold sourceM; cases hf : eventM g f <;> simp_all [eid_iff])

def cntE (x : Int) (l : List Ev) : Nat := l.countP fun e => writesM e && decide (e.loc = x)
def cntT (x : Int) (ts : List (List Ev)) : Nat := (ts.map (cntE x)).sum
theorem take_succ' {α : Type} (l : List α) (i : Nat) (d : α) (h : i < l.length) : l.take (i + 1) = l.take i ++ [l.getD i d] := by
 rw [List.take_succ_eq_append_getElem h]; simp [h]
theorem cntE_succ (x : Int) (l : List Ev) (i : Nat) (h : i < l.length) : cntE x (l.take (i + 1)) = cntE x (l.take i) + if (writesM (l.getD i ev0) && decide ((l.getD i ev0).loc = x)) = true then 1 else 0 := by
 rw [take_succ' l i ev0 h, cntE, List.countP_append]; simp [cntE, List.countP_cons]
theorem cntT_succ (x : Int) (ts : List (List Ev)) (t : Nat) (h : t < ts.length) : cntT x (ts.take (t + 1)) = cntT x (ts.take t) + cntE x (ts.getD t []) := by
 rw [take_succ' ts t [] h, cntT, List.map_append, List.sum_append]; simp [cntT]
theorem cntE_le (x : Int) (l : List Ev) : cntE x l ≤ l.length := List.countP_le_length
theorem cntE_take (x : Int) (l : List Ev) (i : Nat) : cntE x (l.take i) ≤ l.length := Nat.le_trans (cntE_le x _) (by simp; omega)
/-- few threads, few events, few locations -/
structure Short (g : Gr) : Prop where
 th : g.th.length ≤ 4
 init : g.init.length ≤ 6
 ths : ∀ l ∈ g.th, l.length ≤ 14
theorem Short.at {g : Gr} (h : Short g) (t : Nat) : (g.th.getD t []).length ≤ 14 := by
 rcases Nat.lt_or_ge t g.th.length with h1 | h1
 ·exact h.ths _ (getD_mem h1)
 ·simp [List.getElem?_eq_none h1]
theorem cntT_le {ts : List (List Ev)} (x : Int) (h : ∀ l ∈ ts, l.length ≤ 14) : cntT x ts ≤ 14 * ts.length := by
 induction ts with
 | nil => simp [cntT]
 | cons l ts ih =>
  have := ih fun l hl => h l (by simp [hl])
  have h1 := cntE_le x l
  have h2 := h l (by simp)
  simp only [cntT, List.map_cons, List.sum_cons, List.length_cons] at this ⊢
  omega
theorem cntT_take {g : Gr} (h : Short g) (x : Int) (t : Nat) : cntT x (g.th.take t) ≤ 56 := by
 have h1 := cntT_le x (ts := g.th.take t) fun l hl => h.ths l (List.mem_of_mem_take hl)
 have h2 := h.th
 have h3 : (g.th.take t).length ≤ g.th.length := by simp; omega
 omega
/-- an event of a thread that writes there -/
def isW (g : Gr) (x : Int) (d : EId) : Bool := match eventM g d with | some e => decide (d.t ≠ 0) && writesM e && decide (e.loc = x) | none => false
def orderedM (g : Gr) (x : Nat) : Bool :=
 decide (∀ i < (g.ord.getD x []).length, isW g x ((g.ord.getD x []).getD i id0) = true ∧ ∀ k < i, (g.ord.getD x []).getD k id0 ≠ (g.ord.getD x []).getD i id0) && decide ((g.ord.getD x []).length = cntT x g.th)

theorem orderedM_no {g : Gr} {x : Nat} {l : List EId} (hl : g.ord.getD x [] = l) (i : Nat) (hi : i < l.length) (h : ¬ (isW g x (l.getD i id0) = true ∧ ∀ k < i, l.getD k id0 ≠ l.getD i id0)) : orderedM g x = false := by
 unfold orderedM
 rw [hl, Bool.and_eq_false_iff]
 left
 exact decide_eq_false fun hall => h (hall i hi)
theorem ordered_ok (g : Gr) (hg : Rd g) (hs : Short g) (x : Nat) (hx : x < g.ord.length) : Pure Tryz.prog γ false 54 [aGr g, .i fun _ => (x : Int)] (.b fun _ => orderedM g x) := by
 have hg2 := hg.ord
 have hs1 := hs.th
 have hol : ((g.ord.getD x []).length : Int) ≤ 9223372036854775807 := hg.ords _ (getD_mem hx)
 refine Pure.go (ty := ty) ty_eq mo Tryz.func54 rfl Tryz.ntmps54 Tryz.results54 Tryz.call54 (by simp) fun P C CQ D W F E hF => ?_
 cbv
 refine E.loopS (ι:=Nat) (fun t=>t≤g.th.length) (fun t=>g.th.length - t) (fun t=>[(6,.i fun _=>((t : Nat) : Int)),(5,.i fun _=>((cntT x (g.th.take t) : Nat) : Int))]) (fun t h=>h) 0 (fun _=>by first|rfl|simp) (Nat.zero_le _) ?_ fun t ht I hI=>?_
 ·cbv; simp [cntT]
 cbv
 refine ⟨fun _ h4 => ?_, fun _ h4 => ?_⟩
 ·(try simp only [nc] at *)
  simp (disch:=(first|omega|(simp only [lnS];omega))) only [rdT,rdS,reduceCtorEq,trT] at h4
  have hs2 := hs.at t
  have hct := cntT_succ x g.th t (by omega)
  have hcl := cntT_take hs x t
  cbv
  refine E.loopS (ι:=Nat) (fun i=>i≤(g.th.getD t []).length) (fun i=>(g.th.getD t []).length - i) (fun i=>[(7,.i fun _=>((i : Nat) : Int)),(5,.i fun _=>((cntT x (g.th.take t) + cntE x ((g.th.getD t []).take i) : Nat) : Int))]) (fun i h=>h) 0 (fun _=>by first|rfl|simp) (Nat.zero_le _) ?_ fun i hi I2 hI2=>?_
  ·cbv; simp [cntE]
  cbv
  have hce := cntE_succ x (g.th.getD t []) i
  have hcm := cntE_take x (g.th.getD t []) i
  repeat' (first
   |(refine hI (t + 1) ?_ ?_ ?_;rotate_left 1;(· ((try simp only [nc] at *);omega));(cbv;clear hI;(try clear hF);(try simp only [nc] at *);(try simp (disch:=(first|omega|(simp only [lnS];omega))) only [rdT,rdS,anT]));rotate_left 1;(try ((try simp only [nc] at *);omega)))
   |(refine hI2 (i + 1) ?_ ?_ ?_;rotate_left 1;(· ((try simp only [nc] at *);omega));(cbv;clear hI2;(try clear hF);(try simp only [nc] at *);(try simp (disch:=(first|omega|(simp only [lnS];omega))) only [rdT,rdS,anT]));rotate_left 1;(try ((try simp only [nc] at *);omega)))
   |(refine E.c (SCalls.of_le (rwrites_ok ((g.th.getD t []).getD i ev0)) ?_ ?_);(· (cbv;(try simp only [nc] at *);first|done|(simp;done)|(simp (disch:=(first|omega|(simp only [lnS];omega))) only [rdT,rdS,anT];first|done|omega|(refine ⟨?_,?_⟩<;>omega))|(simp (disch:=(first|omega|(simp only [lnS];omega))) [rdT,rdS];done)));cbv)
   |(refine ⟨fun _ h_s=>?_,fun _ h_s=>?_⟩<;>(cbv;(try simp only [nc] at *);try simp (disch:=(first|omega|(simp only [lnS];omega))) only [rdT,rdS,reduceCtorEq,trT] at h_s))
   |(refine hF ?_;intro _;clear hF)
   |(refine hF ?_;cbv;clear hF)
   |(refine ⟨fun _=>?_,?_⟩;(· ((try simp only [nc] at *);first|done|omega|exact ⟨by omega,rfl⟩|(simp (disch:=(first|omega|(simp only [lnS];omega))) only [rdT,rdS];first|done|omega|rfl|exact ⟨by omega,rfl⟩|(simp;done)|(simp;omega))|(intros;trivial)));try cbv)
   |(refine E.d 8 (by decide +kernel) ?_;cbv;(fail_if_success guard_target =~ False))
   | fail
  )
  iterate 3
   ·rw [hce (by omega)]
    clear hct hce hcl hcm hs2
    generalize (g.th.getD t []).getD i ev0 = e at *
    simp only [*, decide_true, decide_false, Bool.and_self, Bool.true_and, Bool.false_and, if_true, if_false, Bool.false_eq_true]
    omega
  ·rw [hct]
   have e : i = (g.th.getD t []).length := by omega
   rw [e, List.take_length]; simp
 ·(try simp only [nc] at *)
  simp (disch:=(first|omega|(simp only [lnS];omega))) only [rdT,rdS,reduceCtorEq,trT] at h4
  have ht' : t = g.th.length := by omega
  subst ht'
  rw [List.take_length]
  cbv
  refine ⟨fun _ => ?_, ?_⟩
  ·((try simp only [nc] at *);first|done|omega|exact ⟨by omega,rfl⟩|(simp (disch:=(first|omega|(simp only [lnS];omega))) only [rdT,rdS];first|done|omega|rfl|exact ⟨by omega,rfl⟩|(simp;done)|(simp;omega))|(intros;trivial))
  try cbv
  refine ⟨fun _ => ?_, ?_⟩
  ·((try simp only [nc] at *);first|done|omega|exact ⟨by omega,rfl⟩|(simp (disch:=(first|omega|(simp only [lnS];omega))) only [rdT,rdS];first|done|omega|rfl|exact ⟨by omega,rfl⟩|(simp;done)|(simp;omega))|(intros;trivial))
  try cbv
  simp only [nct, idss_get g.ord x hx, at_l]
  have hcl : cntT x g.th ≤ 56 := by have := cntT_take hs x g.th.length; rwa [List.take_length] at this
  generalize hl : g.ord.getD x [] = l at *
  refine E.loopS (ι:=Nat) (fun i=>i≤l.length∧(∀ j < i,isW g x (l.getD j id0) = true∧∀ k < j,l.getD k id0 ≠ l.getD j id0)) (fun i=>l.length - i) (fun i=>[(9,.i fun _=>((i : Nat) : Int))]) (fun i h=>h) 0 (fun _=>by first|rfl|simp) ⟨Nat.zero_le _,?_⟩ ?_ fun i hi I hI=>?_
  ·intro j hj; omega
  ·cbv; simp
  obtain ⟨hi, hok⟩ := hi
  cbv
  refine ⟨fun _ h5 => ?_, fun _ h5 => ?_⟩
  ·(try simp only [nc] at *)
   simp (disch:=(first|omega|(simp only [lnS];omega))) only [rdT,rdS,reduceCtorEq,trT] at h5
   cbv
   repeat' (first
    |(refine E.c (SCalls.of_le (rwrites_ok ((eventM g (l.getD i id0)).getD ev0)) ?_ ?_);(· (cbv;(try simp only [nc] at *);first|done|(simp;done)|(simp (disch:=(first|omega|(simp only [lnS];omega))) only [rdT,rdS,anT];first|done|omega|(refine ⟨?_,?_⟩<;>omega))|(simp (disch:=(first|omega|(simp only [lnS];omega))) [rdT,rdS];done)));cbv)
    |((first|refine E.c (SCalls.of_le (revent_ok g hg (l.getD i id0)) ?_ ?_)|refine E.q (QCalls.of_le (revent_ok g hg (l.getD i id0)) ?_ ?_));(· (cbv;(try simp only [nc] at *);first|done|(simp;done)|(simp (disch:=(first|omega|(simp only [lnS];omega))) only [rdT,rdS,anT];first|done|omega|(refine ⟨?_,?_⟩<;>omega))|(simp (disch:=(first|omega|(simp only [lnS];omega))) [rdT,rdS];done)));cbv)
    |(refine E.de 12 [] [none] (by decide +kernel) ?_;cbv;(fail_if_success guard_target =~ False))
    |(refine ⟨fun _ h_s=>?_,fun _ h_s=>?_⟩<;>(cbv;(try simp only [nc] at *);try simp (disch:=(first|omega|(simp only [lnS];omega))) only [rdT,rdS,reduceCtorEq,trT] at h_s))
    |(refine hF ?_;intro _;clear hF)
    |(refine hF ?_;cbv;clear hF)
    |(refine ⟨fun _=>?_,?_⟩;(· ((try simp only [nc] at *);first|done|omega|exact ⟨by omega,rfl⟩|(simp (disch:=(first|omega|(simp only [lnS];omega))) only [rdT,rdS];first|done|omega|rfl|exact ⟨by omega,rfl⟩|(simp;done)|(simp;omega))|(intros;trivial)));try cbv)
    |(refine E.d 8 (by decide +kernel) ?_;cbv;(fail_if_success guard_target =~ False))
    | fail
   )
   all_goals (try simp only [nc] at *)
   all_goals (try simp (disch:=(first|omega|(simp only [lnS];omega))) only [rdT,rdS])
   rotate_right 1
   ·have hw : isW g x (l.getD i id0) = true := by
     unfold isW; cases hf : eventM g (l.getD i id0) <;> simp_all
    refine E.loopS (ι:=Nat) (fun k=>k≤i∧(∀ j < k,l.getD j id0 ≠ l.getD i id0)) (fun k=>i - k) (fun k=>[(12,.i fun _=>((k : Nat) : Int))]) (fun k h=>h) 0 (fun _=>by first|rfl|simp) ⟨Nat.zero_le _,?_⟩ ?_ fun k hk I2 hI2=>?_
    ·intro j hj; omega
    ·cbv; simp
    obtain ⟨hk, hokk⟩ := hk
    cbv
    repeat' (first
     |(refine hI (i + 1) ?_ ?_ ?_;rotate_left 1;(· ((try simp only [nc] at *);omega));(cbv;clear hI;(try clear hF);(try simp only [nc] at *);(try simp (disch:=(first|omega|(simp only [lnS];omega))) only [rdT,rdS,anT]));rotate_left 1;(try ((try simp only [nc] at *);omega)))
     |(refine hI2 (k + 1) ?_ ?_ ?_;rotate_left 1;(· ((try simp only [nc] at *);omega));(cbv;clear hI2;(try clear hF);(try simp only [nc] at *);(try simp (disch:=(first|omega|(simp only [lnS];omega))) only [rdT,rdS,anT]));rotate_left 1;(try ((try simp only [nc] at *);omega)))
     |(refine ⟨fun _ h_s=>?_,fun _ h_s=>?_⟩<;>(cbv;(try simp only [nc] at *);try simp (disch:=(first|omega|(simp only [lnS];omega))) only [rdT,rdS,reduceCtorEq,trT] at h_s))
     |(refine hF ?_;intro _;clear hF)
     |(refine hF ?_;cbv;clear hF)
     |(refine ⟨fun _=>?_,?_⟩;(· ((try simp only [nc] at *);first|done|omega|exact ⟨by omega,rfl⟩|(simp (disch:=(first|omega|(simp only [lnS];omega))) only [rdT,rdS];first|done|omega|rfl|exact ⟨by omega,rfl⟩|(simp;done)|(simp;omega))|(intros;trivial)));try cbv)
     |(refine E.d 8 (by decide +kernel) ?_;cbv;(fail_if_success guard_target =~ False))
     | fail
    )
    all_goals (try simp only [nc] at *)
    all_goals (try simp (disch:=(first|omega|(simp only [lnS];omega))) only [rdT,rdS])
    ·refine orderedM_no hl i (by omega) fun h => h.2 k ?_ ((eid_iff _ _).2 ?_)
     ·omega
     ·simp_all
    ·refine ⟨by omega, fun j hj => ?_⟩
     rcases Nat.lt_or_ge j k with h | h
     ·exact hokk j h
     ·obtain rfl : j = k := by omega
      intro he
      rw [eid_iff] at he
      simp_all
    ·omega
    ·refine ⟨by omega, fun j hj => ?_⟩
     rcases Nat.lt_or_ge j i with h | h
     ·exact hok j h
     ·obtain rfl : j = i := by omega
      exact ⟨hw, fun k hk => hokk k (by omega)⟩
    ·omega
   all_goals
    refine orderedM_no hl i (by omega) fun h => ?_
    have h := h.1
    unfold isW at h
    cases hf : eventM g (l.getD i id0) <;> simp_all
  ·(try simp only [nc] at *)
   simp (disch:=(first|omega|(simp only [lnS];omega))) only [rdT,rdS,reduceCtorEq,trT] at h5
   cbv
   repeat' (first
    |(refine ⟨fun _ h_s=>?_,fun _ h_s=>?_⟩<;>(cbv;(try simp only [nc] at *);try simp (disch:=(first|omega|(simp only [lnS];omega))) only [rdT,rdS,reduceCtorEq,trT] at h_s))
    |(refine hF ?_;intro _;clear hF)
    |(refine hF ?_;cbv;clear hF)
    |(refine ⟨fun _=>?_,?_⟩;(· ((try simp only [nc] at *);first|done|omega|exact ⟨by omega,rfl⟩|(simp (disch:=(first|omega|(simp only [lnS];omega))) only [rdT,rdS];first|done|omega|rfl|exact ⟨by omega,rfl⟩|(simp;done)|(simp;omega))|(intros;trivial)));try cbv)
    |(refine E.d 8 (by decide +kernel) ?_;cbv;(fail_if_success guard_target =~ False))
    | fail
   )
   all_goals (try simp only [nc] at *)
   all_goals (try simp (disch:=(first|omega|(simp only [lnS];omega))) only [rdT,rdS])
   have e : i = l.length := by omega
   subst e
   unfold orderedM
   rw [hl, decide_eq_true (p := ∀ i < l.length, _) hok]
   simp
   omega

def eventsOk (g : Gr) : Prop := ∀ t < g.th.length, (g.fr.getD t []).length = (g.th.getD t []).length ∧ ∀ i < (g.th.getD t []).length, fineM g.init.length ((g.th.getD t []).getD i ev0) = true
def sourcesOk (g : Gr) : Prop := ∀ t < g.th.length, ∀ i < (g.th.getD t []).length, sourceM g ⟨t + 1, i⟩ ((g.fr.getD t []).getD i id0) = true
def ordersOk (g : Gr) : Prop := ∀ x < g.init.length, orderedM g x = true
instance (g : Gr) : Decidable (eventsOk g) := inferInstanceAs (Decidable (∀ t < g.th.length, _))
instance (g : Gr) : Decidable (sourcesOk g) := inferInstanceAs (Decidable (∀ t < g.th.length, _))
instance (g : Gr) : Decidable (ordersOk g) := inferInstanceAs (Decidable (∀ x < g.init.length, _))
/-- it may be -/
structure GOk (g : Gr) : Prop where
 short : Short g
 lfr : g.fr.length = g.th.length
 lord : g.ord.length = g.init.length
 events : eventsOk g
 sources : sourcesOk g
 orders : ordersOk g
instance (g : Gr) : Decidable (Short g) := decidable_of_iff (g.th.length ≤ 4 ∧ g.init.length ≤ 6 ∧ ∀ l ∈ g.th, l.length ≤ 14) ⟨fun h => ⟨h.1, h.2.1, h.2.2⟩, fun h => ⟨h.1, h.2, h.3⟩⟩
instance (g : Gr) : Decidable (GOk g) := decidable_of_iff (Short g ∧ g.fr.length = g.th.length ∧ g.ord.length = g.init.length ∧ eventsOk g ∧ sourcesOk g ∧ ordersOk g) ⟨fun h => ⟨h.1, h.2.1, h.2.2.1, h.2.2.2.1, h.2.2.2.2.1, h.2.2.2.2.2⟩, fun h => ⟨h.1, h.2, h.3, h.4, h.5, h.6⟩⟩
def gcheckM (g : Gr) : Int := if Short g then (if GOk g then 0 else 2) else 3
theorem gcheck3 {g : Gr} (h : ¬ Short g) : gcheckM g = 3 := if_neg h
theorem gcheck2 {g : Gr} (h : Short g) (h2 : ¬ GOk g) : gcheckM g = 2 := by unfold gcheckM; rw [if_pos h, if_neg h2]
theorem gcheck0 {g : Gr} (h2 : GOk g) : gcheckM g = 0 := by unfold gcheckM; rw [if_pos h2.short, if_pos h2]

end Go.AL.Rl

namespace Go.AL.Rl
open Go Go.AL Go.Proofs
set_option maxRecDepth 100000
variable {γ : Nat → Option AV}

theorem check14_ok (g : Gr) (hg : Rd g) : Pure Tryz.prog γ false 24 [aGr g] (.i fun _ => gcheckM g) := by
 have hg1 := hg.th
 have hg2 := hg.init
 refine Pure.go (ty := ty) ty_eq mo Tryz.func24 rfl Tryz.ntmps24 Tryz.results24 Tryz.call24 (by simp) fun P C CQ D W F E hF => ?_
 cbv
 repeat' (first
  |(refine ⟨fun _ h_s=>?_,fun _ h_s=>?_⟩<;>(cbv;(try simp only [nc] at *);try simp (disch:=(first|omega|(simp only [lnS];omega))) only [rdT,rdS,reduceCtorEq,trT] at h_s))
  |(refine hF ?_;intro _;clear hF)
  |(refine hF ?_;cbv;clear hF)
  |(refine ⟨fun _=>?_,?_⟩;(· ((try simp only [nc] at *);first|done|omega|exact ⟨by omega,rfl⟩|(simp (disch:=(first|omega|(simp only [lnS];omega))) only [rdT,rdS];first|done|omega|rfl|exact ⟨by omega,rfl⟩|(simp;done)|(simp;omega))|(intros;trivial)));try cbv)
  |(refine E.d 9 (by decide +kernel) ?_;cbv;(fail_if_success guard_target =~ False))
  |(refine E.d 12 (by decide +kernel) ?_;cbv;(fail_if_success guard_target =~ False))
  |(refine E.d 13 (by decide +kernel) ?_;cbv;(fail_if_success guard_target =~ False))
  | fail
 )
 all_goals (try simp only [nc] at *)
 all_goals (try simp (disch:=(first|omega|(simp only [lnS];omega))) only [rdT,rdS])
 ·exact (gcheck3 fun h => by have := h.th; omega).symm
 ·exact (gcheck3 fun h => by have := h.init; omega).symm
 refine E.loopS (ι:=Nat) (fun t=>t≤g.th.length∧(∀ j < t,(g.th.getD j []).length≤14)) (fun t=>g.th.length - t) (fun t=>[(3,.i fun _=>((t : Nat) : Int))]) (fun t h=>h) 0 (fun _=>by first|rfl|simp) ⟨Nat.zero_le _,?_⟩ ?_ fun t ht I hI=>?_
 ·intro j hj; omega
 ·cbv; simp
 obtain ⟨ht, hok⟩ := ht
 cbv
 refine ⟨fun _ h4 => ?_, fun _ h4 => ?_⟩
 ·(try simp only [nc] at *)
  simp (disch:=(first|omega|(simp only [lnS];omega))) only [rdT,rdS,reduceCtorEq,trT] at h4
  cbv
  repeat' (first
   |(refine hI (t + 1) ?_ ?_ ?_;rotate_left 1;(· ((try simp only [nc] at *);omega));(cbv;clear hI;(try clear hF);(try simp only [nc] at *);(try simp (disch:=(first|omega|(simp only [lnS];omega))) only [rdT,rdS,anT]));rotate_left 1;(try ((try simp only [nc] at *);omega)))
   |(refine ⟨fun _ h_s=>?_,fun _ h_s=>?_⟩<;>(cbv;(try simp only [nc] at *);try simp (disch:=(first|omega|(simp only [lnS];omega))) only [rdT,rdS,reduceCtorEq,trT] at h_s))
   |(refine hF ?_;intro _;clear hF)
   |(refine hF ?_;cbv;clear hF)
   |(refine ⟨fun _=>?_,?_⟩;(· ((try simp only [nc] at *);first|done|omega|exact ⟨by omega,rfl⟩|(simp (disch:=(first|omega|(simp only [lnS];omega))) only [rdT,rdS];first|done|omega|rfl|exact ⟨by omega,rfl⟩|(simp;done)|(simp;omega))|(intros;trivial)));try cbv)
   |(refine E.d 9 (by decide +kernel) ?_;cbv;(fail_if_success guard_target =~ False))
   |(refine E.d 12 (by decide +kernel) ?_;cbv;(fail_if_success guard_target =~ False))
   |(refine E.d 13 (by decide +kernel) ?_;cbv;(fail_if_success guard_target =~ False))
   | fail
  )
  all_goals (try simp only [nc] at *)
  all_goals (try simp (disch:=(first|omega|(simp only [lnS];omega))) only [rdT,rdS])
  ·exact (gcheck3 fun h => by have := h.at t; omega).symm
  ·refine ⟨by omega, fun j hj => ?_⟩
   rcases Nat.lt_or_ge j t with h | h
   ·exact hok j h
   ·obtain rfl : j = t := by omega
    omega
  ·omega
 clear hI
 (try simp only [nc] at *)
 simp (disch:=(first|omega|(simp only [lnS];omega))) only [rdT,rdS,reduceCtorEq,trT] at h4
 have e : t = g.th.length := by omega
 subst e
 (try simp only [nc] at *)
 have hsh : Short g := ⟨by omega, by omega, fun l hl => by
  obtain ⟨j, hj, rfl⟩ := List.getElem_of_mem hl
  simpa [hj] using hok j hj⟩
 cbv
 repeat' (first
  |(refine ⟨fun _ h_s=>?_,fun _ h_s=>?_⟩<;>(cbv;(try simp only [nc] at *);try simp (disch:=(first|omega|(simp only [lnS];omega))) only [rdT,rdS,reduceCtorEq,trT] at h_s))
  |(refine hF ?_;intro _;clear hF)
  |(refine hF ?_;cbv;clear hF)
  |(refine ⟨fun _=>?_,?_⟩;(· ((try simp only [nc] at *);first|done|omega|exact ⟨by omega,rfl⟩|(simp (disch:=(first|omega|(simp only [lnS];omega))) only [rdT,rdS];first|done|omega|rfl|exact ⟨by omega,rfl⟩|(simp;done)|(simp;omega))|(intros;trivial)));try cbv)
  |(refine E.d 9 (by decide +kernel) ?_;cbv;(fail_if_success guard_target =~ False))
  |(refine E.d 12 (by decide +kernel) ?_;cbv;(fail_if_success guard_target =~ False))
  |(refine E.d 13 (by decide +kernel) ?_;cbv;(fail_if_success guard_target =~ False))
  | fail
 )
 all_goals (try simp only [nc] at *)
 all_goals (try simp (disch:=(first|omega|(simp only [lnS];omega))) only [rdT,rdS])
 ·exact (gcheck2 hsh fun h => by have := h.lfr; omega).symm
 ·exact (gcheck2 hsh fun h => by have := h.lord; omega).symm
 have hlf : g.fr.length = g.th.length := by omega
 have hlo : g.ord.length = g.init.length := by omega
 -- events
 refine E.loopS (ι:=Nat) (fun t=>t≤g.th.length∧(∀ j < t,(g.fr.getD j []).length = (g.th.getD j []).length∧∀ i < (g.th.getD j []).length,fineM g.init.length ((g.th.getD j []).getD i ev0) = true)) (fun t=>g.th.length - t) (fun t=>[(4,.i fun _=>((t : Nat) : Int))]) (fun t h=>h) 0 (fun _=>by first|rfl|simp) ⟨Nat.zero_le _,?_⟩ ?_ fun t ht I hI=>?_
 ·intro j hj; omega
 ·cbv; simp
 obtain ⟨ht, hok⟩ := ht
 cbv
 refine ⟨fun _ h4 => ?_, fun _ h4 => ?_⟩
 ·(try simp only [nc] at *)
  simp (disch:=(first|omega|(simp only [lnS];omega))) only [rdT,rdS,reduceCtorEq,trT] at h4
  have hht := hsh.at t
  cbv
  repeat' (first
   |(refine ⟨fun _ h_s=>?_,fun _ h_s=>?_⟩<;>(cbv;(try simp only [nc] at *);try simp (disch:=(first|omega|(simp only [lnS];omega))) only [rdT,rdS,reduceCtorEq,trT] at h_s))
   |(refine hF ?_;intro _;clear hF)
   |(refine hF ?_;cbv;clear hF)
   |(refine ⟨fun _=>?_,?_⟩;(· ((try simp only [nc] at *);first|done|omega|exact ⟨by omega,rfl⟩|(simp (disch:=(first|omega|(simp only [lnS];omega))) only [rdT,rdS];first|done|omega|rfl|exact ⟨by omega,rfl⟩|(simp;done)|(simp;omega))|(intros;trivial)));try cbv)
   |(refine E.d 9 (by decide +kernel) ?_;cbv;(fail_if_success guard_target =~ False))
   |(refine E.d 12 (by decide +kernel) ?_;cbv;(fail_if_success guard_target =~ False))
   |(refine E.d 13 (by decide +kernel) ?_;cbv;(fail_if_success guard_target =~ False))
   | fail
  )
  all_goals (try simp only [nc] at *)
  all_goals (try simp (disch:=(first|omega|(simp only [lnS];omega))) only [rdT,rdS])
  ·exact (gcheck2 hsh fun h => by have := (h.events t (by omega)).1; omega).symm
  refine E.loopS (ι:=Nat) (fun i=>i≤(g.th.getD t []).length∧(∀ j < i,fineM g.init.length ((g.th.getD t []).getD j ev0) = true)) (fun i=>(g.th.getD t []).length - i) (fun i=>[(5,.i fun _=>((i : Nat) : Int))]) (fun i h=>h) 0 (fun _=>by first|rfl|simp) ⟨Nat.zero_le _,?_⟩ ?_ fun i hi I2 hI2=>?_
  ·intro j hj; omega
  ·cbv; simp
  obtain ⟨hi, hoki⟩ := hi
  cbv
  repeat' (first
   |(refine hI (t + 1) ?_ ?_ ?_;rotate_left 1;(· ((try simp only [nc] at *);omega));(cbv;clear hI;(try clear hF);(try simp only [nc] at *);(try simp (disch:=(first|omega|(simp only [lnS];omega))) only [rdT,rdS,anT]));rotate_left 1;(try ((try simp only [nc] at *);omega)))
   |(refine hI2 (i + 1) ?_ ?_ ?_;rotate_left 1;(· ((try simp only [nc] at *);omega));(cbv;clear hI2;(try clear hF);(try simp only [nc] at *);(try simp (disch:=(first|omega|(simp only [lnS];omega))) only [rdT,rdS,anT]));rotate_left 1;(try ((try simp only [nc] at *);omega)))
   |((first|refine E.c (SCalls.of_le (fine_ok ((g.th.getD t []).getD i ev0) g) ?_ ?_)|refine E.q (QCalls.of_le (fine_ok ((g.th.getD t []).getD i ev0) g) ?_ ?_));(· (cbv;(try simp only [nc] at *);first|done|(simp;done)|(simp (disch:=(first|omega|(simp only [lnS];omega))) only [rdT,rdS,anT];first|done|omega|(refine ⟨?_,?_⟩<;>omega))|(simp (disch:=(first|omega|(simp only [lnS];omega))) [rdT,rdS];done)));cbv)
   |(refine ⟨fun _ h_s=>?_,fun _ h_s=>?_⟩<;>(cbv;(try simp only [nc] at *);try simp (disch:=(first|omega|(simp only [lnS];omega))) only [rdT,rdS,reduceCtorEq,trT] at h_s))
   |(refine hF ?_;intro _;clear hF)
   |(refine hF ?_;cbv;clear hF)
   |(refine ⟨fun _=>?_,?_⟩;(· ((try simp only [nc] at *);first|done|omega|exact ⟨by omega,rfl⟩|(simp (disch:=(first|omega|(simp only [lnS];omega))) only [rdT,rdS];first|done|omega|rfl|exact ⟨by omega,rfl⟩|(simp;done)|(simp;omega))|(intros;trivial)));try cbv)
   |(refine E.d 9 (by decide +kernel) ?_;cbv;(fail_if_success guard_target =~ False))
   |(refine E.d 12 (by decide +kernel) ?_;cbv;(fail_if_success guard_target =~ False))
   |(refine E.d 13 (by decide +kernel) ?_;cbv;(fail_if_success guard_target =~ False))
   | fail
  )
  all_goals (try simp only [nc] at *)
  all_goals (try simp (disch:=(first|omega|(simp only [lnS];omega))) only [rdT,rdS])
  ·refine (gcheck2 hsh fun h => ?_).symm
   have := (h.events t (by omega)).2 i (by omega)
   simp_all
  ·refine ⟨by omega, fun j hj => ?_⟩
   rcases Nat.lt_or_ge j i with h | h
   ·exact hoki j h
   ·obtain rfl : j = i := by omega
    assumption
  ·omega
  ·refine ⟨by omega, fun j hj => ?_⟩
   rcases Nat.lt_or_ge j t with h | h
   ·exact hok j h
   ·obtain rfl : j = t := by omega
    exact ⟨by omega, fun k hk => hoki k (by omega)⟩
  ·omega
 clear hI
 (try simp only [nc] at *)
 simp (disch:=(first|omega|(simp only [lnS];omega))) only [rdT,rdS,reduceCtorEq,trT] at h4
 have e : t = g.th.length := by omega
 subst e
 have hev : eventsOk g := hok
 cbv
 -- sources
 refine E.loopS (ι:=Nat) (fun t=>t≤g.th.length∧(∀ j < t,∀ i < (g.th.getD j []).length,sourceM g ⟨j + 1,i⟩ ((g.fr.getD j []).getD i id0) = true)) (fun t=>g.th.length - t) (fun t=>[(6,.i fun _=>((t : Nat) : Int))]) (fun t h=>h) 0 (fun _=>by first|rfl|simp) ⟨Nat.zero_le _,?_⟩ ?_ fun t ht I hI=>?_
 ·intro j hj; omega
 ·cbv; simp
 obtain ⟨ht, hok2⟩ := ht
 cbv
 refine ⟨fun _ h5 => ?_, fun _ h5 => ?_⟩
 ·(try simp only [nc] at *)
  simp (disch:=(first|omega|(simp only [lnS];omega))) only [rdT,rdS,reduceCtorEq,trT] at h5
  have hht := hsh.at t
  cbv
  refine E.loopS (ι:=Nat) (fun i=>i≤(g.th.getD t []).length∧(∀ j < i,sourceM g ⟨t + 1,j⟩ ((g.fr.getD t []).getD j id0) = true)) (fun i=>(g.th.getD t []).length - i) (fun i=>[(7,.i fun _=>((i : Nat) : Int))]) (fun i h=>h) 0 (fun _=>by first|rfl|simp) ⟨Nat.zero_le _,?_⟩ ?_ fun i hi I2 hI2=>?_
  ·intro j hj; omega
  ·cbv; simp
  obtain ⟨hi, hoki⟩ := hi
  have hfl := (hev t (by ((try simp only [nc] at *); omega))).1
  cbv
  repeat' (first
   |(refine hI (t + 1) ?_ ?_ ?_;rotate_left 1;(· ((try simp only [nc] at *);omega));(cbv;clear hI;(try clear hF);(try simp only [nc] at *);(try simp (disch:=(first|omega|(simp only [lnS];omega))) only [rdT,rdS,anT]));rotate_left 1;(try ((try simp only [nc] at *);omega)))
   |(refine hI2 (i + 1) ?_ ?_ ?_;rotate_left 1;(· ((try simp only [nc] at *);omega));(cbv;clear hI2;(try clear hF);(try simp only [nc] at *);(try simp (disch:=(first|omega|(simp only [lnS];omega))) only [rdT,rdS,anT]));rotate_left 1;(try ((try simp only [nc] at *);omega)))
   |((first|refine E.c (SCalls.of_le (source_ok g hg ⟨t + 1,i⟩ ((g.fr.getD t []).getD i id0)) ?_ ?_)|refine E.q (QCalls.of_le (source_ok g hg ⟨t + 1,i⟩ ((g.fr.getD t []).getD i id0)) ?_ ?_));(· (cbv;(try simp only [nc] at *);first|done|(simp;done)|(simp (disch:=(first|omega|(simp only [lnS];omega))) only [rdT,rdS,anT];first|done|omega|(refine ⟨?_,?_⟩<;>omega))|(simp (disch:=(first|omega|(simp only [lnS];omega))) [rdT,rdS];done)));cbv)
   |(refine ⟨fun _ h_s=>?_,fun _ h_s=>?_⟩<;>(cbv;(try simp only [nc] at *);try simp (disch:=(first|omega|(simp only [lnS];omega))) only [rdT,rdS,reduceCtorEq,trT] at h_s))
   |(refine hF ?_;intro _;clear hF)
   |(refine hF ?_;cbv;clear hF)
   |(refine ⟨fun _=>?_,?_⟩;(· ((try simp only [nc] at *);first|done|omega|exact ⟨by omega,rfl⟩|(simp (disch:=(first|omega|(simp only [lnS];omega))) only [rdT,rdS];first|done|omega|rfl|exact ⟨by omega,rfl⟩|(simp;done)|(simp;omega))|(intros;trivial)));try cbv)
   |(refine E.d 9 (by decide +kernel) ?_;cbv;(fail_if_success guard_target =~ False))
   |(refine E.d 12 (by decide +kernel) ?_;cbv;(fail_if_success guard_target =~ False))
   |(refine E.d 13 (by decide +kernel) ?_;cbv;(fail_if_success guard_target =~ False))
   | fail
  )
  all_goals (try simp only [nc] at *)
  all_goals (try simp (disch:=(first|omega|(simp only [lnS];omega))) only [rdT,rdS])
  ·refine (gcheck2 hsh fun h => ?_).symm
   have := h.sources t (by omega) i (by omega)
   simp_all
  ·refine ⟨by omega, fun j hj => ?_⟩
   rcases Nat.lt_or_ge j i with h | h
   ·exact hoki j h
   ·obtain rfl : j = i := by omega
    assumption
  ·omega
  ·refine ⟨by omega, fun j hj => ?_⟩
   rcases Nat.lt_or_ge j t with h | h
   ·exact hok2 j h
   ·obtain rfl : j = t := by omega
    exact fun k hk => hoki k (by omega)
  ·omega
 clear hI
 (try simp only [nc] at *)
 simp (disch:=(first|omega|(simp only [lnS];omega))) only [rdT,rdS,reduceCtorEq,trT] at h5
 have e : t = g.th.length := by omega
 subst e
 have hso : sourcesOk g := hok2
 cbv
 refine E.loopS (ι:=Nat) (fun x=>x≤g.init.length∧(∀ j < x,orderedM g j = true)) (fun x=>g.init.length - x) (fun x=>[(8,.i fun _=>((x : Nat) : Int))]) (fun x h=>h) 0 (fun _=>by first|rfl|simp) ⟨Nat.zero_le _,?_⟩ ?_ fun x hx I hI=>?_
 ·intro j hj; omega
 ·cbv; simp
 obtain ⟨hx, hok3⟩ := hx
 cbv
 repeat' (first
  |(refine hI (x + 1) ?_ ?_ ?_;rotate_left 1;(· ((try simp only [nc] at *);omega));(cbv;clear hI;(try clear hF);(try simp only [nc] at *);(try simp (disch:=(first|omega|(simp only [lnS];omega))) only [rdT,rdS,anT]));rotate_left 1;(try ((try simp only [nc] at *);omega)))
  |(refine E.c (SCalls.of_le (ordered_ok g hg hsh x (by omega)) ?_ ?_);(· (cbv;(try simp only [nc] at *);first|done|(simp;done)|(simp (disch:=(first|omega|(simp only [lnS];omega))) only [rdT,rdS,anT];first|done|omega|(refine ⟨?_,?_⟩<;>omega))|(simp (disch:=(first|omega|(simp only [lnS];omega))) [rdT,rdS];done)));cbv)
  |(refine ⟨fun _ h_s=>?_,fun _ h_s=>?_⟩<;>(cbv;(try simp only [nc] at *);try simp (disch:=(first|omega|(simp only [lnS];omega))) only [rdT,rdS,reduceCtorEq,trT] at h_s))
  |(refine hF ?_;intro _;clear hF)
  |(refine hF ?_;cbv;clear hF)
  |(refine ⟨fun _=>?_,?_⟩;(· ((try simp only [nc] at *);first|done|omega|exact ⟨by omega,rfl⟩|(simp (disch:=(first|omega|(simp only [lnS];omega))) only [rdT,rdS];first|done|omega|rfl|exact ⟨by omega,rfl⟩|(simp;done)|(simp;omega))|(intros;trivial)));try cbv)
  |(refine E.d 9 (by decide +kernel) ?_;cbv;(fail_if_success guard_target =~ False))
  |(refine E.d 12 (by decide +kernel) ?_;cbv;(fail_if_success guard_target =~ False))
  |(refine E.d 13 (by decide +kernel) ?_;cbv;(fail_if_success guard_target =~ False))
  | fail
 )
 all_goals (try simp only [nc] at *)
 all_goals (try simp (disch:=(first|omega|(simp only [lnS];omega))) only [rdT,rdS])
 ·refine (gcheck2 hsh fun h => ?_).symm
  have := h.orders x (by omega)
  simp_all
 ·refine ⟨by omega, fun j hj => ?_⟩
  rcases Nat.lt_or_ge j x with h | h
  ·exact hok3 j h
  ·obtain rfl : j = x := by omega
   assumption
 ·omega
 ·refine (gcheck0 ⟨hsh, by omega, by omega, hev, hso, fun j hj => hok3 j (by omega)⟩).symm
end Go.AL.Rl

namespace Go.AL.Rl
open Go Go.AL Go.Proofs
set_option maxRecDepth 100000
variable {γ : Nat → Option AV}

theorem gevent_ok (g : Gr) (hg : Rd g) (d : EId) : Pure Tryz.prog γ false 78 [aGr g, aId d] (.tup [aEv ((eventM g d).getD ev0), .b fun _ => (eventM g d).isSome]) := by
 have hg1 := hg.init
 have hg2 := hg.th
 refine Pure.go (ty := ty) ty_eq mo Tryz.func78 rfl Tryz.ntmps78 Tryz.results78 Tryz.call78 (by simp) fun P C CQ D W F E hF => ?_
 cbv
 repeat' (first
  |(refine ⟨fun _ h_s=>?_,fun _ h_s=>?_⟩<;>(cbv;(try simp only [nc] at *);try simp (disch:=(first|omega|(simp only [lnS];omega))) only [rdT,rdS,reduceCtorEq,trT] at h_s))
  |(refine hF ?_;intro _;clear hF)
  |(refine hF ?_;cbv;clear hF)
  |(refine ⟨fun _=>?_,?_⟩;(· ((try simp only [nc] at *);first|done|omega|exact ⟨by omega,rfl⟩|(simp (disch:=(first|omega|(simp only [lnS];omega))) only [rdT,rdS];first|done|omega|rfl|exact ⟨by omega,rfl⟩|(simp;done)|(simp;omega))|(intros;trivial)));try cbv)
  |(refine E.d 8 (by decide +kernel) ?_;cbv;(fail_if_success guard_target =~ False))
  |(refine E.d 9 (by decide +kernel) ?_;cbv;(fail_if_success guard_target =~ False))
  |(refine E.d 10 (by decide +kernel) ?_;cbv;(fail_if_success guard_target =~ False))
  | fail
 )
 all_goals (try simp only [nc] at *)
 all_goals (try simp (disch:=(first|omega|(simp only [lnS];omega))) only [rdT,rdS])
 all_goals first
  | (
    have e : eventM g d = none := by (unfold eventM; split <;> split <;> first | rfl | omega)
    rw [e]; simp; done)
  | (
    have e : eventM g d = some ⟨2, d.i, 1, 0, g.init.getD d.i.toNat 0⟩ := by (unfold eventM; split <;> split <;> first | rfl | omega)
    rw [e]; simp; done)
  | (
    have e : eventM g d = some ((g.th.getD (d.t - 1).toNat []).getD d.i.toNat ev0) := by (unfold eventM; split <;> split <;> first | rfl | omega)
    rw [e]; simp; done)
  | skip
theorem rightFrom_ok (g : Gr) (hg : Rd g) (d f : EId) : Pure Tryz.prog γ false 49 [aGr g, aId d, aId f] (.b fun _ => sourceM g d f) := by
 refine Pure.go (ty := ty) ty_eq mo Tryz.func49 rfl Tryz.ntmps49 Tryz.results49 Tryz.call49 (by simp) fun P C CQ D W F E hF => ?_
 cbv
 repeat' (first
  |(refine E.c (SCalls.of_le (gwrites_ok ((eventM g f).getD ev0)) ?_ ?_);(· (cbv;(try simp only [nc] at *);first|done|(simp;done)|(simp (disch:=(first|omega|(simp only [lnS];omega))) only [rdT,rdS,anT];first|done|omega|(refine ⟨?_,?_⟩<;>omega))|(simp (disch:=(first|omega|(simp only [lnS];omega))) [rdT,rdS];done)));cbv)
  |(refine E.c (SCalls.of_le (greads_ok ((eventM g d).getD ev0)) ?_ ?_);(· (cbv;(try simp only [nc] at *);first|done|(simp;done)|(simp (disch:=(first|omega|(simp only [lnS];omega))) only [rdT,rdS,anT];first|done|omega|(refine ⟨?_,?_⟩<;>omega))|(simp (disch:=(first|omega|(simp only [lnS];omega))) [rdT,rdS];done)));cbv)
  |(refine E.c (SCalls.of_le (gevent_ok g hg f) ?_ ?_);(· (cbv;(try simp only [nc] at *);first|done|(simp;done)|(simp (disch:=(first|omega|(simp only [lnS];omega))) only [rdT,rdS,anT];first|done|omega|(refine ⟨?_,?_⟩<;>omega))|(simp (disch:=(first|omega|(simp only [lnS];omega))) [rdT,rdS];done)));cbv)
  |(refine E.c (SCalls.of_le (gevent_ok g hg d) ?_ ?_);(· (cbv;(try simp only [nc] at *);first|done|(simp;done)|(simp (disch:=(first|omega|(simp only [lnS];omega))) only [rdT,rdS,anT];first|done|omega|(refine ⟨?_,?_⟩<;>omega))|(simp (disch:=(first|omega|(simp only [lnS];omega))) [rdT,rdS];done)));cbv)
  |(refine ⟨fun _ h_s=>?_,fun _ h_s=>?_⟩<;>(cbv;(try simp only [nc] at *);try simp (disch:=(first|omega|(simp only [lnS];omega))) only [rdT,rdS,reduceCtorEq,trT] at h_s))
  |(refine hF ?_;intro _;clear hF)
  |(refine hF ?_;cbv;clear hF)
  |(refine ⟨fun _=>?_,?_⟩;(· ((try simp only [nc] at *);first|done|omega|exact ⟨by omega,rfl⟩|(simp (disch:=(first|omega|(simp only [lnS];omega))) only [rdT,rdS];first|done|omega|rfl|exact ⟨by omega,rfl⟩|(simp;done)|(simp;omega))|(intros;trivial)));try cbv)
  | fail
 )
 all_goals (try simp only [nc] at *)
 all_goals (try simp (disch:=(first|omega|(simp only [lnS];omega))) only [rdT,rdS])
 all_goals (unfold sourceM; cases hf : eventM g f <;> simp_all [eid_iff])

def longE (l : List Ev) : Bool := decide (14 < (l.length : Int))
theorem tooLong1_ok (l : List Ev) : Pure Tryz.prog γ false 75 [.vs 5 fun _ => evs l] (.b fun _ => longE l) := by
 refine Pure.go (ty := ty) ty_eq mo Tryz.func75 rfl Tryz.ntmps75 Tryz.results75 Tryz.call75 (by simp) fun P C CQ D W F E hF => ?_
 cbv
 repeat' (first
  |(refine ⟨fun _ h_s=>?_,fun _ h_s=>?_⟩<;>(cbv;(try simp only [nc] at *);try simp (disch:=(first|omega|(simp only [lnS];omega))) only [rdT,rdS,reduceCtorEq,trT] at h_s))
  |(refine hF ?_;intro _;clear hF)
  |(refine hF ?_;cbv;clear hF)
  |(refine ⟨fun _=>?_,?_⟩;(· ((try simp only [nc] at *);first|done|omega|exact ⟨by omega,rfl⟩|(simp (disch:=(first|omega|(simp only [lnS];omega))) only [rdT,rdS];first|done|omega|rfl|exact ⟨by omega,rfl⟩|(simp;done)|(simp;omega))|(intros;trivial)));try cbv)
  | fail
 )
 all_goals (try simp only [nc] at *)
 all_goals (try simp (disch:=(first|omega|(simp only [lnS];omega))) only [rdT,rdS])
 simp [longE]
/-- the first that is such; -1 -/
def firstM {α : Type} (p : α → Bool) (l : List α) : Int := match l.findIdx? p with | some i => i | none => -1
theorem firstM_at {α : Type} {p : α → Bool} {l : List α} (d : α) (i : Nat) (hi : i < l.length) (h : p (l.getD i d) = true) (h2 : ∀ j < i, p (l.getD j d) = false) : firstM p l = i := by
 unfold firstM
 have : l.findIdx? p = some i := by
  rw [List.findIdx?_eq_some_iff_getElem]
  refine ⟨hi, by simpa [hi] using h, fun j hj => ?_⟩
  have hjl : j < l.length := by omega
  have := h2 j hj
  simp only [List.getD_eq_getElem?_getD, List.getElem?_eq_getElem hjl, Option.getD_some] at this
  simp [this]
 rw [this]
theorem firstM_none {α : Type} {p : α → Bool} {l : List α} (d : α) (h : ∀ j < l.length, p (l.getD j d) = false) : firstM p l = -1 := by
 unfold firstM
 have : l.findIdx? p = none := by
  rw [List.findIdx?_eq_none_iff]
  intro a ha
  obtain ⟨j, hj, rfl⟩ := List.getElem_of_mem ha
  simpa [hj] using h j hj
 rw [this]
theorem firstM_any {α : Type} {p : α → Bool} {l : List α} : decide (0 ≤ firstM p l) = l.any p := by
 unfold firstM
 cases h : l.findIdx? p with
 | none => rw [List.findIdx?_eq_none_iff] at h; simp; exact h
 | some i =>
  rw [List.findIdx?_eq_some_iff_getElem] at h
  obtain ⟨h1, h2, _⟩ := h
  simp
  exact ⟨_, List.getElem_mem h1, h2⟩
theorem indexFunc_ok (l : List (List Ev)) (hl : (l.length : Int) ≤ 9223372036854775807) : Pure Tryz.prog γ false 99 [.vs 1 fun _ => evss l, .fn 75 [] []] (.i fun _ => firstM longE l) := by
 refine Pure.go (ty := ty) ty_eq mo Tryz.func99 rfl Tryz.ntmps99 Tryz.results99 Tryz.call99 (by simp) fun P C CQ D W F E hF => ?_
 cbv
 refine E.loopS (ι:=Nat) (fun i=>i≤l.length∧(∀ j < i,longE (l.getD j []) = false)) (fun i=>l.length - i) (fun i=>[(8,.i fun _=>((i : Nat) : Int))]) (fun i h=>h) 0 (fun _=>by first|rfl|simp) ⟨Nat.zero_le _,?_⟩ ?_ fun i hi I hI=>?_
 ·intro j hj; omega
 ·cbv; simp
 obtain ⟨hi, hok⟩ := hi
 cbv
 repeat' (first
  |(refine hI (i + 1) ?_ ?_ ?_;rotate_left 1;(· ((try simp only [nc] at *);omega));(cbv;clear hI;(try clear hF);(try simp only [nc] at *);(try simp (disch:=(first|omega|(simp only [lnS];omega))) only [rdT,rdS,anT]));rotate_left 1;(try ((try simp only [nc] at *);omega)))
  |(refine E.c (SCalls.of_le (tooLong1_ok (l.getD i [])) ?_ ?_);(· (cbv;(try simp only [nc] at *);first|done|(simp;done)|(simp (disch:=(first|omega|(simp only [lnS];omega))) only [rdT,rdS,anT];first|done|omega|(refine ⟨?_,?_⟩<;>omega))|(simp (disch:=(first|omega|(simp only [lnS];omega))) [rdT,rdS];done)));cbv)
  |(refine ⟨fun _ h_s=>?_,fun _ h_s=>?_⟩<;>(cbv;(try simp only [nc] at *);try simp (disch:=(first|omega|(simp only [lnS];omega))) only [rdT,rdS,reduceCtorEq,trT] at h_s))
  |(refine hF ?_;intro _;clear hF)
  |(refine hF ?_;cbv;clear hF)
  |(refine ⟨fun _=>?_,?_⟩;(· ((try simp only [nc] at *);first|done|omega|exact ⟨by omega,rfl⟩|(simp (disch:=(first|omega|(simp only [lnS];omega))) only [rdT,rdS];first|done|omega|rfl|exact ⟨by omega,rfl⟩|(simp;done)|(simp;omega))|(intros;trivial)));try cbv)
  | fail
 )
 all_goals (try simp only [nc] at *)
 all_goals (try simp (disch:=(first|omega|(simp only [lnS];omega))) only [rdT,rdS])
 ·exact (firstM_at [] i (by omega) (by assumption) hok).symm
 ·refine ⟨by omega, fun j hj => ?_⟩
  rcases Nat.lt_or_ge j i with h | h
  ·exact hok j h
  ·obtain rfl : j = i := by omega
   assumption
 ·omega
 ·exact (firstM_none [] fun j hj => hok j (by omega)).symm
theorem containsFunc_ok (l : List (List Ev)) (hl : (l.length : Int) ≤ 9223372036854775807) : Pure Tryz.prog γ false 74 [.vs 1 fun _ => evss l, .fn 75 [] []] (.b fun _ => l.any longE) := by
 refine Pure.go (ty := ty) ty_eq mo Tryz.func74 rfl Tryz.ntmps74 Tryz.results74 Tryz.call74 (by simp) fun P C CQ D W F E hF => ?_
 cbv
 repeat' (first
  |(refine E.c (SCalls.of_le (indexFunc_ok l hl) ?_ ?_);(· (cbv;(try simp only [nc] at *);first|done|(simp;done)|(simp (disch:=(first|omega|(simp only [lnS];omega))) only [rdT,rdS,anT];first|done|omega|(refine ⟨?_,?_⟩<;>omega))|(simp (disch:=(first|omega|(simp only [lnS];omega))) [rdT,rdS];done)));cbv)
  |(refine ⟨fun _ h_s=>?_,fun _ h_s=>?_⟩<;>(cbv;(try simp only [nc] at *);try simp (disch:=(first|omega|(simp only [lnS];omega))) only [rdT,rdS,reduceCtorEq,trT] at h_s))
  |(refine hF ?_;intro _;clear hF)
  |(refine hF ?_;cbv;clear hF)
  |(refine ⟨fun _=>?_,?_⟩;(· ((try simp only [nc] at *);first|done|omega|exact ⟨by omega,rfl⟩|(simp (disch:=(first|omega|(simp only [lnS];omega))) only [rdT,rdS];first|done|omega|rfl|exact ⟨by omega,rfl⟩|(simp;done)|(simp;omega))|(intros;trivial)));try cbv)
  | fail
 )
 all_goals (try simp only [nc] at *)
 all_goals (try simp (disch:=(first|omega|(simp only [lnS];omega))) only [rdT,rdS])
 exact firstM_any
theorem short_iff (g : Gr) : Short g ↔ g.th.length ≤ 4 ∧ g.init.length ≤ 6 ∧ g.th.any longE = false := by
 constructor
 ·intro h
  refine ⟨h.th, h.init, ?_⟩
  rw [List.any_eq_false]
  intro l hl
  have := h.ths l hl
  simp [longE]; omega
 ·rintro ⟨h1, h2, h3⟩
  refine ⟨h1, h2, fun l hl => ?_⟩
  rw [List.any_eq_false] at h3
  have := h3 l hl
  simp [longE] at this; omega
theorem tooLong_ok (g : Gr) (hg : Rd g) : Pure Tryz.prog γ false 47 [aGr g] (.b fun _ => !decide (Short g)) := by
 have hg2 := hg.th
 refine Pure.go (ty := ty) ty_eq mo Tryz.func47 rfl Tryz.ntmps47 Tryz.results47 Tryz.call47 (by simp) fun P C CQ D W F E hF => ?_
 cbv
 repeat' (first
  |((first|refine E.c (SCalls.of_le (containsFunc_ok g.th hg2) ?_ ?_)|refine E.q (QCalls.of_le (containsFunc_ok g.th hg2) ?_ ?_));(· (cbv;(try simp only [nc] at *);first|done|(simp;done)|(simp (disch:=(first|omega|(simp only [lnS];omega))) only [rdT,rdS,anT];first|done|omega|(refine ⟨?_,?_⟩<;>omega))|(simp (disch:=(first|omega|(simp only [lnS];omega))) [rdT,rdS];done)));cbv)
  |(refine ⟨fun _ h_s=>?_,fun _ h_s=>?_⟩<;>(cbv;(try simp only [nc] at *);try simp (disch:=(first|omega|(simp only [lnS];omega))) only [rdT,rdS,reduceCtorEq,trT] at h_s))
  |(refine hF ?_;intro _;clear hF)
  |(refine hF ?_;cbv;clear hF)
  |(refine ⟨fun _=>?_,?_⟩;(· ((try simp only [nc] at *);first|done|omega|exact ⟨by omega,rfl⟩|(simp (disch:=(first|omega|(simp only [lnS];omega))) only [rdT,rdS];first|done|omega|rfl|exact ⟨by omega,rfl⟩|(simp;done)|(simp;omega))|(intros;trivial)));try cbv)
  | fail
 )
 all_goals (try simp only [nc] at *)
 all_goals (try simp (disch:=(first|omega|(simp only [lnS];omega))) only [rdT,rdS])
 all_goals
  have key : decide (Short g) = (decide (g.th.length ≤ 4) && decide (g.init.length ≤ 6) && !(g.th.any longE)) := by
   rw [Bool.eq_iff_iff, decide_eq_true_iff, short_iff]; simp only [Bool.and_eq_true, decide_eq_true_eq, Bool.not_eq_true', and_assoc]
  rw [key]
  cases hA : g.th.any longE
  all_goals (simp only [Bool.not_true, Bool.not_false, Bool.and_true, Bool.and_false])
  all_goals (try rw [decide_eq_true (show g.th.length ≤ 4 by omega)])
  all_goals (try rw [decide_eq_true (show g.init.length ≤ 6 by omega)])
  all_goals (try rw [decide_eq_false (show ¬ g.th.length ≤ 4 by omega)])
  all_goals (try rw [decide_eq_false (show ¬ g.init.length ≤ 6 by omega)])
  all_goals simp_all
end Go.AL.Rl

namespace Go.AL.Rl
open Go Go.AL Go.Proofs
set_option maxRecDepth 100000
variable {γ : Nat → Option AV}

theorem knums_id (d : EId) : knums [.i, .i] (aId d) = [d.t, d.i] := rfl
theorem mfind_ids (l : List EId) (d : EId) : mfind [.i, .i] (ids l) [d.t, d.i] = l.findIdx? fun x => decide (x = d) := by
 unfold mfind ids
 rw [LV.l_of, List.findIdx?_map]
 congr 1
 funext x
 simp only [Function.comp, knums_id]
 by_cases h : x = d
 ·subst h; simp
 ·simp [h]
  intro h1
  exact fun h2 => h (EId.ext' h1 h2)
theorem mok_ids (l : List EId) : mok [.i, .i] (ids l) := by
 intro v hv
 simp only [ids, LV.l_of, List.mem_map] at hv
 obtain ⟨x, _, rfl⟩ := hv
 rfl
/-- the map, by its pairs -/
abbrev mapB (m : List (EId × Int)) : Blk := .map (fun _ => ids (m.map (·.1))) fun _ => is (m.map (·.2))
/-- the writes of threads, told with their locations: those of the first threads, and the first events of the next one -/
def wsE (t : Nat) (l : List Ev) (n : Nat) : List (EId × Int) := (List.range n).flatMap fun i => if writesM (l.getD i ev0) then [(⟨t + 1, i⟩, (l.getD i ev0).loc)] else []
def wsT (g : Gr) (t : Nat) : List (EId × Int) := (List.range t).flatMap fun k => wsE k (g.th.getD k []) (g.th.getD k []).length
theorem wsE_succ (t : Nat) (l : List Ev) (n : Nat) : wsE t l (n + 1) = wsE t l n ++ if writesM (l.getD n ev0) then [(⟨t + 1, n⟩, (l.getD n ev0).loc)] else [] := by
 unfold wsE; rw [List.range_succ, List.flatMap_append]; simp
theorem wsT_succ (g : Gr) (t : Nat) : wsT g (t + 1) = wsT g t ++ wsE t (g.th.getD t []) (g.th.getD t []).length := by
 unfold wsT; rw [List.range_succ, List.flatMap_append]; simp
theorem wsE_mem {t : Nat} {l : List Ev} {n : Nat} {p : EId × Int} : p ∈ wsE t l n ↔ ∃ i < n, writesM (l.getD i ev0) = true ∧ p = (⟨t + 1, i⟩, (l.getD i ev0).loc) := by
 unfold wsE
 simp only [List.mem_flatMap, List.mem_range]
 constructor
 ·rintro ⟨i, hi, h⟩
  split at h
  ·exact ⟨i, hi, by assumption, by simpa using h⟩
  ·cases h
 ·rintro ⟨i, hi, h1, h2⟩
  exact ⟨i, hi, by rw [if_pos h1]; simp [h2]⟩
theorem wsT_mem {g : Gr} {t : Nat} {p : EId × Int} : p ∈ wsT g t ↔ ∃ k < t, ∃ i < (g.th.getD k []).length, writesM ((g.th.getD k []).getD i ev0) = true ∧ p = (⟨k + 1, i⟩, ((g.th.getD k []).getD i ev0).loc) := by
 unfold wsT
 simp only [List.mem_flatMap, List.mem_range, wsE_mem]
theorem fresh_find {l : List EId} {d : EId} (h : d ∉ l) : (l.findIdx? fun x => decide (x = d)) = none := by
 rw [List.findIdx?_eq_none_iff]
 intro x hx
 simp
 rintro rfl
 exact h hx
theorem mput_new (l : List EId) (d : EId) (h : d ∉ l) (k : List Int) (hk : k = [d.t, d.i]) (v : AV) (hv : v = aId d) : mputK (mfind [.i, .i] (ids l) k) (ids l) v = ids (l ++ [d]) := by
 subst hk; subst hv
 rw [mfind_ids, fresh_find h]
 simp [mputK, ids]
theorem mputV_new (l : List EId) (d : EId) (h : d ∉ l) (k : List Int) (hk : k = [d.t, d.i]) (vs : List Int) (n : Int) (v : AV) (hv : v = .i fun _ => n) : mputV (mfind [.i, .i] (ids l) k) (is vs) v = is (vs ++ [n]) := by
 subst hk; subst hv
 rw [mfind_ids, fresh_find h]
 simp [mputV, is]
theorem ws_fresh (g : Gr) (t i : Nat) : (⟨t + 1, i⟩ : EId) ∉ (wsT g t ++ wsE t (g.th.getD t []) i).map (·.1) := by
 intro h
 obtain ⟨p, hp, he⟩ := List.mem_map.1 h
 rcases List.mem_append.1 hp with hp | hp
 ·obtain ⟨k, hk, j, _, _, rfl⟩ := wsT_mem.1 hp
  have := congrArg EId.t he
  simp at this; omega
 ·obtain ⟨j, hj, _, rfl⟩ := wsE_mem.1 hp
  have := congrArg EId.i he
  simp at this; omega
/-- Order's, told with their locations: those of the first locations, and the first ones of the next -/
def qsT (g : Gr) (x : Nat) : List (EId × Int) := (List.range x).flatMap fun k => (g.ord.getD k []).map fun d => (d, (k : Int))
def qsE (g : Gr) (x i : Nat) : List (EId × Int) := ((g.ord.getD x []).take i).map fun d => (d, (x : Int))
theorem qsT_succ (g : Gr) (x : Nat) : qsT g (x + 1) = qsT g x ++ qsE g x (g.ord.getD x []).length := by
 unfold qsT qsE; rw [List.range_succ, List.flatMap_append]; simp
theorem qsE_succ (g : Gr) (x i : Nat) (h : i < (g.ord.getD x []).length) : qsE g x (i + 1) = qsE g x i ++ [((g.ord.getD x []).getD i id0, (x : Int))] := by
 unfold qsE; rw [take_succ' _ i id0 h, List.map_append]; simp
/-- what is left when these are struck off one by one -/
def strike : List (EId × Int) → List (EId × Int) → Option (List (EId × Int))
 | [], m => some m
 | q :: qs, m => if q ∈ m then strike qs (m.erase q) else none
theorem strike_app : ∀ (a b m : List (EId × Int)), strike (a ++ b) m = (strike a m).bind (strike b)
 | [], b, m => rfl
 | q :: a, b, m => by
  simp only [List.cons_append, strike]
  split
  ·exact strike_app a b _
  ·rfl
theorem strike_perm : ∀ (q m : List (EId × Int)), strike q m = some [] ↔ q.Perm m
 | [], m => by
  simp only [strike, Option.some.injEq]
  constructor
  ·rintro rfl; exact .refl _
  ·intro h; exact h.symm.eq_nil
 | a :: q, m => by
  simp only [strike]
  split
  ·rename_i h
   rw [strike_perm q]
   constructor
   ·intro h2; exact (h2.cons a).trans (List.perm_cons_erase h).symm
   ·intro h2; exact List.Perm.cons_inv (h2.trans (List.perm_cons_erase h))
  ·rename_i h
   constructor
   ·intro h2; cases h2
   ·intro h2; exact absurd (h2.subset (by simp)) h
/-- keys once -/
def Keyed (m : List (EId × Int)) : Prop := (m.map (·.1)).Nodup
def mlook (d : EId) : List (EId × Int) → Option Int
 | [] => none
 | p :: m => if p.1 = d then some p.2 else mlook d m
abbrev mfd (m : List (EId × Int)) (d : EId) : Option Nat := (m.map (·.1)).findIdx? fun x => decide (x = d)
theorem mfd_cons (p : EId × Int) (m : List (EId × Int)) (d : EId) : mfd (p :: m) d = if p.1 = d then some 0 else (mfd m d).map (· + 1) := by
 simp only [mfd, List.map_cons, List.findIdx?_cons]
 by_cases h : p.1 = d <;> simp [h]
theorem mlook_isSome (d : EId) : ∀ (m : List (EId × Int)), (mfd m d).isSome = (mlook d m).isSome
 | [] => rfl
 | p :: m => by
  rw [mfd_cons, mlook]
  split
  ·rfl
  ·rw [Option.isSome_map, mlook_isSome d m]
theorem mlook_val (d : EId) : ∀ (m : List (EId × Int)) (i : Nat), mfd m d = some i → i < m.length ∧ mlook d m = some ((m.map (·.2)).getD i 0)
 | [], i, h => by simp [mfd] at h
 | p :: m, i, h => by
  rw [mfd_cons] at h
  rw [mlook]
  split at h
  ·rename_i e; cases h; rw [if_pos e]; simp
  ·rename_i e
   rw [Option.map_eq_some_iff] at h
   obtain ⟨j, hj, rfl⟩ := h
   obtain ⟨h1, h2⟩ := mlook_val d m j hj
   rw [if_neg e, h2]
   exact ⟨by simp; omega, by simp⟩
theorem mlook_mem (d : EId) (x : Int) : ∀ (m : List (EId × Int)), Keyed m → (mlook d m = some x ↔ (d, x) ∈ m)
 | [], _ => by simp [mlook]
 | p :: m, hk => by
  have hk' : Keyed m := (List.nodup_cons.1 hk).2
  have hn : p.1 ∉ m.map (·.1) := (List.nodup_cons.1 hk).1
  rw [mlook, List.mem_cons]
  split
  ·rename_i e
   constructor
   ·intro h; left; cases h; subst e; rfl
   ·rintro (h | h)
    ·rw [← h]
    ·exact absurd (e ▸ List.mem_map.2 ⟨_, h, rfl⟩ : p.1 ∈ m.map (·.1)) hn
  ·rename_i e
   rw [mlook_mem d x m hk']
   constructor
   ·exact .inr
   ·rintro (h | h)
    ·exact absurd (by rw [← h]) e
    ·exact h
theorem mlook_del (d : EId) (x : Int) : ∀ (m : List (EId × Int)) (i : Nat), mfd m d = some i → mlook d m = some x → m.eraseIdx i = m.erase (d, x)
 | [], i, h, _ => by simp [mfd] at h
 | p :: m, i, h, h2 => by
  rw [mfd_cons] at h
  rw [mlook] at h2
  split at h
  ·rename_i e
   rw [if_pos e] at h2
   cases h; cases h2
   have : p = (d, p.2) := by rw [← e]
   rw [this]; simp
  ·rename_i e
   rw [if_neg e] at h2
   rw [Option.map_eq_some_iff] at h
   obtain ⟨j, hj, rfl⟩ := h
   have ih := mlook_del d x m j hj h2
   have hne : ¬ (p == (d, x)) = true := by
    intro h; rw [beq_iff_eq] at h; exact e (by rw [h])
   rw [List.eraseIdx_cons_succ, ih, List.erase_cons_tail hne]
theorem lk_some (m : List (EId × Int)) (d : EId) (k : List Int) (hk : k = [d.t, d.i]) : (mfind [.i, .i] (ids (m.map (·.1))) k).isSome = (mlook d m).isSome := by
 subst hk; rw [mfind_ids]; exact mlook_isSome d m
theorem lk_val (m : List (EId × Int)) (d : EId) (k : List Int) (hk : k = [d.t, d.i]) (z : AV) (hz : (z.at 0).asI = 0) : ((mval (mfind [.i, .i] (ids (m.map (·.1))) k) (is (m.map (·.2))) z).at 0).asI = (mlook d m).getD 0 := by
 subst hk; rw [mfind_ids]
 show ((mval (mfd m d) _ z).at 0).asI = _
 cases h : mfd m d with
 | none =>
  have := mlook_isSome d m
  rw [h] at this
  cases h2 : mlook d m with
  | none => exact hz
  | some v => rw [h2] at this; cases this
 | some i =>
  obtain ⟨h1, h2⟩ := mlook_val d m i h
  rw [h2]
  simp only [mval]
  rw [is_get _ i (by simpa using h1)]; rfl
theorem lk_del (m : List (EId × Int)) (d : EId) (x : Int) (k : List Int) (hk : k = [d.t, d.i]) (h : mlook d m = some x) :
  mdel (mfind [.i, .i] (ids (m.map (·.1))) k) (ids (m.map (·.1))) = ids ((m.erase (d, x)).map (·.1)) ∧ mdel (mfind [.i, .i] (ids (m.map (·.1))) k) (is (m.map (·.2))) = is ((m.erase (d, x)).map (·.2)) := by
 subst hk; rw [mfind_ids]
 show mdel (mfd m d) _ = _ ∧ mdel (mfd m d) _ = _
 have h1 := mlook_isSome d m
 rw [h] at h1
 cases hf : mfd m d with
 | none => rw [hf] at h1; cases h1
 | some i =>
  have := mlook_del d x m i hf h
  rw [← this]
  simp only [mdel, ids, is, LV.l_of]
  constructor <;> (rw [map_erase, map_erase])
theorem keyed_erase {m : List (EId × Int)} (h : Keyed m) (p : EId × Int) : Keyed (m.erase p) := List.Nodup.sublist (List.Sublist.map _ List.erase_sublist) h
theorem is_vals (l : List Int) : ∀ v ∈ (is l).l, v = ckv .i (fun _ => v) 0 := by
 intro v hv
 simp only [is, LV.l_of, List.mem_map] at hv
 obtain ⟨x, _, rfl⟩ := hv
 rfl
theorem strike_no {q1 q2 m m1 : List (EId × Int)} {p : EId × Int} (h : strike q1 m = some m1) (hp : p ∉ m1) : ¬ (q1 ++ p :: q2).Perm m := by
 intro hq
 have := (strike_perm _ _).2 hq
 rw [strike_app, h, Option.bind_some, strike, if_neg hp] at this
 cases this
theorem qsT_split (g : Gr) (x i : Nat) (hx : x < g.ord.length) (hi : i < (g.ord.getD x []).length) : ∃ r, qsT g g.ord.length = (qsT g x ++ qsE g x i) ++ ((g.ord.getD x []).getD i id0, (x : Int)) :: r := by
 have h1 : ∀ n, ∃ r, qsT g (x + 1 + n) = qsT g (x + 1) ++ r := by
  intro n
  induction n with
  | zero => exact ⟨[], by simp⟩
  | succ n ih => obtain ⟨r, hr⟩ := ih; exact ⟨r ++ qsE g (x + 1 + n) (g.ord.getD (x + 1 + n) []).length, by rw [← Nat.add_assoc, qsT_succ, hr, List.append_assoc]⟩
 have h2 : ∀ n, ∃ r, i + 1 + n ≤ (g.ord.getD x []).length → qsE g x (i + 1 + n) = qsE g x (i + 1) ++ r := by
  intro n
  induction n with
  | zero => exact ⟨[], by simp⟩
  | succ n ih =>
   obtain ⟨r, hr⟩ := ih
   refine ⟨r ++ [((g.ord.getD x []).getD (i + 1 + n) id0, (x : Int))], fun h => ?_⟩
   rw [← Nat.add_assoc, qsE_succ g x _ (by omega), hr (by omega), List.append_assoc]
 obtain ⟨r1, hr1⟩ := h1 (g.ord.length - (x + 1))
 obtain ⟨r2, hr2⟩ := h2 ((g.ord.getD x []).length - (i + 1))
 have hr2 := hr2 (by omega)
 rw [show x + 1 + (g.ord.length - (x + 1)) = g.ord.length by omega] at hr1
 rw [show i + 1 + ((g.ord.getD x []).length - (i + 1)) = (g.ord.getD x []).length by omega] at hr2
 refine ⟨r2 ++ r1, ?_⟩
 rw [hr1, qsT_succ, hr2, qsE_succ g x i hi]
 simp
theorem wsE_keyed (t : Nat) (l : List Ev) : ∀ n, Keyed (wsE t l n)
 | 0 => by simp [wsE, Keyed]
 | n + 1 => by
  rw [wsE_succ]
  unfold Keyed
  rw [List.map_append, List.nodup_append]
  refine ⟨wsE_keyed t l n, by split <;> simp, ?_⟩
  intro a ha b hb
  obtain ⟨p, hp, rfl⟩ := List.mem_map.1 ha
  obtain ⟨i, hi, _, rfl⟩ := wsE_mem.1 hp
  split at hb
  ·simp at hb; subst hb; intro h; have := congrArg EId.i h; simp at this; omega
  ·simp at hb
theorem wsT_keyed (g : Gr) : ∀ t, Keyed (wsT g t)
 | 0 => by simp [wsT, Keyed]
 | t + 1 => by
  rw [wsT_succ]
  unfold Keyed
  rw [List.map_append, List.nodup_append]
  refine ⟨wsT_keyed g t, wsE_keyed _ _ _, ?_⟩
  intro a ha b hb
  obtain ⟨p, hp, rfl⟩ := List.mem_map.1 ha
  obtain ⟨q, hq, rfl⟩ := List.mem_map.1 hb
  obtain ⟨k, hk, j, _, _, rfl⟩ := wsT_mem.1 hp
  obtain ⟨j', _, _, rfl⟩ := wsE_mem.1 hq
  intro h; have := congrArg EId.t h; simp at this; omega
theorem knums_i2 (a b : Unit → Int) : knums [.i, .i] (.agg [.i a, .i b]) = [a (), b ()] := rfl
theorem rightOrder_ok (g : Gr) (hg : Rd g) (hs : Short g) : Pure Tryz.prog γ false 50 [aGr g] (.b fun _ => decide ((qsT g g.ord.length).Perm (wsT g g.th.length))) := by
 have hs1 := hs.th
 have hg2 := hg.ord
 skip
 refine Pure.go (ty := ty) ty_eq mo Tryz.func50 rfl Tryz.ntmps50 Tryz.results50 Tryz.call50 (by simp) fun P C CQ D W F E hF => ?_
 cbv
 refine E.loopS (ι:=Nat) (fun t=>t≤g.th.length) (fun t=>g.th.length - t) (fun t=>[(18,.i fun _=>((t : Nat) : Int))]) (fun t h=>h.set 1 (mapB (wsT g t))) 0 (fun _=>by first|rfl|simp) (Nat.zero_le _) ?_ fun t ht I hI=>?_
 ·cbv; simp [wsT, ids, is, LV.of]
 cbv
 refine ⟨fun _ h4 => ?_, fun _ h4 => ?_⟩
 ·(try simp only [nc] at *)
  simp (disch:=(first|omega|(simp only [lnS];omega))) only [rdT,rdS,reduceCtorEq,trT] at h4
  have hht := hs.at t
  cbv
  repeat' (first
   |(refine ⟨fun _ h_s=>?_,fun _ h_s=>?_⟩<;>(cbv;(try simp only [nc] at *);try simp (disch:=(first|omega|(simp only [lnS];omega))) only [rdT,rdS,reduceCtorEq,trT] at h_s))
   |(refine hF ?_;intro _;clear hF)
   |(refine hF ?_;cbv;clear hF)
   |(refine ⟨fun _=>?_,?_⟩;(· ((try simp only [nc] at *);first|done|omega|exact ⟨by omega,rfl⟩|(simp (disch:=(first|omega|(simp only [lnS];omega))) only [rdT,rdS];first|done|omega|rfl|exact ⟨by omega,rfl⟩|(simp;done)|(simp;omega))|(intros;trivial)|exact mok_ids _));try cbv)
   | fail
  )
  refine E.loopS (ι:=Nat) (fun i=>i≤(g.th.getD t []).length) (fun i=>(g.th.getD t []).length - i) (fun i=>[(25,.i fun _=>((i : Nat) : Int))]) (fun i h=>h.set 1 (mapB (wsT g t ++ wsE t (g.th.getD t []) i))) 0 (fun _=>by first|rfl|simp) (Nat.zero_le _) ?_ fun i hi I2 hI2=>?_
  ·cbv; simp [wsE]
  cbv
  repeat' (first
   |(refine hI (t + 1) ?_ ?_ ?_;rotate_left 1;(· ((try simp only [nc] at *);omega));(cbv;clear hI;(try clear hF);(try simp only [nc] at *);(try simp (disch:=(first|omega|(simp only [lnS];omega))) only [rdT,rdS,anT]));rotate_left 1;(try ((try simp only [nc] at *);omega)))
   |(refine hI2 (i + 1) ?_ ?_ ?_;rotate_left 1;(· ((try simp only [nc] at *);omega));(cbv;clear hI2;(try clear hF);(try simp only [nc] at *);(try simp (disch:=(first|omega|(simp only [lnS];omega))) only [rdT,rdS,anT]));rotate_left 1;(try ((try simp only [nc] at *);omega)))
   |(refine E.c (SCalls.of_le (gwrites_ok ((g.th.getD t []).getD i ev0)) ?_ ?_);(· (cbv;(try simp only [nc] at *);first|done|(simp;done)|(simp (disch:=(first|omega|(simp only [lnS];omega))) only [rdT,rdS,anT];first|done|omega|(refine ⟨?_,?_⟩<;>omega))|(simp (disch:=(first|omega|(simp only [lnS];omega))) [rdT,rdS];done)));cbv)
   |(refine ⟨fun _ h_s=>?_,fun _ h_s=>?_⟩<;>(cbv;(try simp only [nc] at *);try simp (disch:=(first|omega|(simp only [lnS];omega))) only [rdT,rdS,reduceCtorEq,trT] at h_s))
   |(refine hF ?_;intro _;clear hF)
   |(refine hF ?_;cbv;clear hF)
   |(refine ⟨fun _=>?_,?_⟩;(· ((try simp only [nc] at *);first|done|omega|exact ⟨by omega,rfl⟩|(simp (disch:=(first|omega|(simp only [lnS];omega))) only [rdT,rdS];first|done|omega|rfl|exact ⟨by omega,rfl⟩|(simp;done)|(simp;omega))|(intros;trivial)|exact mok_ids _));try cbv)
   | fail
  )
  all_goals (try simp only [nc] at *)
  all_goals (try simp (disch:=(first|omega|(simp only [lnS];omega))) only [rdT,rdS])
  ·refine ⟨by omega, ?_, ?_⟩
   ·refine (mput_new _ ⟨t + 1, i⟩ (ws_fresh g t i) _ rfl _ rfl).trans ?_
    rw [wsE_succ, if_pos (by assumption)]
    simp
   ·refine (mputV_new _ ⟨t + 1, i⟩ (ws_fresh g t i) _ rfl _ ((g.th.getD t []).getD i ev0).loc _ rfl).trans ?_
    rw [wsE_succ, if_pos (by assumption)]
    simp
  ·refine ⟨by omega, ?_⟩
   rw [wsE_succ, if_neg (by simp_all)]
   simp
  ·have e : i = (g.th.getD t []).length := by omega
   rw [e, wsT_succ]
   exact ⟨by omega, rfl, rfl⟩
 clear hI
 (try simp only [nc] at *)
 simp (disch:=(first|omega|(simp only [lnS];omega))) only [rdT,rdS,reduceCtorEq,trT] at h4
 have e : t = g.th.length := by omega
 subst e
 cbv
 repeat' (first
  |(refine ⟨fun _ h_s=>?_,fun _ h_s=>?_⟩<;>(cbv;(try simp only [nc] at *);try simp (disch:=(first|omega|(simp only [lnS];omega))) only [rdT,rdS,reduceCtorEq,trT] at h_s))
  |(refine hF ?_;intro _;clear hF)
  |(refine hF ?_;cbv;clear hF)
  |(refine ⟨fun _=>?_,?_⟩;(· ((try simp only [nc] at *);first|done|omega|exact ⟨by omega,rfl⟩|(simp (disch:=(first|omega|(simp only [lnS];omega))) only [rdT,rdS];first|done|omega|rfl|exact ⟨by omega,rfl⟩|(simp;done)|(simp;omega))|(intros;trivial)|exact mok_ids _));try cbv)
  | fail
 )
 generalize hm0 : wsT g g.th.length = m0 at *
 have hk0 : Keyed m0 := hm0 ▸ wsT_keyed g _
 refine E.loopS (ι:=Nat × List (EId × Int)) (fun j=>j.1≤g.ord.length∧strike (qsT g j.1) m0 = some j.2∧Keyed j.2) (fun j=>g.ord.length - j.1) (fun j=>[(44,.i fun _=>((j.1 : Nat) : Int))]) (fun j h=>h.set 1 (mapB j.2)) (0,m0) (fun _=>rfl) ⟨Nat.zero_le _,rfl,hk0⟩ ?_ fun j hj I hI=>?_
 ·cbv; simp
 obtain ⟨x, m⟩ := j
 obtain ⟨hx, hst, hk⟩ := hj
 simp only at hx hst hk ⊢
 cbv
 refine ⟨fun _ h5 => ?_, fun _ h5 => ?_⟩
 ·(try simp only [nc] at *)
  simp (disch:=(first|omega|(simp only [lnS];omega))) only [rdT,rdS,reduceCtorEq,trT] at h5
  have hol : ((g.ord.getD x []).length : Int) ≤ 9223372036854775807 := hg.ords _ (getD_mem (by omega))
  cbv
  repeat' (first
   |(refine ⟨fun _ h_s=>?_,fun _ h_s=>?_⟩<;>(cbv;(try simp only [nc] at *);try simp (disch:=(first|omega|(simp only [lnS];omega))) only [rdT,rdS,reduceCtorEq,trT] at h_s))
   |(refine hF ?_;intro _;clear hF)
   |(refine hF ?_;cbv;clear hF)
   |(refine ⟨fun _=>?_,?_⟩;(· ((try simp only [nc] at *);first|done|omega|exact ⟨by omega,rfl⟩|(simp (disch:=(first|omega|(simp only [lnS];omega))) only [rdT,rdS];first|done|omega|rfl|exact ⟨by omega,rfl⟩|(simp;done)|(simp;omega))|(intros;trivial)|exact mok_ids _));try cbv)
   | fail
  )
  refine E.loopS (ι:=Nat × List (EId × Int)) (fun j=>j.1≤(g.ord.getD x []).length∧strike (qsT g x ++ qsE g x j.1) m0 = some j.2∧Keyed j.2) (fun j=>(g.ord.getD x []).length - j.1) (fun j=>[(51,.i fun _=>((j.1 : Nat) : Int))]) (fun j h=>h.set 1 (mapB j.2)) (0,m) (fun _=>rfl) ⟨Nat.zero_le _,by simpa [qsE] using hst,hk⟩ ?_ fun j hj I2 hI2=>?_
  ·cbv; simp
  obtain ⟨i, m1⟩ := j
  obtain ⟨hi, hst1, hk1⟩ := hj
  simp only at hi hst1 hk1 ⊢
  cbv
  have hlk := lk_some m1 ((g.ord.getD x []).getD i id0) _ rfl
  have hlv := lk_val m1 ((g.ord.getD x []).getD i id0) _ rfl (.lit 0) rfl
  skip
  skip
  repeat' (first
   |(refine ⟨fun _ h_s=>?_,fun _ h_s=>?_⟩<;>(cbv;(try simp only [nc] at *);try simp (disch:=(first|omega|(simp only [lnS];omega))) only [rdT,rdS,knums_i2,reduceCtorEq,trT] at h_s))
   |(refine hF ?_;intro _;clear hF)
   |(refine hF ?_;cbv;clear hF)
   |(refine ⟨fun _=>?_,?_⟩;(· ((try simp only [nc] at *);first|done|omega|exact ⟨by omega,rfl⟩|(simp (disch:=(first|omega|(simp only [lnS];omega))) only [rdT,rdS,knums_i2];first|done|omega|rfl|exact ⟨by omega,rfl⟩|(simp;done)|(simp;omega))|(intros;trivial)|exact mok_ids _|exact ⟨mok_ids _,is_vals _⟩));(try (simp only [nc] at *));(try simp (disch:=(first|omega|(simp only [lnS];omega))) only [rdT,rdS,knums_i2]);(try cbv))
   | fail
  )
  all_goals (try simp only [nc] at *)
  all_goals (try simp (disch:=(first|omega|(simp only [lnS];omega))) only [rdT,rdS,knums_i2])
  ·obtain ⟨r, hr⟩ := qsT_split g x i (by omega) (by omega)
   rw [hr]
   refine decide_eq_false (strike_no hst1 fun hm => ?_)
   rw [← mlook_mem _ _ _ hk1] at hm
   simp_all
  ·obtain ⟨r, hr⟩ := qsT_split g x i (by omega) (by omega)
   rw [hr]
   refine decide_eq_false (strike_no hst1 fun hm => ?_)
   rw [← mlook_mem _ _ _ hk1] at hm
   simp_all
  ·have hm : mlook ((g.ord.getD x []).getD i id0) m1 = some (x : Int) := by
    cases h : mlook ((g.ord.getD x []).getD i id0) m1 <;> simp_all
   have hmm := (mlook_mem _ _ _ hk1).1 hm
   obtain ⟨hd1, hd2⟩ := lk_del m1 _ _ _ rfl hm
   refine hI2 (i + 1, m1.erase ((g.ord.getD x []).getD i id0, (x : Int))) ⟨by simp only; omega, ?_, keyed_erase hk1 _⟩ (by simp only; omega) ?_
   ·simp only
    rw [qsE_succ g x i (by omega), ← List.append_assoc, strike_app, hst1, Option.bind_some]
    simp only [strike, if_pos hmm]
   ·cbv
    clear hI hI2 hF
    (try simp only [nc] at *)
    (try simp (disch:=(first|omega|(simp only [lnS];omega))) only [rdT,rdS,knums_i2,anT])
    refine ⟨by omega, hd1, hd2⟩
  ·have e : i = (g.ord.getD x []).length := by omega
   subst e
   refine hI (x + 1, m1) ⟨by simp only; omega, by simp only; rw [qsT_succ]; exact hst1, hk1⟩ (by simp only; omega) ?_
   cbv
   clear hI hI2 hF
   (try simp only [nc] at *)
   (try simp (disch:=(first|omega|(simp only [lnS];omega))) only [rdT,rdS,knums_i2,anT])
   omega
 ·clear hI
  (try simp only [nc] at *)
  simp (disch:=(first|omega|(simp only [lnS];omega))) only [rdT,rdS,knums_i2,reduceCtorEq,trT] at h5
  have e : x = g.ord.length := by omega
  subst e
  cbv
  repeat' (first
   |(refine ⟨fun _ h_s=>?_,fun _ h_s=>?_⟩<;>(cbv;(try simp only [nc] at *);try simp (disch:=(first|omega|(simp only [lnS];omega))) only [rdT,rdS,knums_i2,reduceCtorEq,trT] at h_s))
   |(refine hF ?_;intro _;clear hF)
   |(refine hF ?_;cbv;clear hF)
   |(refine ⟨fun _=>?_,?_⟩;(· ((try simp only [nc] at *);first|done|omega|exact ⟨by omega,rfl⟩|(simp (disch:=(first|omega|(simp only [lnS];omega))) only [rdT,rdS,knums_i2];first|done|omega|rfl|exact ⟨by omega,rfl⟩|(simp;done)|(simp;omega))|(intros;trivial)|exact mok_ids _|exact ⟨mok_ids _,is_vals _⟩));try cbv)
   | fail
  )
  all_goals (try simp only [nc] at *)
  all_goals (try simp (disch:=(first|omega|(simp only [lnS];omega))) only [rdT,rdS,knums_i2])
  have hp := strike_perm (qsT g g.ord.length) m0
  rw [hst] at hp
  rw [decide_eq_decide, ← hp]
  simp
end Go.AL.Rl

namespace Go.AL.Rl
open Go Go.AL Go.Proofs
set_option maxRecDepth 100000
variable {γ : Nat → Option AV}

theorem perm_of_sub {α : Type} [DecidableEq α] : ∀ {a b : List α}, a.Nodup → (∀ x ∈ a, x ∈ b) → b.length ≤ a.length → a.Perm b
 | [], b, _, _, h => by
  have : b = [] := List.eq_nil_of_length_eq_zero (by simpa using h)
  rw [this]
 | x :: a, b, hn, hs, hl => by
  have hx : x ∈ b := hs x (by simp)
  have hn' := List.nodup_cons.1 hn
  have := perm_of_sub (a := a) (b := b.erase x) hn'.2 (fun y hy => by
   have hne : y ≠ x := fun e => hn'.1 (e ▸ hy)
   exact (List.mem_erase_of_ne hne).2 (hs y (by simp [hy]))) (by
   rw [List.length_erase_of_mem hx]; simp at hl; omega)
  exact (this.cons x).trans (List.perm_cons_erase hx).symm
theorem wsE_count (x : Int) (t : Nat) (l : List Ev) : ∀ n, n ≤ l.length → ((wsE t l n).filter fun p => decide (p.2 = x)).length = cntE x (l.take n)
 | 0, _ => by simp [wsE, cntE]
 | n + 1, h => by
  rw [wsE_succ, cntE_succ x l n (by omega), List.filter_append, List.length_append, wsE_count x t l n (by omega)]
  cases hw : writesM (l.getD n ev0)
  ·simp
  ·by_cases h2 : (l.getD n ev0).loc = x
   ·simp only [h2, if_true, decide_true, Bool.and_self, List.filter_cons, List.filter_nil, List.length_cons, List.length_nil]
   ·simp only [h2, if_true, decide_false, Bool.and_false, List.filter_cons, List.filter_nil, List.length_nil, if_false, Bool.false_eq_true]
theorem wsT_count (g : Gr) (x : Int) : ∀ t, t ≤ g.th.length → ((wsT g t).filter fun p => decide (p.2 = x)).length = cntT x (g.th.take t)
 | 0, _ => by simp [wsT, cntT]
 | t + 1, h => by
  rw [wsT_succ, cntT_succ x g.th t (by omega), List.filter_append, List.length_append, wsT_count g x t (by omega), wsE_count x t _ _ (Nat.le_refl _), List.take_length]
theorem event_thread {g : Gr} {k i : Nat} (hk : k < g.th.length) (hi : i < (g.th.getD k []).length) : eventM g ⟨k + 1, i⟩ = some ((g.th.getD k []).getD i ev0) := by
 unfold eventM
 have e : ((k : Int) + 1 - 1).toNat = k := by omega
 rw [if_neg (by simp only; omega), e, if_pos ⟨by simp only; omega, by simp only; omega, by simp only; omega, by simp only; omega⟩]
 simp
theorem isW_mem (g : Gr) (x : Int) (d : EId) : isW g x d = true ↔ (d, x) ∈ wsT g g.th.length := by
 rw [wsT_mem]
 constructor
 ·intro h
  unfold isW at h
  split at h
  ·rename_i e he
   simp only [Bool.and_eq_true, decide_eq_true_eq] at h
   obtain ⟨⟨h1, h2⟩, h3⟩ := h
   unfold eventM at he
   rw [if_neg h1] at he
   split at he
   ·rename_i hc
    cases he
    refine ⟨(d.t - 1).toNat, by omega, d.i.toNat, by omega, h2, ?_⟩
    rw [h3]
    congr 1
    exact EId.ext' (by simp only; omega) (by simp only; omega)
   ·cases he
  ·cases h
 ·rintro ⟨k, hk, i, hi, hw, he⟩
  obtain ⟨rfl, rfl⟩ := Prod.mk.inj he
  unfold isW
  rw [event_thread hk hi]
  simp only [hw, Bool.and_true, decide_true, decide_eq_true_eq]
  omega
theorem keyed_filter {m : List (EId × Int)} (h : Keyed m) (x : Int) : ((m.filter fun p => decide (p.2 = x)).map (·.1)).Nodup := List.Nodup.sublist (List.Sublist.map _ List.filter_sublist) h
theorem perm_split {m : List (EId × Int)} : ∀ (n : Nat), (∀ p ∈ m, ∃ k < n, p.2 = ((k : Nat) : Int)) → ((List.range n).flatMap fun k : Nat => m.filter fun p => decide (p.2 = (k : Int))).Perm m := by
 induction m with
 | nil =>
  intro n _
  have : ((List.range n).flatMap fun k : Nat => ([] : List (EId × Int)).filter fun p => decide (p.2 = (k : Int))) = [] := by
   rw [List.flatMap_eq_nil_iff]; intro k _; rfl
  rw [this]
 | cons p m ih =>
  intro n h
  obtain ⟨k, hk, hpk⟩ := h p (by simp)
  have ih := ih n fun q hq => h q (by simp [hq])
  refine List.Perm.trans ?_ (ih.cons p)
  obtain ⟨r, hr⟩ : ∃ r, List.range n = List.range k ++ k :: r := ⟨(List.range n).drop (k + 1), by
   have h1 : (List.range n).take k = List.range k := by rw [List.take_range]; congr 1; omega
   have h2 : (List.range n).drop k = k :: (List.range n).drop (k + 1) := by
    rw [List.drop_eq_getElem_cons (by simpa using hk)]; simp
   rw [← h1, ← h2, List.take_append_drop]⟩
  have hnk : ∀ j ∈ List.range k, decide (p.2 = ((j : Nat) : Int)) = false := fun j hj => by
   have := List.mem_range.1 hj; rw [hpk]; simp; omega
  have hnr : ∀ j ∈ r, decide (p.2 = ((j : Nat) : Int)) = false := fun j hj => by
   have hnd : (List.range n).Nodup := List.nodup_range
   rw [hr, List.nodup_append] at hnd
   have := (List.nodup_cons.1 hnd.2.1).1
   refine decide_eq_false ?_; rw [hpk]; intro e; have e' : k = j := by omega
   subst e'
   exact this hj
  have key : ∀ (L : List Nat), (∀ j ∈ L, decide (p.2 = ((j : Nat) : Int)) = false) → (L.flatMap fun k : Nat => (p :: m).filter fun p => decide (p.2 = (k : Int))) = L.flatMap fun k : Nat => m.filter fun p => decide (p.2 = (k : Int)) := by
   intro L hL
   induction L with
   | nil => rfl
   | cons j L ihL =>
    simp only [List.flatMap_cons]
    rw [ihL fun j hj => hL j (by simp [hj]), List.filter_cons, hL j (by simp)]
    simp
  rw [hr, List.flatMap_append, List.flatMap_append, List.flatMap_cons, List.flatMap_cons, key _ hnk, key _ hnr, List.filter_cons]
  rw [if_pos (by simp [hpk])]
  exact List.perm_middle
theorem flatMap_perm {α β : Type} {f g : α → List β} : ∀ {L : List α}, (∀ x ∈ L, (f x).Perm (g x)) → (L.flatMap f).Perm (L.flatMap g)
 | [], _ => .refl _
 | x :: L, h => by
  rw [List.flatMap_cons, List.flatMap_cons]
  exact (h x (by simp)).append (flatMap_perm fun y hy => h y (by simp [hy]))
theorem filter_flat (f : Nat → List (EId × Int)) (hf : ∀ k, ∀ p ∈ f k, p.2 = ((k : Nat) : Int)) (x : Nat) : ∀ n, ((List.range n).flatMap f).filter (fun p => decide (p.2 = (x : Int))) = if x < n then f x else []
 | 0 => rfl
 | n + 1 => by
  rw [List.range_succ, List.flatMap_append, List.filter_append, filter_flat f hf x n, List.flatMap_singleton]
  by_cases h : x = n
  ·subst h
   rw [if_neg (by omega), if_pos (by omega), List.filter_eq_self.2 fun p hp => by simp [hf x p hp], List.nil_append]
  ·have : (f n).filter (fun p => decide (p.2 = (x : Int))) = [] := by
    rw [List.filter_eq_nil_iff]
    intro p hp
    simp [hf n p hp]; omega
   rw [this, List.append_nil]
   by_cases h2 : x < n
   ·rw [if_pos h2, if_pos (by omega)]
   ·rw [if_neg h2, if_neg (by omega)]
theorem ordered_iff (g : Gr) (x : Nat) : orderedM g x = true ↔ (g.ord.getD x []).Nodup ∧ (∀ d ∈ g.ord.getD x [], isW g x d = true) ∧ (g.ord.getD x []).length = cntT x g.th := by
 unfold orderedM
 generalize g.ord.getD x [] = l
 rw [Bool.and_eq_true, decide_eq_true_iff, decide_eq_true_iff]
 constructor
 ·rintro ⟨h1, h2⟩
  refine ⟨?_, fun d hd => ?_, h2⟩
  ·unfold List.Nodup
   rw [List.pairwise_iff_getElem]
   intro i j hi hj hij
   have := (h1 j hj).2 i hij
   simpa [hi, hj] using this
  ·obtain ⟨i, hi, rfl⟩ := List.getElem_of_mem hd
   simpa [hi] using (h1 i hi).1
 ·rintro ⟨h1, h2, h3⟩
  refine ⟨fun i hi => ⟨h2 _ (getD_mem hi), fun k hk => ?_⟩, h3⟩
  unfold List.Nodup at h1
  rw [List.pairwise_iff_getElem] at h1
  have := h1 k i (by omega) hi hk
  simpa [hi, show k < l.length by omega] using this
theorem map_pair (l : List EId) (x : Int) : ((l.map fun d => (d, x)).map (·.1)) = l := by rw [List.map_map]; exact List.map_id _
theorem nodup_pair {l : List EId} (h : l.Nodup) (x : Int) : (l.map fun d => (d, x)).Nodup := by
 unfold List.Nodup at *
 rw [List.pairwise_map]
 exact h.imp fun hab he => hab (Prod.mk.inj he).1
theorem orders_perm {g : Gr} (hl : g.ord.length = g.init.length) (he : eventsOk g) : ordersOk g ↔ (qsT g g.ord.length).Perm (wsT g g.th.length) := by
 have hws : ∀ p ∈ wsT g g.th.length, ∃ k < g.ord.length, p.2 = ((k : Nat) : Int) := by
  intro p hp
  obtain ⟨k, hk, i, hi, hw, rfl⟩ := wsT_mem.1 hp
  have hf := (he k hk).2 i hi
  generalize (g.th.getD k []).getD i ev0 = e at *
  refine ⟨e.loc.toNat, ?_⟩
  simp only [fineM, Bool.and_eq_true, decide_eq_true_eq] at hf
  simp only [writesM, Bool.or_eq_true, decide_eq_true_eq] at hw
  have := hf.2
  rw [if_neg (by omega)] at this
  simp only [decide_eq_true_eq] at this
  omega
 have hcnt : ∀ x : Nat, ((wsT g g.th.length).filter fun p => decide (p.2 = (x : Int))).length = cntT x g.th := fun x => by
  have := wsT_count g x g.th.length (Nat.le_refl _)
  rwa [List.take_length] at this
 have hq : ∀ x < g.ord.length, (qsT g g.ord.length).filter (fun p => decide (p.2 = (x : Int))) = (g.ord.getD x []).map fun d => (d, (x : Int)) := fun x hx => by
  unfold qsT
  rw [filter_flat (fun k => (g.ord.getD k []).map fun d => (d, (k : Int))) (fun k p hp => by
   obtain ⟨d, _, rfl⟩ := List.mem_map.1 hp; rfl) x, if_pos hx]
 constructor
 ·intro ho
  refine List.Perm.trans ?_ (perm_split g.ord.length hws)
  unfold qsT
  refine flatMap_perm fun x hx => ?_
  obtain ⟨h1, h2, h3⟩ := (ordered_iff g x).1 (ho x (by have := List.mem_range.1 hx; omega))
  refine perm_of_sub ?_ (fun p hp => ?_) ?_
  ·exact nodup_pair h1 _
  ·obtain ⟨d, hd, rfl⟩ := List.mem_map.1 hp
   rw [List.mem_filter]
   exact ⟨(isW_mem g x d).1 (h2 d hd), by simp⟩
  ·rw [hcnt, List.length_map, h3]; exact Nat.le_refl _
 ·intro hp x hx
  rw [ordered_iff]
  have h1 := hp.filter (fun p => decide (p.2 = (x : Int)))
  rw [hq x (by omega)] at h1
  have h2 := h1.map (·.1)
  rw [map_pair] at h2
  refine ⟨(h2.nodup_iff).2 (keyed_filter (wsT_keyed g _) x), fun d hd => ?_, ?_⟩
  ·rw [isW_mem]
   have := h1.subset (List.mem_map.2 ⟨d, hd, rfl⟩)
   exact (List.mem_filter.1 this).1
  ·rw [← hcnt, ← h1.length_eq, List.length_map]

theorem gcheck_ok (g : Gr) (hg : Rd g) : Pure Tryz.prog γ false 22 [aGr g] (.i fun _ => gcheckM g) := by
 have hg2 := hg.th
 refine Pure.go (ty := ty) ty_eq mo Tryz.func22 rfl Tryz.ntmps22 Tryz.results22 Tryz.call22 (by simp) fun P C CQ D W F E hF => ?_
 cbv
 repeat' (first
  |(refine E.c (SCalls.of_le (tooLong_ok g hg) ?_ ?_);(· (cbv;(try simp only [nc] at *);first|done|(simp;done)|(simp (disch:=(first|omega|(simp only [lnS];omega))) only [rdT,rdS,anT];first|done|omega|(refine ⟨?_,?_⟩<;>omega))|(simp (disch:=(first|omega|(simp only [lnS];omega))) [rdT,rdS];done)));cbv)
  |(refine ⟨fun _ h_s=>?_,fun _ h_s=>?_⟩<;>(cbv;(try simp only [nc] at *);try simp (disch:=(first|omega|(simp only [lnS];omega))) only [rdT,rdS,reduceCtorEq,trT] at h_s))
  |(refine hF ?_;intro _;clear hF)
  |(refine hF ?_;cbv;clear hF)
  |(refine ⟨fun _=>?_,?_⟩;(· ((try simp only [nc] at *);first|done|omega|exact ⟨by omega,rfl⟩|(simp (disch:=(first|omega|(simp only [lnS];omega))) only [rdT,rdS];first|done|omega|rfl|exact ⟨by omega,rfl⟩|(simp;done)|(simp;omega))|(intros;trivial)));try cbv)
  |(refine E.d 20 (by decide +kernel) ?_;cbv;(fail_if_success guard_target =~ False))
  | fail
 )
 all_goals (try simp only [nc] at *)
 all_goals (try simp (disch:=(first|omega|(simp only [lnS];omega))) only [rdT,rdS])
 ·exact (gcheck3 (by simp_all)).symm
 ·exact (gcheck2 (by simp_all) fun h => by have := h.lfr; omega).symm
 ·exact (gcheck2 (by simp_all) fun h => by have := h.lord; omega).symm
 have hsh : Short g := by simp_all
 have hlf : g.fr.length = g.th.length := by omega
 have hlo : g.ord.length = g.init.length := by omega
 refine E.loopS (ι:=Nat) (fun t=>t≤g.th.length∧(∀ j < t,((g.fr.getD j []).length = (g.th.getD j []).length∧∀ i < (g.th.getD j []).length,fineM g.init.length ((g.th.getD j []).getD i ev0) = true)∧∀ i < (g.th.getD j []).length,sourceM g ⟨j + 1,i⟩ ((g.fr.getD j []).getD i id0) = true)) (fun t=>g.th.length - t) (fun t=>[(28,.i fun _=>((t : Nat) : Int))]) (fun t h=>h) 0 (fun _=>by first|rfl|simp) ⟨Nat.zero_le _,?_⟩ ?_ fun t ht I hI=>?_
 ·intro j hj; omega
 ·cbv; simp
 obtain ⟨ht, hok⟩ := ht
 cbv
 refine ⟨fun _ h4 => ?_, fun _ h4 => ?_⟩
 ·(try simp only [nc] at *)
  simp (disch:=(first|omega|(simp only [lnS];omega))) only [rdT,rdS,reduceCtorEq,trT] at h4
  have hht := hsh.at t
  cbv
  repeat' (first
   |(refine ⟨fun _ h_s=>?_,fun _ h_s=>?_⟩<;>(cbv;(try simp only [nc] at *);try simp (disch:=(first|omega|(simp only [lnS];omega))) only [rdT,rdS,reduceCtorEq,trT] at h_s))
   |(refine hF ?_;intro _;clear hF)
   |(refine hF ?_;cbv;clear hF)
   |(refine ⟨fun _=>?_,?_⟩;(· ((try simp only [nc] at *);first|done|omega|exact ⟨by omega,rfl⟩|(simp (disch:=(first|omega|(simp only [lnS];omega))) only [rdT,rdS];first|done|omega|rfl|exact ⟨by omega,rfl⟩|(simp;done)|(simp;omega))|(intros;trivial)));try cbv)
   |(refine E.d 20 (by decide +kernel) ?_;cbv;(fail_if_success guard_target =~ False))
   | fail
  )
  all_goals (try simp only [nc] at *)
  all_goals (try simp (disch:=(first|omega|(simp only [lnS];omega))) only [rdT,rdS])
  ·exact (gcheck2 hsh fun h => by have := (h.events t (by omega)).1; omega).symm
  refine E.loopS (ι:=Nat) (fun i=>i≤(g.th.getD t []).length∧(∀ j < i,fineM g.init.length ((g.th.getD t []).getD j ev0) = true∧sourceM g ⟨t + 1,j⟩ ((g.fr.getD t []).getD j id0) = true)) (fun i=>(g.th.getD t []).length - i) (fun i=>[(44,.i fun _=>((i : Nat) : Int))]) (fun i h=>h) 0 (fun _=>by first|rfl|simp) ⟨Nat.zero_le _,?_⟩ ?_ fun i hi I2 hI2=>?_
  ·intro j hj; omega
  ·cbv; simp
  obtain ⟨hi, hoki⟩ := hi
  cbv
  repeat' (first
   |(refine hI (t + 1) ?_ ?_ ?_;rotate_left 1;(· ((try simp only [nc] at *);omega));(cbv;clear hI;(try clear hF);(try simp only [nc] at *);(try simp (disch:=(first|omega|(simp only [lnS];omega))) only [rdT,rdS,anT]));rotate_left 1;(try ((try simp only [nc] at *);omega)))
   |(refine hI2 (i + 1) ?_ ?_ ?_;rotate_left 1;(· ((try simp only [nc] at *);omega));(cbv;clear hI2;(try clear hF);(try simp only [nc] at *);(try simp (disch:=(first|omega|(simp only [lnS];omega))) only [rdT,rdS,anT]));rotate_left 1;(try ((try simp only [nc] at *);omega)))
   |((first|refine E.c (SCalls.of_le (rightFrom_ok g hg ⟨t + 1,i⟩ ((g.fr.getD t []).getD i id0)) ?_ ?_)|refine E.q (QCalls.of_le (rightFrom_ok g hg ⟨t + 1,i⟩ ((g.fr.getD t []).getD i id0)) ?_ ?_));(· (cbv;(try simp only [nc] at *);first|done|(simp;done)|(simp (disch:=(first|omega|(simp only [lnS];omega))) only [rdT,rdS,anT];first|done|omega|(refine ⟨?_,?_⟩<;>omega))|(simp (disch:=(first|omega|(simp only [lnS];omega))) [rdT,rdS];done)));cbv)
   |((first|refine E.c (SCalls.of_le (rightEvent_ok ((g.th.getD t []).getD i ev0) g.init.length) ?_ ?_)|refine E.q (QCalls.of_le (rightEvent_ok ((g.th.getD t []).getD i ev0) g.init.length) ?_ ?_));(· (cbv;(try simp only [nc] at *);first|done|(simp;done)|(simp (disch:=(first|omega|(simp only [lnS];omega))) only [rdT,rdS,anT];first|done|omega|(refine ⟨?_,?_⟩<;>omega))|(simp (disch:=(first|omega|(simp only [lnS];omega))) [rdT,rdS];done)));cbv)
   |(refine ⟨fun _ h_s=>?_,fun _ h_s=>?_⟩<;>(cbv;(try simp only [nc] at *);try simp (disch:=(first|omega|(simp only [lnS];omega))) only [rdT,rdS,reduceCtorEq,trT] at h_s))
   |(refine hF ?_;intro _;clear hF)
   |(refine hF ?_;cbv;clear hF)
   |(refine ⟨fun _=>?_,?_⟩;(· ((try simp only [nc] at *);first|done|omega|exact ⟨by omega,rfl⟩|(simp (disch:=(first|omega|(simp only [lnS];omega))) only [rdT,rdS];first|done|omega|rfl|exact ⟨by omega,rfl⟩|(simp;done)|(simp;omega))|(intros;trivial)));try cbv)
   |(refine E.d 20 (by decide +kernel) ?_;cbv;(fail_if_success guard_target =~ False))
   | fail
  )
  all_goals (try simp only [nc] at *)
  all_goals (try simp (disch:=(first|omega|(simp only [lnS];omega))) only [rdT,rdS])
  ·refine (gcheck2 hsh fun h => ?_).symm
   have := (h.events t (by omega)).2 i (by omega)
   simp_all
  ·refine (gcheck2 hsh fun h => ?_).symm
   have := h.sources t (by omega) i (by omega)
   simp_all
  ·refine ⟨by omega, fun j hj => ?_⟩
   rcases Nat.lt_or_ge j i with h | h
   ·exact hoki j h
   ·obtain rfl : j = i := by omega
    exact ⟨by assumption, by assumption⟩
  ·omega
  ·refine ⟨by omega, fun j hj => ?_⟩
   rcases Nat.lt_or_ge j t with h | h
   ·exact hok j h
   ·obtain rfl : j = t := by omega
    exact ⟨⟨by omega, fun k hk => (hoki k (by omega)).1⟩, fun k hk => (hoki k (by omega)).2⟩
  ·omega
 clear hI
 (try simp only [nc] at *)
 simp (disch:=(first|omega|(simp only [lnS];omega))) only [rdT,rdS,reduceCtorEq,trT] at h4
 have e : t = g.th.length := by omega
 subst e
 have hev : eventsOk g := fun j hj => (hok j hj).1
 have hso : sourcesOk g := fun j hj => (hok j hj).2
 have hp := orders_perm (by omega) hev
 cbv
 repeat' (first
  |(refine E.c (SCalls.of_le (rightOrder_ok g hg hsh) ?_ ?_);(· (cbv;(try simp only [nc] at *);first|done|(simp;done)|(simp (disch:=(first|omega|(simp only [lnS];omega))) only [rdT,rdS,anT];first|done|omega|(refine ⟨?_,?_⟩<;>omega))|(simp (disch:=(first|omega|(simp only [lnS];omega))) [rdT,rdS];done)));cbv)
  |(refine ⟨fun _ h_s=>?_,fun _ h_s=>?_⟩<;>(cbv;(try simp only [nc] at *);try simp (disch:=(first|omega|(simp only [lnS];omega))) only [rdT,rdS,reduceCtorEq,trT] at h_s))
  |(refine hF ?_;intro _;clear hF)
  |(refine hF ?_;cbv;clear hF)
  |(refine ⟨fun _=>?_,?_⟩;(· ((try simp only [nc] at *);first|done|omega|exact ⟨by omega,rfl⟩|(simp (disch:=(first|omega|(simp only [lnS];omega))) only [rdT,rdS];first|done|omega|rfl|exact ⟨by omega,rfl⟩|(simp;done)|(simp;omega))|(intros;trivial)));try cbv)
  |(refine E.d 20 (by decide +kernel) ?_;cbv;(fail_if_success guard_target =~ False))
  | fail
 )
 all_goals (try simp only [nc] at *)
 all_goals (try simp (disch:=(first|omega|(simp only [lnS];omega))) only [rdT,rdS])
 ·refine (gcheck2 hsh fun h => ?_).symm
  have := hp.1 h.orders
  simp_all
 ·refine (gcheck0 ⟨hsh, by omega, by omega, hev, hso, hp.2 ?_⟩).symm
  simp_all
end Go.AL.Rl
