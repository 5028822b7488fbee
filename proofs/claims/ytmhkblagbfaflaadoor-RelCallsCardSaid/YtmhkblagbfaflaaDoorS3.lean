import Derived.Test.YtmhkblagbfaflaaDoorS2
set_option linter.unusedVariables false
set_option linter.unusedSimpArgs false
namespace Go.AL.Rl
open Go Go.AL Go.Proofs
variable {γ : Nat → Option AV}
set_option maxRecDepth 100000

/-! ### Rows by a rule -/
def tab (n : Nat) (f : Nat → BitVec 64) : List (BitVec 64) := (List.range n).map f
@[simp] theorem tab_len (n : Nat) (f : Nat → BitVec 64) : (tab n f).length = n := by simp [tab]
theorem tab_get (n : Nat) (f : Nat → BitVec 64) (i : Nat) (h : i < n) : (tab n f).getD i 0 = f i := by simp [tab, h]
theorem tab_congr {n : Nat} {f g : Nat → BitVec 64} (h : ∀ i < n, f i = g i) : tab n f = tab n g := List.map_congr_left fun i hi => h i (by simpa using hi)
theorem tab_set {n : Nat} {f g : Nat → BitVec 64} (i : Nat) (x : BitVec 64) (_ : i < n) (hx : g i = x) (h : ∀ j < n, j ≠ i → g j = f j) : (tab n f).set i x = tab n g := by
  apply List.ext_getElem (by simp)
  intro j h1 h2
  have hj : j < n := by simpa using h2
  rw [List.getElem_set]
  split
  · rename_i e; subst e; simp [tab, hx]
  · rename_i e; simp [tab]; exact (h j hj (Ne.symm e)).symm
theorem tab_self (rows : List (BitVec 64)) : tab rows.length (fun i => rows.getD i 0) = rows := by
  apply List.ext_getElem (by simp)
  intro j h1 h2
  simp [tab, h2]
theorem tab_zero (n : Nat) : tab n (fun _ => 0#64) = List.replicate n 0#64 := by
  apply List.ext_getElem (by simp)
  intro j h1 h2
  simp [tab]
theorem fits_len {n : Int} {rows : List (BitVec 64)} (hf : Fits n rows) : ∃ k : Nat, n = k ∧ rows.length = k ∧ k ≤ 64 := by
  have := hf.1; have := hf.2.1; have := hf.2.2.1
  exact ⟨rows.length, by omega, rfl, by omega⟩

/-! ### Self -/
def selfM (n : Nat) : List (BitVec 64) := tab n fun j => 1#64 <<< j
theorem self_in (n : Nat) (h : n ≤ 64) : Pure Tryd.prog γ false 18 [.i fun _ => (n : Int)] (encRel n (selfM n)) := by
  refine Pure.go (ty := ty) ty_eq mo Tryd.func18 rfl Tryd.ntmps18 Tryd.results18 Tryd.call18 (by simp) fun P C CQ D W F E hF => ?_
  cbv
  refine E.c (SCalls.of_owns (none_in (n : Int) (by omega) (by omega)) ?_ ?_)
  · cbv; all_goals simp
  cbv
  simp only [Int.toNat_natCast, nc]
  refine E.loop (ι := Nat) (fun m => m ≤ n) (fun m => n - m) (fun m => [(10, .i fun _ => (m : Int))])
    (fun m => [.box (.agg [.lit 0, .nils]), .any, .run 0 1 fun _ => us (tab n fun j => if j < m then 1#64 <<< j else 0#64), .box (.agg [.i fun _ => (n : Int), .sl 2 0 1 (fun _ => 0) fun _ => n])])
    0 rfl (fun _ => rfl) (Nat.zero_le _) ?_ fun m hm I hI => ?_
  · cbv
    simp [← tab_zero]
  cbv
  refine ⟨fun _ h4 => ?_, fun _ h4 => ?_⟩
  · cbv
    have hmm : m < n := by simpa using h4
    have hsh : (BitVec.ofInt 64 (m : Int)).toNat = m := by simp; omega
    refine ⟨fun _ => by simp; omega, fun _ => ⟨rfl, by simp; omega, by rw [Nat.zero_add, nct, us_get _ m (by simpa using hmm)]; rfl⟩, ?_⟩
    refine hI (m + 1) (by omega) (by omega) ?_
    cbv
    clear hI
    simp only [Nat.zero_add, nct, us_get _ m (show m < (tab n _).length by simpa using hmm), at_u, upd_u, us_set, us_of, nc, hsh]
    simp only [implies_true, and_true, true_and, forall_const]
    refine ⟨w64_of (by omega) (by omega), congrArg us (tab_set m _ hmm (by simp) fun j _ hj => ?_)⟩
    by_cases h : j < m <;> simp [h] <;> omega
  · cbv
    refine hF ?_
    cbv
    clear hI
    have hml : m = n := by simp at h4; omega
    subst hml
    simp [selfM]
    rw [List.take_of_length_le (by simp)]
    exact congrArg (fun x => (us x).l) (tab_congr fun i hi => by simp [hi])

/-! ### Has -/
def hasM (n : Int) (rows : List (BitVec 64)) (i j : Int) : Bool := decide (Fits n rows ∧ 0 ≤ i ∧ i < n ∧ 0 ≤ j ∧ j < n) && bit rows i.toNat j.toNat
theorem bit_test (rows : List (BitVec 64)) (i j : Nat) : ((rows.getD i 0 >>> j) &&& 1#64 = 0#64) ↔ bit rows i j = false := and_one_zero _ _
theorem has_ok (n : Int) (rows : List (BitVec 64)) (i j : Int) : Pure Tryd.prog γ false 21 [encRel n rows, .i fun _ => i, .i fun _ => j] (.b fun _ => hasM n rows i j) := by
  refine Pure.go (ty := ty) ty_eq mo Tryd.func21 rfl Tryd.ntmps21 Tryd.results21 Tryd.call21 (by simp) fun P C CQ D W F E hF => ?_
  cbv
  refine E.c (SCalls.of_le (check_ok n rows) ?_ ?_)
  · cbv; all_goals simp
  cbv
  by_cases hf : Fits n rows
  case neg =>
    refine br_t (by simp [checkM, hf]) ?_
    cbv
    refine hF ?_
    cbv
    simp [hasM, hf]
  refine br_f (by simp [checkM, hf]) ?_
  cbv
  refine ⟨fun _ h1 => ?_, fun _ h1 => ?_⟩
  · cbv
    refine hF ?_
    cbv
    intro _
    simp at h1
    simp [hasM]; omega
  cbv
  refine ⟨fun _ h2 => ?_, fun _ h2 => ?_⟩
  · cbv
    refine hF ?_
    cbv
    intro _
    simp at h1 h2
    simp [hasM]; omega
  cbv
  refine ⟨fun _ h3 => ?_, fun _ h3 => ?_⟩
  · cbv
    refine hF ?_
    cbv
    intro _
    simp at h1 h2 h3
    simp [hasM]; omega
  cbv
  refine ⟨fun _ h4 => ?_, fun _ h4 => ?_⟩
  · cbv
    refine hF ?_
    cbv
    intro _
    simp at h1 h2 h3 h4
    simp [hasM]; omega
  cbv
  obtain ⟨len, rfl, hl, hl2⟩ := fits_len hf
  simp at h1 h2 h3 h4
  obtain ⟨p, rfl⟩ : ∃ p : Nat, i = p := ⟨i.toNat, by omega⟩
  obtain ⟨q, rfl⟩ : ∃ q : Nat, j = q := ⟨j.toNat, by omega⟩
  have hp : p < rows.length := by omega
  have h5 : (p : Int) < len ∧ (q : Int) < len := ⟨h2, h4⟩
  have hsh : (BitVec.ofInt 64 (q : Int)).toNat = q := by simp; omega
  refine ⟨fun _ => by simp; omega, fun _ => by rw [nct, us_get _ p hp]; rfl, ?_⟩
  cbv
  refine hF ?_
  cbv
  intro _
  simp only [nct, us_get _ p hp, at_u, nc, hsh]
  have hb := bit_test rows p q
  simp only [hasM, hf, h5, Int.toNat_natCast]
  cases hbb : bit rows p q with
  | true =>
    rw [hbb] at hb
    simpa using hb
  | false =>
    have := hb.2 hbb
    simpa using this

/-! ### alike -/
abbrev RelV := Int × List (BitVec 64)
def rls (l : List RelV) : LV := LV.of (l.map fun r => encRel r.1 r.2)
@[simp] theorem rls_len (l : List RelV) : (rls l).l.length = l.length := by simp [rls]
theorem rls_get (l : List RelV) (i : Nat) (h : i < l.length) : (rls l).l.getD i .any = encRel (l.getD i (0, [])).1 (l.getD i (0, [])).2 := by
  simp [rls, h]
theorem at_r0 (x : Unit → Int) (y : AV) : ((AV.agg [.i x, y]).at 0).asI = x () := rfl
theorem at_r1 (x : AV) (k : Nat) (y : Unit → LV) : ((AV.agg [x, .vs k y]).at 1).asL = y () := rfl
def Alike (l : List RelV) : Prop := 0 < l.length ∧ ∀ i < l.length, Fits (l.getD i (0, [])).1 (l.getD i (0, [])).2 ∧ (l.getD i (0, [])).1 = (l.getD 0 (0, [])).1
instance (l : List RelV) : Decidable (Alike l) := by unfold Alike; infer_instance
theorem alike_ok (l : List RelV) (hl : l.length < 4611686018427387904) : Pure Tryd.prog γ false 50 [.vs 2 fun _ => rls l] (.b fun _ => decide (Alike l)) := by
  refine Pure.go (ty := ty) ty_eq mo Tryd.func50 rfl Tryd.ntmps50 Tryd.results50 Tryd.call50 (by simp) fun P C CQ D W F E hF => ?_
  cbv
  refine E.loop (ι := Nat) (fun m => m ≤ l.length ∧ ∀ k < m, Fits (l.getD k (0, [])).1 (l.getD k (0, [])).2 ∧ (l.getD k (0, [])).1 = (l.getD 0 (0, [])).1) (fun m => l.length - m) (fun m => [(7, .i fun _ => (m : Int))])
    (fun m => []) 0 rfl (fun _ => rfl) ⟨Nat.zero_le _, by simp⟩ ?_ fun m hm I hI => ?_
  · cbv
    simp
  cbv
  refine ⟨fun _ h4 => ?_, fun _ h4 => ?_⟩
  · cbv
    have hmm : m < l.length := by simpa using h4
    refine ⟨fun _ => by simp; omega, fun _ => by rw [nct, rls_get _ m hmm]; rfl, ?_⟩
    cbv
    simp only [nct, rls_get _ m hmm, at_r0, at_r1]
    generalize hv : l.getD m (0, []) = v
    obtain ⟨vn, vr⟩ := v
    simp only
    refine E.d 12 (by kernel_rfl) ?_
    cbv
    refine E.q (QCalls.of_le (check_ok vn vr) ?_ ?_)
    · cbv; all_goals simp
    cbv
    have hfit : l.getD m (0, []) = (vn, vr) := hv
    refine ⟨fun _ h5 => ?_, fun _ h5 => ?_⟩
    · cbv
      refine hF ?_
      cbv
      intro _
      clear hI
      have : ¬ Alike l := fun h => by
        have := (h.2 m hmm).1
        rw [hfit] at this
        simp [checkM, this] at h5
      simp [this]
    cbv
    have hfv : Fits vn vr := by
      by_cases h : Fits vn vr
      · exact h
      · simp [checkM, h] at h5
    refine ⟨fun _ => by simp; omega, fun _ => by rw [show (0 : Int).toNat = 0 from rfl, rls_get _ 0 (by omega)]; rfl, ?_⟩
    simp only [show (0 : Int).toNat = 0 from rfl, rls_get _ 0 (show 0 < l.length by omega), at_r0]
    refine ⟨fun _ h6 => ?_, fun _ h6 => ?_⟩
    · cbv
      refine hF ?_
      cbv
      intro _
      clear hI
      have : ¬ Alike l := fun h => by
        have := (h.2 m hmm).2
        rw [hfit] at this
        simp at h6
        exact h6 (by simpa using this)
      simp [this]
    · cbv
      refine hI (m + 1) ⟨hmm, fun k hk => ?_⟩ (by omega) ?_
      · rcases Nat.lt_or_ge k m with h | h
        · exact hm.2 k h
        · obtain rfl : k = m := by omega
          rw [hfit]
          exact ⟨hfv, by simpa using h6⟩
      · cbv
        clear hI
        simp
        exact w64_of (by omega) (by omega)
  · cbv
    refine hF ?_
    cbv
    clear hI
    intro _
    have : m = l.length := by simp at h4; omega
    subst this
    simp
    exact ⟨fun h => ⟨h, hm.2⟩, fun h => h.1⟩
end Go.AL.Rl

namespace Go.AL.Rl
open Go Go.AL Go.Proofs
variable {γ : Nat → Option AV}
set_option maxRecDepth 100000

theorem alike_fits {l : List RelV} (h : Alike l) {r : RelV} (hr : r ∈ l) : Fits r.1 r.2 ∧ r.1 = (l.getD 0 (0, [])).1 := by
  obtain ⟨i, hi, rfl⟩ := List.mem_iff_getElem.1 hr
  have := h.2 i hi
  simpa [hi] using this
theorem getD_mem {α : Type} {l : List α} {i : Nat} {d : α} (h : i < l.length) : l.getD i d ∈ l := by simp [h]

/-! ### Or -/
def orV (l : List RelV) (j : Nat) : BitVec 64 := l.foldl (fun a r => a ||| r.2.getD j 0) 0#64
theorem orV_succ (l : List RelV) (k j : Nat) (h : k < l.length) : orV (l.take (k + 1)) j = orV (l.take k) j ||| (l.getD k (0, [])).2.getD j 0 := by
  rw [orV, List.take_succ_eq_append_getElem h, List.foldl_append]
  simp only [List.foldl_cons, List.foldl_nil, List.getD_eq_getElem?_getD, List.getElem?_eq_getElem h, Option.getD_some]; rfl
def orM (n : Nat) (l : List RelV) : List (BitVec 64) := tab n (orV l)
theorem or_no (l : List RelV) (hl : l.length < 4611686018427387904) (h : ¬ Alike l) : Pure Tryd.prog γ false 25 [.vs 2 fun _ => rls l] (encRel 0 []) := by
  refine Pure.go (ty := ty) ty_eq mo Tryd.func25 rfl Tryd.ntmps25 Tryd.results25 Tryd.call25 (by simp) fun P C CQ D W F E hF => ?_
  cbv
  refine E.c (SCalls.of_le (alike_ok l hl) ?_ ?_)
  · cbv; all_goals simp
  cbv
  refine br_t (by simp [h]) ?_
  cbv
  refine hF ?_
  cbv
  simp [us]
theorem or_yes (l : List RelV) (hl : l.length < 4611686018427387904) (h : Alike l) (n : Nat) (hn : (l.getD 0 (0, [])).1 = n) : Pure Tryd.prog γ false 25 [.vs 2 fun _ => rls l] (encRel n (orM n l)) := by
  have h0 := (h.2 0 h.1).1
  have hl0 := h.1
  obtain ⟨k0, hk1, hk2, hk3⟩ := fits_len h0
  rw [hn] at hk1
  obtain rfl : n = k0 := by omega
  have hall : ∀ k < l.length, (l.getD k (0, [])).2.length = n := fun k hk => by
    have := h.2 k hk
    obtain ⟨j, e1, e2, _⟩ := fits_len this.1
    have e3 := this.2
    rw [hn, e1] at e3
    omega
  refine Pure.go (ty := ty) ty_eq mo Tryd.func25 rfl Tryd.ntmps25 Tryd.results25 Tryd.call25 (by simp) fun P C CQ D W F E hF => ?_
  cbv
  refine E.c (SCalls.of_le (alike_ok l hl) ?_ ?_)
  · cbv; all_goals simp
  cbv
  refine br_f (by simp [h]) ?_
  cbv
  refine ⟨fun _ => by simp; omega, fun _ => by rw [show (0 : Int).toNat = 0 from rfl, rls_get _ 0 hl0]; rfl, ?_⟩
  cbv
  simp only [show (0 : Int).toNat = 0 from rfl, rls_get _ 0 hl0, at_r0, hn]
  refine E.c (SCalls.of_owns (none_in (n : Int) (by omega) (by omega)) ?_ ?_)
  · cbv; all_goals simp
  cbv
  simp only [Int.toNat_natCast, nc]
  refine E.loop (ι := Nat) (fun k => k ≤ l.length) (fun k => l.length - k) (fun k => [(19, .i fun _ => (k : Int))])
    (fun k => [.box (.agg [.lit 0, .nils]), .any, .run 0 1 fun _ => us (tab n (orV (l.take k))), .box (.agg [.i fun _ => (n : Int), .sl 2 0 1 (fun _ => 0) fun _ => n])])
    0 rfl (fun _ => rfl) (Nat.zero_le _) ?_ fun k hk I hI => ?_
  · cbv
    simp [← tab_zero, show orV [] = fun _ => 0#64 from rfl]
  cbv
  refine ⟨fun _ h4 => ?_, fun _ h4 => ?_⟩
  · cbv
    have hkk : k < l.length := by simpa using h4
    refine ⟨fun _ => by simp; omega, fun _ => by rw [nct, rls_get _ k hkk]; rfl, ?_⟩
    cbv
    have hsu := orV_succ l k
    have hrl := hall k hkk
    simp only [nct, rls_get _ k hkk, at_r0, at_r1]
    generalize l.getD k (0, []) = r at hsu hrl
    obtain ⟨rn, rr⟩ := r
    simp only at hsu hrl ⊢
    refine E.loop (ι := Nat) (fun i => i ≤ n) (fun i => n - i) (fun i => [(26, .i fun _ => (i : Int))])
      (fun i => [.box (.agg [.lit 0, .nils]), .any, .run 0 1 fun _ => us (tab n fun j => if j < i then orV (l.take (k + 1)) j else orV (l.take k) j), .box (.agg [.i fun _ => (n : Int), .sl 2 0 1 (fun _ => 0) fun _ => n]), .box (encRel rn rr)])
      0 rfl (fun _ => rfl) (Nat.zero_le _) ?_ fun i hi I2 hI2 => ?_
    · cbv
      simp
    cbv
    refine ⟨fun _ h5 => ?_, fun _ h5 => ?_⟩
    · cbv
      have hii : i < n := by simp at h5; omega
      refine ⟨fun _ => by simp; omega, fun _ => by rw [nct, us_get _ i (by omega)]; rfl, fun _ => by simp; omega, fun _ => ⟨rfl, by simp; omega⟩, fun _ => by rw [Nat.zero_add, nct, us_get _ i (by simpa using hii)]; rfl, fun _ => by simp; omega,
        fun _ => ⟨rfl, by simp; omega, by rw [Nat.zero_add, nct, us_get _ i (by simpa using hii)]; rfl⟩, ?_⟩
      refine hI2 (i + 1) (by omega) (by omega) ?_
      cbv
      clear hI hI2
      simp only [Nat.zero_add, nct, us_get _ i (show i < (tab n _).length by simpa using hii), us_get rr i (by omega), at_u, upd_u, us_set, us_of, nc, tab_get n _ i hii]
      simp only [implies_true, and_true, true_and, forall_const]
      refine ⟨w64_of (by omega) (by omega), congrArg us (tab_set i _ hii (by simp [hsu i hkk]) fun j _ hj => ?_)⟩
      by_cases h : j < i <;> simp [h] <;> omega
    · cbv
      refine hI (k + 1) (by omega) (by omega) ?_
      cbv
      clear hI hI2
      have : i = n := by simp at h5; omega
      subst this
      simp
      exact ⟨w64_of (by omega) (by omega), congrArg us (tab_congr fun j hj => by simp [hj])⟩
  · cbv
    refine hF ?_
    cbv
    clear hI
    have hml : k = l.length := by simp at h4; omega
    subst hml
    simp [orM]
    rw [List.take_of_length_le (by simp)]

/-! ### And, Less -/
theorem alike2 (n m : Int) (a b : List (BitVec 64)) : Alike [(n, a), (m, b)] ↔ Fits n a ∧ Fits m b ∧ m = n := by
  constructor
  · intro h
    have h0 := h.2 0 (by simp)
    have h1 := h.2 1 (by simp)
    simp at h0 h1
    exact ⟨h0, h1.1, h1.2⟩
  · rintro ⟨h1, h2, rfl⟩
    refine ⟨by simp, fun i hi => ?_⟩
    have : i = 0 ∨ i = 1 := by simp at hi; omega
    rcases this with rfl | rfl
    · simp [h1]
    · simp [h2]
def andM (n : Nat) (a b : List (BitVec 64)) : List (BitVec 64) := tab n fun j => a.getD j 0 &&& b.getD j 0
theorem and_no (n m : Int) (a b : List (BitVec 64)) (h : ¬ (Fits n a ∧ Fits m b ∧ m = n)) : Pure Tryd.prog γ false 29 [encRel n a, encRel m b] (encRel 0 []) := by
  refine Pure.go (ty := ty) ty_eq mo Tryd.func29 rfl Tryd.ntmps29 Tryd.results29 Tryd.call29 (by simp) fun P C CQ D W F E hF => ?_
  cbv
  refine E.c (SCalls.of_le (alike_ok [(n, a), (m, b)] (by simp)) ?_ ?_)
  · cbv
    simp [rls]
  cbv
  refine br_t (by simp [alike2, h]) ?_
  cbv
  refine hF ?_
  cbv
  simp [us]
theorem and_yes (n : Nat) (a b : List (BitVec 64)) (ha : Fits n a) (hb : Fits n b) : Pure Tryd.prog γ false 29 [encRel n a, encRel n b] (encRel n (andM n a b)) := by
  obtain ⟨la, e1, hla, hl64⟩ := fits_len ha
  obtain rfl : n = la := by omega
  obtain ⟨lb, e2, hlb, _⟩ := fits_len hb
  obtain rfl : n = lb := by omega
  refine Pure.go (ty := ty) ty_eq mo Tryd.func29 rfl Tryd.ntmps29 Tryd.results29 Tryd.call29 (by simp) fun P C CQ D W F E hF => ?_
  cbv
  refine E.c (SCalls.of_le (alike_ok [((n : Int), a), ((n : Int), b)] (by simp)) ?_ ?_)
  · cbv
    simp [rls]
  cbv
  refine br_f (by simp [alike2, ha, hb]) ?_
  cbv
  refine E.c (SCalls.of_owns (copied_ok (n : Int) a ha) ?_ ?_)
  · cbv; all_goals simp
  cbv
  simp only [Int.toNat_natCast, nc]
  refine E.loop (ι := Nat) (fun i => i ≤ n) (fun i => n - i) (fun i => [(19, .i fun _ => (i : Int))])
    (fun i => [.box (encRel n a), .box (encRel n b), .box (.agg [.lit 0, .nils]), .any, .any, .any, .run 0 1 fun _ => us (tab n fun j => if j < i then a.getD j 0 &&& b.getD j 0 else a.getD j 0), .box (.agg [.i fun _ => (n : Int), .sl 6 0 1 (fun _ => 0) fun _ => n])])
    0 rfl (fun _ => rfl) (Nat.zero_le _) ?_ fun i hi I hI => ?_
  · cbv
    have := tab_self a
    rw [hla] at this
    simp
    exact congrArg us (by simpa using this.symm)
  cbv
  refine ⟨fun _ h4 => ?_, fun _ h4 => ?_⟩
  · cbv
    have hii : i < n := by simp at h4; omega
    refine ⟨fun _ => by simp; omega, fun _ => by rw [nct, us_get _ i (by omega)]; rfl, fun _ => by simp; omega, fun _ => ⟨rfl, by simp; omega⟩, fun _ => by rw [Nat.zero_add, nct, us_get _ i (by simpa using hii)]; rfl, fun _ => by simp; omega,
      fun _ => ⟨rfl, by simp; omega, by rw [Nat.zero_add, nct, us_get _ i (by simpa using hii)]; rfl⟩, ?_⟩
    refine hI (i + 1) (by omega) (by omega) ?_
    cbv
    clear hI
    simp only [Nat.zero_add, nct, us_get _ i (show i < (tab n _).length by simpa using hii), us_get b i (by omega), at_u, upd_u, us_set, us_of, nc, tab_get n _ i hii]
    simp only [implies_true, and_true, true_and, forall_const]
    refine ⟨w64_of (by omega) (by omega), congrArg us (tab_set i _ hii (by simp) fun j _ hj => ?_)⟩
    by_cases h : j < i <;> simp [h] <;> omega
  · cbv
    refine hF ?_
    cbv
    clear hI
    have hml : i = n := by simp at h4; omega
    subst hml
    simp [andM]
    rw [List.take_of_length_le (by simp)]
    exact congrArg (fun x => (us x).l) (tab_congr fun i hi => by simp [hi])
def lessM (n : Nat) (a b : List (BitVec 64)) : List (BitVec 64) := tab n fun j => a.getD j 0 &&& ~~~ b.getD j 0
theorem less_no (n m : Int) (a b : List (BitVec 64)) (h : ¬ (Fits n a ∧ Fits m b ∧ m = n)) : Pure Tryd.prog γ false 40 [encRel n a, encRel m b] (encRel 0 []) := by
  refine Pure.go (ty := ty) ty_eq mo Tryd.func40 rfl Tryd.ntmps40 Tryd.results40 Tryd.call40 (by simp) fun P C CQ D W F E hF => ?_
  cbv
  refine E.c (SCalls.of_le (alike_ok [(n, a), (m, b)] (by simp)) ?_ ?_)
  · cbv
    simp [rls]
  cbv
  refine br_t (by simp [alike2, h]) ?_
  cbv
  refine hF ?_
  cbv
  simp [us]
theorem less_yes (n : Nat) (a b : List (BitVec 64)) (ha : Fits n a) (hb : Fits n b) : Pure Tryd.prog γ false 40 [encRel n a, encRel n b] (encRel n (lessM n a b)) := by
  obtain ⟨la, e1, hla, hl64⟩ := fits_len ha
  obtain rfl : n = la := by omega
  obtain ⟨lb, e2, hlb, _⟩ := fits_len hb
  obtain rfl : n = lb := by omega
  refine Pure.go (ty := ty) ty_eq mo Tryd.func40 rfl Tryd.ntmps40 Tryd.results40 Tryd.call40 (by simp) fun P C CQ D W F E hF => ?_
  cbv
  refine E.c (SCalls.of_le (alike_ok [((n : Int), a), ((n : Int), b)] (by simp)) ?_ ?_)
  · cbv
    simp [rls]
  cbv
  refine br_f (by simp [alike2, ha, hb]) ?_
  cbv
  refine E.c (SCalls.of_owns (copied_ok (n : Int) a ha) ?_ ?_)
  · cbv; all_goals simp
  cbv
  simp only [Int.toNat_natCast, nc]
  refine E.loop (ι := Nat) (fun i => i ≤ n) (fun i => n - i) (fun i => [(19, .i fun _ => (i : Int))])
    (fun i => [.box (encRel n a), .box (encRel n b), .box (.agg [.lit 0, .nils]), .any, .any, .any, .run 0 1 fun _ => us (tab n fun j => if j < i then a.getD j 0 &&& ~~~ b.getD j 0 else a.getD j 0), .box (.agg [.i fun _ => (n : Int), .sl 6 0 1 (fun _ => 0) fun _ => n])])
    0 rfl (fun _ => rfl) (Nat.zero_le _) ?_ fun i hi I hI => ?_
  · cbv
    have := tab_self a
    rw [hla] at this
    simp
    exact congrArg us (by simpa using this.symm)
  cbv
  refine ⟨fun _ h4 => ?_, fun _ h4 => ?_⟩
  · cbv
    have hii : i < n := by simp at h4; omega
    refine ⟨fun _ => by simp; omega, fun _ => by rw [nct, us_get _ i (by omega)]; rfl, fun _ => by simp; omega, fun _ => ⟨rfl, by simp; omega⟩, fun _ => by rw [Nat.zero_add, nct, us_get _ i (by simpa using hii)]; rfl, fun _ => by simp; omega,
      fun _ => ⟨rfl, by simp; omega, by rw [Nat.zero_add, nct, us_get _ i (by simpa using hii)]; rfl⟩, ?_⟩
    refine hI (i + 1) (by omega) (by omega) ?_
    cbv
    clear hI
    simp only [Nat.zero_add, nct, us_get _ i (show i < (tab n _).length by simpa using hii), us_get b i (by omega), at_u, upd_u, us_set, us_of, nc, tab_get n _ i hii]
    simp only [implies_true, and_true, true_and, forall_const]
    refine ⟨w64_of (by omega) (by omega), congrArg us (tab_set i _ hii (by simp) fun j _ hj => ?_)⟩
    by_cases h : j < i <;> simp [h] <;> omega
  · cbv
    refine hF ?_
    cbv
    clear hI
    have hml : i = n := by simp at h4; omega
    subst hml
    simp [lessM]
    rw [List.take_of_length_le (by simp)]
    exact congrArg (fun x => (us x).l) (tab_congr fun i hi => by simp [hi])
end Go.AL.Rl

namespace Go.AL.Rl
open Go Go.AL Go.Proofs
variable {γ : Nat → Option AV}
set_option maxRecDepth 100000

/-! ### Same -/
theorem same_ok (n m : Int) (a b : List (BitVec 64)) : Pure Tryd.prog γ false 26 [encRel n a, encRel m b] (.b fun _ => decide (Fits n a ∧ n = m ∧ a = b)) := by
  refine Pure.go (ty := ty) ty_eq mo Tryd.func26 rfl Tryd.ntmps26 Tryd.results26 Tryd.call26 (by simp) fun P C CQ D W F E hF => ?_
  cbv
  refine E.c (SCalls.of_le (alike_ok [(n, a), (m, b)] (by simp)) ?_ ?_)
  · cbv
    simp [rls]
  cbv
  by_cases h : Fits n a ∧ Fits m b ∧ m = n
  case neg =>
    refine br_t (by simp [alike2, h]) ?_
    cbv
    refine hF ?_
    cbv
    intro _
    simp
    rintro h1 rfl rfl
    exact h ⟨h1, h1, rfl⟩
  refine br_f (by simpa [alike2] using h) ?_
  cbv
  obtain ⟨ha, hb, rfl⟩ := h
  obtain ⟨la, rfl, hla, hl64⟩ := fits_len ha
  obtain ⟨lb, e2, hlb, _⟩ := fits_len hb
  obtain rfl : la = lb := by omega
  refine E.loop (ι := Nat) (fun i => i ≤ la ∧ ∀ k < i, a.getD k 0 = b.getD k 0) (fun i => la - i) (fun i => [(15, .i fun _ => (i : Int))]) (fun _ => [.box (encRel la a), .box (encRel la b)]) 0 rfl (fun _ => rfl) ⟨Nat.zero_le _, by simp⟩ ?_ fun i hi I hI => ?_
  · cbv
    simp
  cbv
  refine ⟨fun _ h4 => ?_, fun _ h4 => ?_⟩
  · cbv
    have hii : i < la := by simp at h4; omega
    refine ⟨fun _ => by simp; omega, fun _ => by rw [nct, us_get _ i (by omega)]; rfl, fun _ => by simp; omega, fun _ => by rw [nct, us_get _ i (by omega)]; rfl, ?_⟩
    simp only [nct, us_get a i (by omega), us_get b i (by omega), at_u]
    refine ⟨fun _ h5 => ?_, fun _ h5 => ?_⟩
    · cbv
      refine hF ?_
      cbv
      clear hI
      intro _
      simp at h5 ⊢
      rintro - rfl
      simp at h5
    · cbv
      refine hI (i + 1) ⟨by omega, fun k hk => ?_⟩ (by omega) ?_
      · rcases Nat.lt_or_ge k i with h | h
        · exact hi.2 k h
        · obtain rfl : k = i := by omega
          simpa using (show b.getD k 0 = a.getD k 0 by simpa using h5).symm
      · cbv
        clear hI
        simp
        exact w64_of (by omega) (by omega)
  · cbv
    refine hF ?_
    cbv
    clear hI
    intro _
    have : i = la := by simp at h4; omega
    simp
    refine ⟨ha, List.ext_getElem (by omega) fun k h1 h2 => ?_⟩
    have := hi.2 k (by omega)
    simpa [h1, h2] using this

/-! ### Then -/
def thenV (l : List RelV) (k : Nat) : Nat → BitVec 64 := ((l.drop 1).take k).foldl (fun f r j => reachM r.2 (f j)) fun j => (l.getD 0 (0, [])).2.getD j 0
theorem thenV_succ (l : List RelV) (k : Nat) (h : k + 1 < l.length) (j : Nat) : thenV l (k + 1) j = reachM (l.getD (k + 1) (0, [])).2 (thenV l k j) := by
  have h' : k < (l.drop 1).length := by simp; omega
  rw [thenV, List.take_succ_eq_append_getElem h', List.foldl_append]
  simp only [List.foldl_cons, List.foldl_nil, List.getElem_drop, List.getD_eq_getElem?_getD, List.getElem?_eq_getElem h, Option.getD_some, Nat.add_comm 1 k]
  rfl
def thenM (n : Nat) (l : List RelV) : List (BitVec 64) := tab n (thenV l (l.length - 1))
theorem reach_lt {n : Int} {rows : List (BitVec 64)} (hf : Fits n rows) (f : BitVec 64) {p : Nat} (h : (reachM rows f).getLsbD p = true) : p < rows.length := by
  obtain ⟨q, _, h2⟩ := (bit_reach rows f p).1 h
  exact (fits_bits hf h2).2
theorem thenV_lt {l : List RelV} (h : Alike l) {n : Nat} (hall : ∀ k < l.length, (l.getD k (0, [])).2.length = n) : ∀ k, k < l.length → ∀ j p, (thenV l k j).getLsbD p = true → p < n
  | 0, hk, j, p, hp => by
    have h0 := (h.2 0 h.1).1
    have := (fits_bits h0 (i := j) (j := p) hp).2
    rw [hall 0 h.1] at this; exact this
  | k + 1, hk, j, p, hp => by
    rw [thenV_succ l k hk] at hp
    have := reach_lt (h.2 (k + 1) hk).1 _ hp
    rw [hall (k + 1) hk] at this; exact this
theorem rls_drop (l : List RelV) (a b : Nat) : LV.of (((rls l).l.drop a).take b) = rls ((l.drop a).take b) := by simp [rls, List.map_take, List.map_drop]
theorem then_no (l : List RelV) (hl : l.length < 4611686018427387904) (h : ¬ Alike l) : Pure Tryd.prog γ false 24 [.vs 2 fun _ => rls l] (encRel 0 []) := by
  refine Pure.go (ty := ty) ty_eq mo Tryd.func24 rfl Tryd.ntmps24 Tryd.results24 Tryd.call24 (by simp) fun P C CQ D W F E hF => ?_
  cbv
  refine E.c (SCalls.of_le (alike_ok l hl) ?_ ?_)
  · cbv; all_goals simp
  cbv
  refine br_t (by simp [h]) ?_
  cbv
  refine hF ?_
  cbv
  simp [us]
theorem then_yes (hγ : γ 0 = some tabAV) (l : List RelV) (hl : l.length < 4611686018427387904) (h : Alike l) (n : Nat) (hn : (l.getD 0 (0, [])).1 = n) : Pure Tryd.prog γ false 24 [.vs 2 fun _ => rls l] (encRel n (thenM n l)) := by
  have h0 := (h.2 0 h.1).1
  have hl0 := h.1
  obtain ⟨k0, hk1, hk2, hk3⟩ := fits_len h0
  rw [hn] at hk1
  obtain rfl : n = k0 := by omega
  have hall : ∀ k < l.length, (l.getD k (0, [])).2.length = n := fun k hk => by
    have := h.2 k hk
    obtain ⟨j, e1, e2, _⟩ := fits_len this.1
    have e3 := this.2
    rw [hn, e1] at e3
    omega
  refine Pure.go (ty := ty) ty_eq mo Tryd.func24 rfl Tryd.ntmps24 Tryd.results24 Tryd.call24 (by simp) fun P C CQ D W F E hF => ?_
  cbv
  refine E.c (SCalls.of_le (alike_ok l hl) ?_ ?_)
  · cbv; all_goals simp
  cbv
  refine br_f (by simp [h]) ?_
  cbv
  refine ⟨fun _ => by simp; omega, fun _ => by rw [show (0 : Int).toNat = 0 from rfl, rls_get _ 0 hl0]; rfl, ?_⟩
  cbv
  simp only [show (0 : Int).toNat = 0 from rfl, rls_get _ 0 hl0, at_r0, at_r1, hn]
  rw [hn] at h0
  refine E.c (SCalls.of_owns (copied_ok (n : Int) _ h0) ?_ ?_)
  · cbv; all_goals simp
  cbv
  simp only [Int.toNat_natCast, nc]
  refine ⟨fun _ => by simp; omega, ?_⟩
  cbv
  simp only [show (1 : Int).toNat = 1 from rfl, rls_drop]
  generalize hq : (l.drop 1).take _ = q
  have hq' : q = l.drop 1 := by rw [← hq]; apply List.take_of_length_le; simp
  clear hq
  subst hq'
  have hdl : (l.drop 1).length = l.length - 1 := by simp
  refine E.loop (ι := Nat) (fun k => k + 1 ≤ l.length) (fun k => l.length - k) (fun k => [(19, .i fun _ => (k : Int))])
    (fun k => [.box (.agg [.lit 0, .nils]), .any, .any, .any, .run 0 1 fun _ => us (tab n (thenV l k)), .box (.agg [.i fun _ => (n : Int), .sl 4 0 1 (fun _ => 0) fun _ => n])])
    0 rfl (fun _ => rfl) hl0 ?_ fun k hk I hI => ?_
  · cbv
    have := tab_self (l.getD 0 (0, [])).2
    rw [hall 0 hl0] at this
    simp
    exact congrArg us (by rw [show tab n (thenV l 0) = _ from this]; simp)
  cbv
  refine ⟨fun _ h4 => ?_, fun _ h4 => ?_⟩
  · cbv
    have hkk : k + 1 < l.length := by simp at h4; omega
    have hkd : k < (l.drop 1).length := by omega
    refine ⟨fun _ => by simp; omega, fun _ => by rw [nct, rls_get _ k hkd]; rfl, ?_⟩
    cbv
    have hsu := thenV_succ l k hkk
    have hrl := hall (k + 1) hkk
    have hfr := (h.2 (k + 1) hkk).1
    have hlt := thenV_lt h hall k (by omega)
    simp only [nct, rls_get _ k hkd, at_r0, at_r1]
    rw [show (l.drop 1).getD k (0, []) = l.getD (k + 1) (0, []) from by simp [Nat.add_comm]]
    generalize l.getD (k + 1) (0, []) = r at hsu hrl hfr
    obtain ⟨rn, rr⟩ := r
    simp only at hsu hrl hfr ⊢
    refine E.loop (ι := Nat) (fun i => i ≤ n) (fun i => n - i) (fun i => [(26, .i fun _ => (i : Int))])
      (fun i => [.box (.agg [.lit 0, .nils]), .any, .any, .any, .run 0 1 fun _ => us (tab n fun j => if j < i then thenV l (k + 1) j else thenV l k j), .box (.agg [.i fun _ => (n : Int), .sl 4 0 1 (fun _ => 0) fun _ => n]), .box (encRel rn rr)])
      0 rfl (fun _ => rfl) (Nat.zero_le _) ?_ fun i hi I2 hI2 => ?_
    · cbv
      simp
    cbv
    refine ⟨fun _ h5 => ?_, fun _ h5 => ?_⟩
    · cbv
      have hii : i < n := by simp at h5; omega
      refine ⟨fun _ => by simp; omega, fun _ => ⟨rfl, by simp; omega⟩, fun _ => by rw [Nat.zero_add, nct, us_get _ i (by simpa using hii)]; rfl, ?_⟩
      simp only [Nat.zero_add, nct, us_get _ i (show i < (tab n _).length by simpa using hii), at_u, tab_get n _ i hii, Nat.lt_irrefl, if_false]
      refine E.d 7 (by kernel_rfl) ?_
      cbv
      refine E.q (QCalls.of_le (reach_ok hγ rn rr (thenV l k i) fun p _ hp => by rw [hrl]; exact hlt i p hp) ?_ ?_)
      · cbv; all_goals simp
      cbv
      refine ⟨fun _ => by simp; omega, fun _ => ⟨rfl, by simp; omega, by rw [Nat.zero_add, nct, us_get _ i (by simpa using hii)]; rfl⟩, ?_⟩
      refine hI2 (i + 1) (by omega) (by omega) ?_
      cbv
      clear hI hI2
      simp only [Nat.zero_add, nct, us_get _ i (show i < (tab n _).length by simpa using hii), at_u, upd_u, us_set, us_of, nc, tab_get n _ i hii]
      simp only [implies_true, and_true, true_and, forall_const]
      refine ⟨w64_of (by omega) (by omega), congrArg us (tab_set i _ hii (by simp [hsu i]) fun j _ hj => ?_)⟩
      by_cases h : j < i <;> simp [h] <;> omega
    · cbv
      refine hI (k + 1) (by omega) (by omega) ?_
      cbv
      clear hI hI2
      have : i = n := by simp at h5; omega
      subst this
      simp
      exact ⟨w64_of (by omega) (by omega), congrArg us (tab_congr fun j hj => by simp [hj])⟩
  · cbv
    refine hF ?_
    cbv
    clear hI
    have hml : k = l.length - 1 := by simp at h4; omega
    subst hml
    simp [thenM]
    rw [List.take_of_length_le (by simp)]
end Go.AL.Rl

namespace Go.AL.Rl
open Go Go.AL Go.Proofs
variable {γ : Nat → Option AV}
set_option maxRecDepth 100000

theorem each3_ok (hγ : γ 0 = some tabAV) (mask : BitVec 64) (fn : Nat) (a b c : Nat) (H : Nat → List Blk) {Q : AV → List Blk → Prop} (n : Nat) (hlen : ∀ p, (H p).length = n) (ha : a < n) (hb : b < n) (hc : c < n)
    (step : ∀ p, p < 64 → mask.getLsbD p = true → SCalls Tryd.prog γ fn [.i (fun _ => (p : Int)), .ptr a 0, .ptr b 0, .ptr c 0] (H p) fun _ h => leH n (H (p + 1)) h)
    (skip : ∀ p, p < 64 → mask.getLsbD p = false → H (p + 1) = H p) (h0 : leH n (H 0) (H 0)) (hQ : Q (.tup []) (H 64)) : SCalls Tryd.prog γ 51 [.u fun _ => mask, .fn fn [] [.ptr a 0, .ptr b 0, .ptr c 0]] (H 0) Q := by
  refine SCalls.go (ty := ty) ty_eq mo Tryd.func51 rfl Tryd.ntmps51 Tryd.results51 Tryd.call51 (by simp) fun P C CQ D W F E hF => ?_
  have skips : ∀ d p, p + d ≤ 64 → (∀ j < d, mask.getLsbD (p + j) = false) → H (p + d) = H p := by
    intro d
    induction d with
    | zero => intro p _ _; rfl
    | succ d ih =>
      intro p h1 h2
      rw [← Nat.add_assoc, skip (p + d) (by omega) (h2 d (by omega)), ih p (by omega) fun j hj => h2 j (by omega)]
  generalize hH0 : H 0 = H0
  cbv
  subst hH0
  refine E.loopH (ι := Nat) n (fun p => p ≤ 64) (fun p => 64 - p) (fun p => [(0, .u fun _ => mask >>> p), (4, .i fun _ => (p : Int))]) H 0 (hlen 0) hlen (Nat.zero_le _) ?_ h0 fun p hp I hI => ?_
  · cbv
    simp; omega
  generalize hHp : H p = Hp
  cbv
  refine ⟨fun _ h1 => ?_, fun _ h1 => ?_⟩
  · cbv
    refine E.c (SCalls.of_le (tz_ok hγ (mask >>> p)) ?_ ?_)
    · cbv; simp
    cbv
    have hm0 : mask >>> p ≠ 0#64 := by simpa using h1
    obtain ⟨c1, c2, c3⟩ := ctz_at _ hm0
    generalize Lib.ctz 64 (mask >>> p).toNat = t at c1 c2 c3 ⊢
    have hpt : p + t < 64 := by
      rcases Nat.lt_or_ge (p + t) 64 with h | h
      · exact h
      · rw [BitVec.getLsbD_ushiftRight, BitVec.getLsbD_of_ge _ _ (by omega)] at c2; cases c2
    rw [BitVec.getLsbD_ushiftRight] at c2
    have e1 : w64 ((NatCast.natCast p : Int) + (NatCast.natCast t : Int)) = ((p + t : Nat) : Int) := by
      simp only [nc]; rw [w64_of (by omega) (by omega)]; omega
    simp only [e1]
    have hst := step (p + t) hpt c2
    rw [skips t p (by omega) (fun j hj => by have := c3 j hj; rwa [BitVec.getLsbD_ushiftRight] at this), hHp] at hst
    refine E.c (hst.mono fun v h hle => ?_)
    cbv
    refine hI (p + t + 1) (by omega) (by omega) rfl ?_ hle
    cbv
    clear hI
    refine ⟨fun _ => ?_, ⟨⟨ha, hb, hc, trivial⟩, trivial⟩, ⟨fun _ => ?_, trivial⟩, trivial⟩
    · rw [show (BitVec.ofInt 64 (NatCast.natCast t)).toNat = t from by simp; omega, show (BitVec.ofInt 64 1).toNat = 1 from rfl, ← BitVec.shiftRight_add, ← BitVec.shiftRight_add]
      congr 1 <;> omega
    · simp only [nc]; rw [w64_of (by omega) (by omega)]; omega
  · cbv
    refine hF ?_
    clear hI
    have hz : mask >>> p = 0#64 := by simpa using h1
    have := skips (64 - p) p (by omega) fun j hj => by
      have := congrArg (fun x : BitVec 64 => x.getLsbD j) hz
      simpa [BitVec.getLsbD_ushiftRight] using this
    rw [show p + (64 - p) = 64 by omega, hHp] at this
    show Q (.tup []) Hp
    rw [← this]
    exact hQ

/-! ### Only -/
def onlyM (n : Nat) (rows : List (BitVec 64)) (f t : BitVec 64) : List (BitVec 64) := tab n fun j => if f.getLsbD j then rows.getD j 0 &&& t else 0#64
theorem only_no (n : Int) (rows : List (BitVec 64)) (f t : BitVec 64) (h : ¬ Fits n rows) : Pure Tryd.prog γ false 45 [encRel n rows, .u fun _ => f, .u fun _ => t] (encRel 0 []) := by
  refine Pure.go (ty := ty) ty_eq mo Tryd.func45 rfl Tryd.ntmps45 Tryd.results45 Tryd.call45 (by simp) fun P C CQ D W F E hF => ?_
  cbv
  refine E.c (SCalls.of_le (check_ok n rows) ?_ ?_)
  · cbv; all_goals simp
  cbv
  refine br_t (by simp [checkM, h]) ?_
  cbv
  refine hF ?_
  cbv
  simp [us]
theorem only1_ok (n : Nat) (rows acc acc' : List (BitVec 64)) (t : BitVec 64) (p : Nat) (hp : p < n) (hr : rows.length = n) (ha : acc.length = n) (hacc : acc' = acc.set p (rows.getD p 0 &&& t)) :
    SCalls Tryd.prog γ 55 [.i (fun _ => (p : Int)), .ptr 0 0, .ptr 1 0, .ptr 5 0] [.box (encRel n rows), .box (.u fun _ => t), .box (.agg [.lit 0, .nils]), .any, .run 0 1 fun _ => us acc, .box (.agg [.i fun _ => (n : Int), .sl 4 0 1 (fun _ => 0) fun _ => n])]
      fun _ h => leH 6 [.box (encRel n rows), .box (.u fun _ => t), .box (.agg [.lit 0, .nils]), .any, .run 0 1 fun _ => us acc', .box (.agg [.i fun _ => (n : Int), .sl 4 0 1 (fun _ => 0) fun _ => n])] h := by
  refine SCalls.go (ty := ty) ty_eq mo Tryd.func55 rfl Tryd.ntmps55 Tryd.results55 Tryd.call55 (by simp) fun P C CQ D W F E hF => ?_
  cbv
  refine E.d 10 (by kernel_rfl) ?_
  cbv
  refine ⟨fun _ => by simp; omega, fun _ => by rw [nct, us_get _ p (by omega)]; rfl, fun _ => by simp; omega, fun _ => ⟨rfl, by simp; omega, by rw [Nat.zero_add, nct, us_get _ p (by omega)]; rfl⟩, ?_⟩
  cbv
  refine hF ?_
  cbv
  simp only [Nat.zero_add, nct, us_get _ p (show p < rows.length by omega), us_get _ p (show p < acc.length by omega), at_u, upd_u, us_set, us_of, nc]
  simp [hacc]
theorem only_yes (hγ : γ 0 = some tabAV) (n : Nat) (rows : List (BitVec 64)) (f t : BitVec 64) (hf : Fits n rows) : Pure Tryd.prog γ false 45 [encRel n rows, .u fun _ => f, .u fun _ => t] (encRel n (onlyM n rows f t)) := by
  obtain ⟨la, e1, hla, hl64⟩ := fits_len hf
  obtain rfl : n = la := by omega
  refine Pure.go (ty := ty) ty_eq mo Tryd.func45 rfl Tryd.ntmps45 Tryd.results45 Tryd.call45 (by simp) fun P C CQ D W F E hF => ?_
  cbv
  refine E.c (SCalls.of_le (check_ok n rows) ?_ ?_)
  · cbv; all_goals simp
  cbv
  refine br_f (by simp [checkM, hf]) ?_
  cbv
  refine E.c (SCalls.of_owns (none_in (n : Int) (by omega) (by omega)) ?_ ?_)
  · cbv; all_goals simp
  cbv
  simp only [Int.toNat_natCast, nc]
  refine E.c (SCalls.of_le (full_ok n) ?_ ?_)
  · cbv; all_goals simp
  cbv
  have hmask : ∀ p < 64, (f &&& fullM n).getLsbD p = (f.getLsbD p && decide (p < n)) := fun p hp => by rw [BitVec.getLsbD_and, fullM_bit n hl64 p hp]
  have h00 : us (List.replicate n 0#64) = us (tab n fun j => if j < 0 ∧ f.getLsbD j = true then rows.getD j 0 &&& t else 0#64) := by rw [← tab_zero]; simp
  simp only [nc]
  rw [h00]
  refine E.c (each3_ok hγ (f &&& fullM n) 55 0 1 5 (fun p => [.box (encRel n rows), .box (.u fun _ => t), .box (.agg [.lit 0, .nils]), .any, .run 0 1 fun _ => us (tab n fun j => if j < p ∧ f.getLsbD j = true then rows.getD j 0 &&& t else 0#64), .box (.agg [.i fun _ => (n : Int), .sl 4 0 1 (fun _ => 0) fun _ => n])]) 6 (fun _ => rfl) (by omega) (by omega) (by omega) (fun p h1 h2 => ?_) (fun p h1 h2 => ?_) ?_ ?_)
  · rw [hmask p h1, Bool.and_eq_true, decide_eq_true_eq] at h2
    refine only1_ok n rows _ _ t p h2.2 hla (by simp) ?_
    refine (tab_set p _ h2.2 (by simp [h2.1]) fun j _ hj => ?_).symm
    by_cases h : j < p
    · simp [h, show j < p + 1 by omega]
    · rw [if_neg (fun e => h (by omega)), if_neg (fun e => h e.1)]
  · rw [hmask p h1] at h2
    have : (tab n fun j => if j < p + 1 ∧ f.getLsbD j = true then rows.getD j 0 &&& t else 0#64) = tab n fun j => if j < p ∧ f.getLsbD j = true then rows.getD j 0 &&& t else 0#64 := tab_congr fun j hj => by
      by_cases hjp : j = p
      · subst hjp
        simp [hj] at h2
        simp [h2]
      · by_cases h : j < p
        · simp [h, show j < p + 1 by omega]
        · rw [if_neg (fun e => h (by omega)), if_neg (fun e => h e.1)]
    simp only [this]
  · cbv; simp
  cbv
  refine hF ?_
  cbv
  simp [onlyM]
  rw [List.take_of_length_le (by simp)]
  exact congrArg (fun x => (us x).l) (tab_congr fun i hi => by simp [show i < 64 by omega])

/-! ### Pairs -/
@[simp] theorem ps_nil : ps [] = .nil := rfl
theorem ps_app (a b : List (Int × Int)) : (ps a).l ++ (ps b).l = (ps (a ++ b)).l := by simp [ps]
theorem ps_of (a : List (Int × Int)) : LV.of (ps a).l = ps a := by simp [ps]
/-- the pairs of a row, up to 'q' -/
def prow (i : Nat) (row : BitVec 64) (q : Nat) : List (Int × Int) := ((List.range q).filter fun j => row.getLsbD j).map fun (j : Nat) => ((i : Int), (j : Int))
theorem prow_succ (i : Nat) (row : BitVec 64) (q : Nat) : prow i row (q + 1) = if row.getLsbD q then prow i row q ++ [((i : Int), (q : Int))] else prow i row q := by
  simp only [prow, List.range_succ, List.filter_append, List.map_append]
  cases h : row.getLsbD q <;> simp [List.filter_cons, h]
def prows (rows : List (BitVec 64)) (m : Nat) : List (Int × Int) := (List.range m).flatMap fun i => prow i (rows.getD i 0) 64
theorem prows_succ (rows : List (BitVec 64)) (m : Nat) : prows rows (m + 1) = prows rows m ++ prow m (rows.getD m 0) 64 := by simp [prows, List.range_succ, List.flatMap_append]
theorem prow_len (i : Nat) (row : BitVec 64) (q : Nat) : (prow i row q).length ≤ q := by
  have := List.length_filter_le (fun j => row.getLsbD j) (List.range q)
  simpa [prow] using this
theorem prows_len (rows : List (BitVec 64)) : ∀ m, (prows rows m).length ≤ 64 * m
  | 0 => by simp [prows]
  | m + 1 => by
    rw [prows_succ, List.length_append]
    have := prows_len rows m; have := prow_len m (rows.getD m 0) 64
    omega
def pairsM (rows : List (BitVec 64)) : List (Int × Int) := prows rows rows.length
theorem pairs_no (n : Int) (rows : List (BitVec 64)) (h : ¬ Fits n rows) : Pure Tryd.prog γ false 30 [encRel n rows] (.vs 2 fun _ => ps []) := by
  refine Pure.go (ty := ty) ty_eq mo Tryd.func30 rfl Tryd.ntmps30 Tryd.results30 Tryd.call30 (by simp) fun P C CQ D W F E hF => ?_
  cbv
  refine E.c (SCalls.of_le (check_ok n rows) ?_ ?_)
  · cbv; all_goals simp
  cbv
  refine br_t (by simp [checkM, h]) ?_
  cbv
  refine hF ?_
  cbv
  simp [LV.l]
theorem pairs1_ok (n : Nat) (rows : List (BitVec 64)) (acc : List (Int × Int)) (g i p : Nat) (hl : acc.length ≤ 10000) :
    SCalls Tryd.prog γ 53 [.i (fun _ => (p : Int)), .ptr 1 0, .ptr 3 0] [.box (encRel n rows), .box (.sl 2 g 2 (fun _ => 0) fun _ => acc.length), .run g 2 fun _ => ps acc, .box (.i fun _ => (i : Int))]
      fun _ h => leH 4 [.box (encRel n rows), .box (.sl 2 (g + 1) 2 (fun _ => 0) fun _ => (acc ++ [((i : Int), (p : Int))]).length), .run (g + 1) 2 fun _ => ps (acc ++ [((i : Int), (p : Int))]), .box (.i fun _ => (i : Int))] h := by
  refine SCalls.go (ty := ty) ty_eq mo Tryd.func53 rfl Tryd.ntmps53 Tryd.results53 Tryd.call53 (by simp) fun P C CQ D W F E hF => ?_
  cbv
  refine ⟨fun _ => ⟨rfl, rfl, by simp, by simp; omega, by simp; omega, by simp [AV.flat, AV.cells, AV.one]⟩, ?_⟩
  cbv
  refine hF ?_
  cbv
  simp [ps]
theorem pairs_yes (hγ : γ 0 = some tabAV) (n : Nat) (rows : List (BitVec 64)) (hf : Fits n rows) : Pure Tryd.prog γ false 30 [encRel n rows] (.vs 2 fun _ => ps (pairsM rows)) := by
  obtain ⟨la, e1, hla, hl64⟩ := fits_len hf
  obtain rfl : n = la := by omega
  refine Pure.go (ty := ty) ty_eq mo Tryd.func30 rfl Tryd.ntmps30 Tryd.results30 Tryd.call30 (by simp) fun P C CQ D W F E hF => ?_
  cbv
  refine E.c (SCalls.of_le (check_ok n rows) ?_ ?_)
  · cbv; all_goals simp
  cbv
  refine br_f (by simp [checkM, hf]) ?_
  cbv
  refine E.w (AWP.ghostBox 1 2 rfl (E.loopA (ι := Nat × Nat) (fun m => m.1 ≤ n) (fun m => n - m.1) (fun m => [(12, .i fun _ => (m.1 : Int))])
    (fun m => [.box (encRel n rows), .box (.sl 2 m.2 2 (fun _ => 0) fun _ => (prows rows m.1).length), .run m.2 2 fun _ => ps (prows rows m.1)])
    (0, 0) rfl (fun _ => rfl) (Nat.zero_le _) ?_ fun m hm I hI => ?_))
  · cbv
    simp [prows]
  obtain ⟨m, g⟩ := m
  simp only at hm
  cbv
  refine ⟨fun _ h4 => ?_, fun _ h4 => ?_⟩
  · cbv
    have hmm : m < n := by simp at h4; omega
    refine ⟨fun _ => by simp; omega, fun _ => by rw [nct, us_get _ m (by omega)]; rfl, ?_⟩
    cbv
    simp only [nct, us_get _ m (show m < rows.length by omega), at_u]
    have hps := prows_succ rows m
    have hpl := prows_len rows m
    have hap : prows rows m = prows rows m ++ prow m (rows.getD m 0) 0 := by simp [prow]
    rw [hap]
    obtain ⟨gn, hg0, hgs⟩ : ∃ gn : Nat → Nat, gn 0 = g ∧ ∀ p, gn (p + 1) = if (rows.getD m 0).getLsbD p then gn p + 1 else gn p :=
      ⟨fun p => g + (prow m (rows.getD m 0) p).length, by simp [prow], fun p => by simp only [prow_succ]; split <;> simp [Nat.add_assoc]⟩
    rw [← hg0]
    refine E.c (each2_ok hγ (rows.getD m 0) 53 1 3 (fun p => [.box (encRel n rows), .box (.sl 2 (gn p) 2 (fun _ => 0) fun _ => (prows rows m ++ prow m (rows.getD m 0) p).length), .run (gn p) 2 fun _ => ps (prows rows m ++ prow m (rows.getD m 0) p), .box (.i fun _ => (m : Int))]) 4 (fun _ => rfl) (by omega) (by omega) (fun p h1 h2 => ?_) (fun p h1 h2 => ?_) ?_ ?_)
    · rw [hgs, if_pos h2, prow_succ, if_pos h2, ← List.append_assoc]
      have := prow_len m (rows.getD m 0) p
      exact pairs1_ok n rows (prows rows m ++ prow m (rows.getD m 0) p) (gn p) m p (by rw [List.length_append]; omega)
    · rw [hgs, prow_succ, h2]; rfl
    · cbv; simp
    generalize gn 64 = g'
    cbv
    rw [← hps]
    refine hI (m + 1, g') (by omega) (by simp; omega) ?_
    cbv
    clear hI
    simp
    exact w64_of (by omega) (by omega)
  · cbv
    refine hF ?_
    cbv
    clear hI
    have hml : m = n := by simp at h4; omega
    subst hml
    simp [pairsM, hla]
    rw [List.take_of_length_le (by simp)]
end Go.AL.Rl

namespace Go.AL.Rl
/-! ### Plain: bits of what is made -/
theorem bit_tab (n : Nat) (f : Nat → BitVec 64) (i j : Nat) : bit (tab n f) i j = (decide (i < n) && (f i).getLsbD j) := by
  unfold bit
  by_cases h : i < n
  · rw [tab_get n f i h]; simp [h]
  · rw [List.getD_eq_getElem?_getD, List.getElem?_eq_none (by simp; omega)]; simp [h]
theorem fits_tab {n : Nat} (hn : n ≤ 64) {f : Nat → BitVec 64} (h : ∀ i < n, ∀ j, (f i).getLsbD j = true → j < n) : Fits n (tab n f) := by
  refine fits_mk hn (by simp) fun i j hb => ?_
  rw [bit_tab] at hb
  simp only [Bool.and_eq_true, decide_eq_true_eq] at hb
  exact h i hb.1 j hb.2
theorem rows_ext {a b : List (BitVec 64)} (hl : a.length = b.length) (h : ∀ i j, i < a.length → (bit a i j = true ↔ bit b i j = true)) : a = b := by
  apply List.ext_getElem hl
  intro i h1 h2
  apply BitVec.eq_of_getLsbD_eq
  intro j hj
  have := h i j h1
  unfold bit at this
  simp only [List.getD_eq_getElem?_getD, List.getElem?_eq_getElem h1, List.getElem?_eq_getElem h2, Option.getD_some] at this
  rw [Bool.eq_iff_iff]; exact this
theorem fits_ext {n : Int} {a b : List (BitVec 64)} (ha : Fits n a) (hb : Fits n b) (h : ∀ i j, bit a i j = true ↔ bit b i j = true) : a = b := by
  obtain ⟨x, e1, e2, _⟩ := fits_len ha
  obtain ⟨y, e3, e4, _⟩ := fits_len hb
  exact rows_ext (by omega) fun i j _ => h i j
theorem one_shl_bit (i j : Nat) (hj : j < 64) : (1#64 <<< i).getLsbD j = decide (i = j) := by
  rw [BitVec.getLsbD_shiftLeft]
  by_cases h1 : j < i
  · simp [h1]; omega
  · by_cases h2 : j = i
    · subst h2; simp [hj]
    · have : ¬ j - i = 0 := by omega
      simp [h1, hj, BitVec.getLsbD_one, this]; omega
theorem bit_lt {rows : List (BitVec 64)} {i j : Nat} (h : bit rows i j = true) : j < 64 := by
  rcases Nat.lt_or_ge j 64 with h' | h'
  · exact h'
  · unfold bit at h; rw [BitVec.getLsbD_of_ge _ _ h'] at h; cases h

/-! ### Self -/
theorem bit_self {n : Nat} (hn : n ≤ 64) (i j : Nat) : bit (selfM n) i j = true ↔ i = j ∧ i < n := by
  unfold selfM
  rw [bit_tab]
  simp only [Bool.and_eq_true, decide_eq_true_eq]
  constructor
  · rintro ⟨h1, h2⟩
    have hj : j < 64 := by
      rcases Nat.lt_or_ge j 64 with h' | h'
      · exact h'
      · rw [BitVec.getLsbD_of_ge _ _ h'] at h2; cases h2
    rw [one_shl_bit i j hj] at h2
    exact ⟨by simpa using h2, h1⟩
  · rintro ⟨rfl, h⟩
    exact ⟨h, by rw [one_shl_bit i i (by omega)]; simp⟩
theorem fits_self {n : Nat} (hn : n ≤ 64) : Fits n (selfM n) := by
  refine fits_mk hn (by simp [selfM]) fun i j h => ?_
  rw [bit_self hn] at h
  omega

/-! ### Or -/
theorem or_bit (l : List RelV) (i j : Nat) : (orV l i).getLsbD j = true ↔ ∃ r ∈ l, bit r.2 i j = true := by
  have key : ∀ (l : List RelV) (a : BitVec 64), (l.foldl (fun a r => a ||| r.2.getD i 0) a).getLsbD j = true ↔ a.getLsbD j = true ∨ ∃ r ∈ l, bit r.2 i j = true := by
    intro l
    induction l with
    | nil => simp
    | cons r l ih =>
      intro a
      rw [List.foldl_cons, ih, BitVec.getLsbD_or, Bool.or_eq_true]
      simp only [List.mem_cons, exists_eq_or_imp]
      unfold bit
      rw [or_assoc]
  unfold orV
  rw [key]
  simp
theorem bit_or {n : Nat} {l : List RelV} (i j : Nat) : bit (orM n l) i j = true ↔ i < n ∧ ∃ r ∈ l, bit r.2 i j = true := by
  unfold orM
  rw [bit_tab, Bool.and_eq_true, or_bit]
  simp
theorem fits_or {n : Nat} (hn : n ≤ 64) {l : List RelV} (h : ∀ r ∈ l, Fits n r.2) : Fits n (orM n l) := by
  refine fits_mk hn (by simp [orM]) fun i j hb => ?_
  obtain ⟨_, r, hr, h2⟩ := (bit_or i j).1 hb
  have h3 := (fits_bits (h r hr) h2).2
  obtain ⟨k, e1, e2, _⟩ := fits_len (h r hr)
  omega
theorem bit_or2 {n : Nat} {a b : List (BitVec 64)} (ha : Fits n a) (hb : Fits n b) (i j : Nat) : bit (orM n [((n : Int), a), ((n : Int), b)]) i j = true ↔ bit a i j = true ∨ bit b i j = true := by
  rw [bit_or]
  simp only [List.mem_cons, List.not_mem_nil, or_false, exists_eq_or_imp, exists_eq_left]
  constructor
  · rintro ⟨_, h⟩; exact h
  · intro h
    refine ⟨?_, h⟩
    obtain ⟨k, e1, e2, _⟩ := fits_len ha
    obtain ⟨k', e1', e2', _⟩ := fits_len hb
    rcases h with h | h
    · have := (fits_bits ha h).1; omega
    · have := (fits_bits hb h).1; omega

/-! ### And, Less -/
theorem bit_and {n : Nat} {a b : List (BitVec 64)} (ha : Fits n a) (i j : Nat) : bit (andM n a b) i j = true ↔ bit a i j = true ∧ bit b i j = true := by
  unfold andM
  rw [bit_tab, BitVec.getLsbD_and]
  simp only [Bool.and_eq_true, decide_eq_true_eq]
  constructor
  · rintro ⟨_, h⟩; exact h
  · intro h
    obtain ⟨k, e1, e2, _⟩ := fits_len ha
    have := (fits_bits ha h.1).1
    exact ⟨by omega, h⟩
theorem fits_and {n : Nat} {a b : List (BitVec 64)} (ha : Fits n a) : Fits n (andM n a b) := by
  obtain ⟨k, e1, e2, hk⟩ := fits_len ha
  refine fits_mk (by omega) (by simp [andM]) fun i j hb => ?_
  have := (fits_bits ha ((bit_and ha i j).1 hb).1).2
  omega
theorem bit_less {n : Nat} {a b : List (BitVec 64)} (ha : Fits n a) (i j : Nat) : bit (lessM n a b) i j = true ↔ bit a i j = true ∧ bit b i j = false := by
  unfold lessM
  rw [bit_tab, BitVec.getLsbD_and, BitVec.getLsbD_not]
  simp only [Bool.and_eq_true, decide_eq_true_eq, Bool.not_eq_true']
  constructor
  · rintro ⟨_, h, _, h'⟩; exact ⟨h, h'⟩
  · intro h
    obtain ⟨k, e1, e2, _⟩ := fits_len ha
    have := (fits_bits ha h.1).1
    exact ⟨by omega, h.1, bit_lt h.1, h.2⟩
theorem fits_less {n : Nat} {a b : List (BitVec 64)} (ha : Fits n a) : Fits n (lessM n a b) := by
  obtain ⟨k, e1, e2, hk⟩ := fits_len ha
  refine fits_mk (by omega) (by simp [lessM]) fun i j hb => ?_
  have := (fits_bits ha ((bit_less ha i j).1 hb).1).2
  omega

/-! ### Then -/
theorem bit_reach' {rows : List (BitVec 64)} {f : Nat → BitVec 64} {i j : Nat} : (reachM rows (f i)).getLsbD j = true ↔ ∃ p, (f i).getLsbD p = true ∧ bit rows p j = true := bit_reach _ _ _
theorem thenV_bit {l : List RelV} (i j : Nat) : ∀ k, k + 1 < l.length → ((thenV l (k + 1) i).getLsbD j = true ↔ ∃ p, (thenV l k i).getLsbD p = true ∧ bit (l.getD (k + 1) (0, [])).2 p j = true) := fun k hk => by
  rw [thenV_succ l k hk, bit_reach]
theorem thenV_one (a b : RelV) (j : Nat) : thenV [a, b] 1 j = reachM b.2 (a.2.getD j 0) := by simp [thenV]
theorem thenV_two (a b c : RelV) (j : Nat) : thenV [a, b, c] 2 j = reachM c.2 (reachM b.2 (a.2.getD j 0)) := by simp [thenV]
theorem bit_then2 {n : Nat} {a b : List (BitVec 64)} (ha : Fits n a) (i j : Nat) : bit (thenM n [((n : Int), a), ((n : Int), b)]) i j = true ↔ ∃ k, bit a i k = true ∧ bit b k j = true := by
  unfold thenM
  rw [bit_tab]
  rw [List.length_cons, List.length_cons, List.length_nil, show 0 + 1 + 1 - 1 = 1 from rfl, thenV_one, Bool.and_eq_true, bit_reach]
  constructor
  · rintro ⟨_, h⟩; exact h
  · rintro ⟨k, h1, h2⟩
    obtain ⟨k0, e1, e2, _⟩ := fits_len ha
    have := (fits_bits ha h1).1
    exact ⟨by simp; omega, k, h1, h2⟩
theorem bit_then3 {n : Nat} {a b c : List (BitVec 64)} (ha : Fits n a) (i j : Nat) : bit (thenM n [((n : Int), a), ((n : Int), b), ((n : Int), c)]) i j = true ↔ ∃ k m, bit a i k = true ∧ bit b k m = true ∧ bit c m j = true := by
  unfold thenM
  rw [bit_tab]
  rw [List.length_cons, List.length_cons, List.length_cons, List.length_nil, show 0 + 1 + 1 + 1 - 1 = 2 from rfl, thenV_two, Bool.and_eq_true, bit_reach]
  constructor
  · rintro ⟨_, m, h1, h2⟩
    rw [bit_reach] at h1
    obtain ⟨k, h3, h4⟩ := h1
    exact ⟨k, m, h3, h4, h2⟩
  · rintro ⟨k, m, h1, h2, h3⟩
    obtain ⟨k0, e1, e2, _⟩ := fits_len ha
    have := (fits_bits ha h1).1
    exact ⟨by simp; omega, m, (bit_reach _ _ _).2 ⟨k, h1, h2⟩, h3⟩
theorem fits_then2 {n : Nat} {a b : List (BitVec 64)} (ha : Fits n a) (hb : Fits n b) : Fits n (thenM n [((n : Int), a), ((n : Int), b)]) := by
  obtain ⟨k0, e1, e2, hk⟩ := fits_len ha
  refine fits_mk (by omega) (by simp [thenM]) fun i j h => ?_
  obtain ⟨k, _, h2⟩ := (bit_then2 ha i j).1 h
  obtain ⟨k1, e3, e4, _⟩ := fits_len hb
  have := (fits_bits hb h2).2
  omega
theorem fits_then3 {n : Nat} {a b c : List (BitVec 64)} (ha : Fits n a) (hc : Fits n c) : Fits n (thenM n [((n : Int), a), ((n : Int), b), ((n : Int), c)]) := by
  obtain ⟨k0, e1, e2, hk⟩ := fits_len ha
  refine fits_mk (by omega) (by simp [thenM]) fun i j h => ?_
  obtain ⟨k, m, _, _, h2⟩ := (bit_then3 ha i j).1 h
  obtain ⟨k1, e3, e4, _⟩ := fits_len hc
  have := (fits_bits hc h2).2
  omega

/-! ### Turn -/
theorem tIn_get (i : Nat) (row : BitVec 64) (acc : List (BitVec 64)) (p : Nat) (hp : p < acc.length) : ∀ q, (tIn i row q acc).getD p 0 = if p < q ∧ row.getLsbD p = true then acc.getD p 0 ||| 1#64 <<< i else acc.getD p 0
  | 0 => by simp [tIn]
  | q + 1 => by
    have ih := tIn_get i row acc p hp q
    rw [tIn_succ]
    by_cases hq : row.getLsbD q = true
    · rw [if_pos hq]
      by_cases hpq : p = q
      · subst hpq
        rw [getD_set_self _ _ _ (by rw [tIn_len]; exact hp), ih, if_neg (by omega), if_pos ⟨by omega, hq⟩]
      · rw [getD_set_ne' _ _ _ _ (Ne.symm hpq), ih]
        by_cases h : p < q
        · simp [h, show p < q + 1 by omega]
        · rw [if_neg (fun e => h e.1), if_neg (fun e => by omega)]
    · rw [if_neg hq, ih]
      by_cases hpq : p = q
      · subst hpq
        rw [if_neg (by omega), if_neg (fun e => hq e.2)]
      · by_cases h : p < q
        · simp [h, show p < q + 1 by omega]
        · rw [if_neg (fun e => h e.1), if_neg (fun e => by omega)]
theorem bit_tOut (rows : List (BitVec 64)) (hl : rows.length ≤ 64) (p : Nat) (hp : p < rows.length) (i : Nat) : ∀ m, m ≤ rows.length → (bit (tOut m rows) p i = true ↔ i < m ∧ bit rows i p = true)
  | 0, _ => by
    unfold bit
    simp [tOut, hp]
  | m + 1, hm => by
    have ih := bit_tOut rows hl p hp i m (by omega)
    unfold bit at ih ⊢
    rw [tOut_succ, tIn_get m _ _ p (by rw [tOut_len]; exact hp)]
    by_cases hb : (rows.getD m 0).getLsbD p = true
    · rw [if_pos ⟨by omega, hb⟩, BitVec.getLsbD_or, Bool.or_eq_true, ih]
      by_cases hi : i < 64
      · rw [one_shl_bit m i hi]
        constructor
        · rintro (h | h)
          · exact ⟨by omega, h.2⟩
          · have : m = i := by simpa using h
            subst this; exact ⟨by omega, hb⟩
        · rintro ⟨h1, h2⟩
          by_cases h : i = m
          · subst h; right; simp
          · left; exact ⟨by omega, h2⟩
      · rw [BitVec.getLsbD_of_ge (1#64 <<< m) _ (by omega)]
        constructor
        · rintro (h | h)
          · omega
          · cases h
        · intro h; omega
    · rw [if_neg (fun e => hb e.2), ih]
      constructor
      · rintro ⟨h1, h2⟩; exact ⟨by omega, h2⟩
      · rintro ⟨h1, h2⟩
        refine ⟨?_, h2⟩
        by_cases h : i = m
        · subst h; exact absurd h2 hb
        · omega
theorem bit_turn {n : Int} {rows : List (BitVec 64)} (hf : Fits n rows) (i j : Nat) : bit (turnM rows) i j = true ↔ bit rows j i = true := by
  have h64 := (fits_n hf).2
  by_cases hi : i < rows.length
  · unfold turnM
    rw [bit_tOut rows h64 i hi j rows.length (Nat.le_refl _)]
    exact ⟨fun h => h.2, fun h => ⟨(fits_bits hf h).1, h⟩⟩
  · constructor
    · intro h
      rw [bit_out (by unfold turnM; rw [tOut_len]; omega)] at h; cases h
    · intro h
      have := (fits_bits hf h).2; omega
theorem fits_turn {n : Nat} {rows : List (BitVec 64)} (hf : Fits n rows) : Fits n (turnM rows) := by
  obtain ⟨k0, e1, e2, hk⟩ := fits_len hf
  refine fits_mk (by omega) (by unfold turnM; rw [tOut_len]; omega) fun i j h => ?_
  have := (fits_bits hf ((bit_turn hf i j).1 h)).1
  omega
end Go.AL.Rl

namespace Go.AL.Rl
/-! ### Plain: what can be sorted -/
theorem countP_lt {α : Type} (p q : α → Bool) : ∀ (l : List α), (∀ x ∈ l, p x = true → q x = true) → (∃ x ∈ l, q x = true ∧ p x = false) → l.countP p < l.countP q
  | [], _, h => by obtain ⟨x, hx, _⟩ := h; cases hx
  | a :: l, h1, h2 => by
    have hle : ∀ l : List α, (∀ x ∈ l, p x = true → q x = true) → l.countP p ≤ l.countP q := fun l h => by
      induction l with
      | nil => simp
      | cons b l ih =>
        have := ih fun x hx => h x (by simp [hx])
        have hb := h b (by simp)
        simp only [List.countP_cons]
        cases hp : p b <;> cases hq : q b <;> simp_all <;> omega
    have hl := hle l fun x hx => h1 x (by simp [hx])
    have ha := h1 a (by simp)
    simp only [List.countP_cons]
    obtain ⟨x, hx, hx1, hx2⟩ := h2
    rcases List.mem_cons.1 hx with rfl | hx
    · rw [hx1, hx2]; simp; omega
    · have := countP_lt p q l (fun y hy => h1 y (by simp [hy])) ⟨x, hx, hx1, hx2⟩
      cases hp : p a <;> cases hq : q a <;> simp_all <;> omega

/-- no thing leads to itself -/
theorem acy_iff {n : Int} {rows : List (BitVec 64)} : acyM n rows = true ↔ Fits n rows ∧ ∀ i, bit (plusM n rows) i i = false := by
  unfold acyM
  rw [decide_eq_true_eq]
  constructor
  · rintro ⟨h1, h2⟩
    refine ⟨h1, fun i => ?_⟩
    by_cases hi : i < rows.length
    · exact (and_one_zero _ _).1 (h2 i hi)
    · exact bit_out (by rw [plusM_len]; omega) i
  · rintro ⟨h1, h2⟩
    exact ⟨h1, fun i _ => (and_one_zero _ _).2 (h2 i)⟩

theorem first_of (p : Nat → Prop) [DecidablePred p] (i : Nat) (h : p i) : ∃ k, k ≤ i ∧ p k ∧ ∀ m < k, ¬ p m := by
  induction i using Nat.strongRecOn with
  | _ i ih =>
    by_cases hx : ∃ m, m < i ∧ p m
    · obtain ⟨m, hm, hp⟩ := hx
      obtain ⟨k, h1, h2, h3⟩ := ih m hm hp
      exact ⟨k, by omega, h2, h3⟩
    · exact ⟨i, Nat.le_refl _, h, fun m hm hp => hx ⟨m, hm, hp⟩⟩
instance (ahead : List (BitVec 64)) (left : BitVec 64) : DecidablePred (cand ahead left) := fun _ => by unfold cand; infer_instance

section
variable {n : Int} {rows : List (BitVec 64)} (hf : Fits n rows)
include hf
theorem cand_iff (left : BitVec 64) (i : Nat) : cand (turnM rows) left i ↔ left.getLsbD i = true ∧ ∀ j, left.getLsbD j = true → bit rows j i = false := by
  unfold cand
  refine and_congr Iff.rfl ?_
  constructor
  · intro h j hj
    have := congrArg (fun x : BitVec 64 => x.getLsbD j) h
    simp only [BitVec.getLsbD_and, hj, Bool.and_true, BitVec.getLsbD_zero] at this
    cases hb : bit rows j i with
    | false => rfl
    | true =>
      have := (bit_turn hf i j).2 hb
      unfold bit at this
      simp_all
  · intro h
    apply BitVec.eq_of_getLsbD_eq
    intro j hj
    rw [BitVec.getLsbD_and, BitVec.getLsbD_zero]
    cases hb : left.getLsbD j with
    | false => simp
    | true =>
      have h2 := h j hb
      cases hc : ((turnM rows).getD i 0).getLsbD j with
      | false => rfl
      | true =>
        have := (bit_turn hf i j).1 hc
        rw [h2] at this; cases this
theorem cand_ex (ha : acyM n rows = true) (left : BitVec 64) (hl : ∀ p, left.getLsbD p = true → p < rows.length) : ∀ (m i : Nat), left.getLsbD i = true → ((List.range rows.length).countP fun j => left.getLsbD j && bit (plusM n rows) j i) = m → ∃ k, cand (turnM rows) left k := by
  intro m
  induction m using Nat.strongRecOn with
  | _ m ih =>
    intro i hi hm
    by_cases hx : ∃ j, left.getLsbD j = true ∧ bit rows j i = true
    · obtain ⟨j, h1, h2⟩ := hx
      have hp : bit (plusM n rows) j i = true := plus_edge h2
      refine ih _ ?_ j h1 rfl
      rw [← hm]
      refine countP_lt _ _ _ (fun x _ hx => ?_) ⟨j, by simpa using hl j h1, ?_, ?_⟩
      · rw [Bool.and_eq_true] at hx ⊢
        exact ⟨hx.1, plus_trans hf hx.2 hp⟩
      · rw [h1, hp]; rfl
      · rw [((acy_iff).1 ha).2 j]; simp
    · refine ⟨i, (cand_iff hf left i).2 ⟨hi, fun j hj => ?_⟩⟩
      cases hb : bit rows j i with
      | false => rfl
      | true => exact absurd ⟨j, hj, hb⟩ hx
theorem sorts_ex (ha : acyM n rows = true) : ∀ (m : Nat) (left : BitVec 64) (acc : List Int), cnt left = m → (∀ p, left.getLsbD p = true → p < rows.length) → ∃ res, Sorts (turnM rows) rows.length left acc res := by
  intro m
  induction m using Nat.strongRecOn with
  | _ m ih =>
    intro left acc hm hl
    by_cases h0 : left = 0#64
    · subst h0; exact ⟨acc, .done acc⟩
    · have : ∃ i, left.getLsbD i = true := by
        apply Classical.byContradiction
        intro hno
        apply h0
        apply BitVec.eq_of_getLsbD_eq
        intro i hi
        rw [BitVec.getLsbD_zero]
        cases hb : left.getLsbD i with
        | false => rfl
        | true => exact absurd ⟨i, hb⟩ hno
      obtain ⟨i, hi⟩ := this
      obtain ⟨k, hk⟩ := cand_ex hf ha left hl _ i hi rfl
      obtain ⟨k', _, hc, hn⟩ := first_of (cand (turnM rows) left) k hk
      have hk' : k' < rows.length := hl k' hc.1
      have h64 := (fits_n hf).2
      have hcl := cnt_clear left k' (by omega) hc.1
      obtain ⟨res, hres⟩ := ih (cnt (left &&& ~~~ (1#64 <<< k'))) (by omega) (left &&& ~~~ (1#64 <<< k')) (acc ++ [(k' : Int)]) rfl fun p hp => by
        rw [clear_bit, Bool.and_eq_true] at hp
        exact hl p hp.1
      exact ⟨res, .step left acc res k' hk' hc hn hres⟩
theorem full_bits (p : Nat) : (fullM n).getLsbD p = true ↔ p < rows.length := by
  obtain ⟨h1, h2⟩ := fits_n hf
  by_cases hp : p < 64
  · rw [h1, fullM_bit _ h2 p hp]; simp
  · rw [BitVec.getLsbD_of_ge _ _ (by omega)]; simp; omega

/-- what is sorted: each once, none ahead of what it is related from -/
theorem sorts_spec : ∀ {left : BitVec 64} {acc res : List Int}, Sorts (turnM rows) rows.length left acc res → ∃ tl : List Nat, res = acc ++ tl.map (fun (k : Nat) => (k : Int)) ∧ tl.Nodup ∧ (∀ p, p ∈ tl ↔ left.getLsbD p = true) ∧
    ∀ k m (hk : k ≤ m) (hm : m < tl.length), bit rows tl[m] tl[k] = false := by
  intro left acc res h
  induction h with
  | done acc => exact ⟨[], by simp, by simp, fun p => by simp, fun k m _ hm => by simp at hm⟩
  | step left acc res i hi hc hn h ih =>
    obtain ⟨tl, h1, h2, h3, h4⟩ := ih
    have hci := (cand_iff hf left i).1 hc
    refine ⟨i :: tl, by simp [h1], ?_, fun p => ?_, fun k m hk hm => ?_⟩
    · refine List.nodup_cons.2 ⟨fun hmem => ?_, h2⟩
      have := (h3 i).1 hmem
      rw [clear_bit] at this; simp at this
    · rw [List.mem_cons, h3, clear_bit, Bool.and_eq_true]
      constructor
      · rintro (rfl | h)
        · exact hci.1
        · exact h.1
      · intro h
        by_cases e : p = i
        · exact .inl e
        · exact .inr ⟨h, by simp [e]⟩
    · have mem : ∀ j (hj : j < (i :: tl).length), left.getLsbD (i :: tl)[j] = true := fun j hj => by
        cases j with
        | zero => exact hci.1
        | succ j =>
          have hj' : j < tl.length := by simpa using hj
          have := (h3 tl[j]).1 (List.getElem_mem hj')
          rw [clear_bit, Bool.and_eq_true] at this
          exact this.1
      cases k with
      | zero => exact hci.2 _ (mem m hm)
      | succ k =>
        cases m with
        | zero => omega
        | succ m => exact h4 k m (by omega) (by simpa using hm)
end
theorem sort_ex {n : Int} {rows : List (BitVec 64)} (ha : acyM n rows = true) : ∃ tl : List Nat, Sorts (turnM rows) rows.length (fullM n) [] (tl.map fun (k : Nat) => (k : Int)) ∧ tl.Nodup ∧ (∀ p, p ∈ tl ↔ p < rows.length) ∧ tl.length = rows.length ∧
    ∀ k m (_ : k ≤ m) (hm : m < tl.length), bit rows tl[m] tl[k] = false := by
  have hf := (acy_iff.1 ha).1
  obtain ⟨res, hres⟩ := sorts_ex hf ha _ (fullM n) [] rfl fun p hp => (full_bits hf p).1 hp
  obtain ⟨tl, h1, h2, h3, h4⟩ := sorts_spec hf hres
  rw [List.nil_append] at h1
  have hmem : ∀ p, p ∈ tl ↔ p < rows.length := fun p => by rw [h3, full_bits hf]
  refine ⟨tl, h1 ▸ hres, h2, hmem, ?_, h4⟩
  have hperm : tl.Perm (List.range rows.length) := (List.perm_ext_iff_of_nodup h2 List.nodup_range).2 fun p => by rw [hmem]; simp
  simpa using hperm.length_eq
end Go.AL.Rl
