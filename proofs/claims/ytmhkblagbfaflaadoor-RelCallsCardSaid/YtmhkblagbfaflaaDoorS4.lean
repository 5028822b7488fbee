import Derived.Test.YtmhkblagbfaflaaDoorS3
set_option linter.unusedVariables false
set_option linter.unusedSimpArgs false
namespace Go.AL.Rl
open Go Go.AL Go.Proofs
variable {γ : Nat → Option AV}
set_option maxRecDepth 100000

theorem then2 (hγ : γ 0 = some tabAV) (n : Nat) (a b : List (BitVec 64)) (ha : Fits n a) (hb : Fits n b) : Pure Tryd.prog γ false 24 [.vs 2 fun _ => rls [((n : Int), a), ((n : Int), b)]] (encRel n (thenM n [((n : Int), a), ((n : Int), b)])) :=
  then_yes hγ _ (by simp) ((alike2 _ _ _ _).2 ⟨ha, hb, rfl⟩) n rfl
theorem alike3 (n : Int) (a b c : List (BitVec 64)) (ha : Fits n a) (hb : Fits n b) (hc : Fits n c) : Alike [(n, a), (n, b), (n, c)] := by
  refine ⟨by simp, fun i hi => ?_⟩
  have : i = 0 ∨ i = 1 ∨ i = 2 := by simp at hi; omega
  rcases this with rfl | rfl | rfl
  · simp [ha]
  · simp [hb]
  · simp [hc]
theorem or2 (n : Nat) (a b : List (BitVec 64)) (ha : Fits n a) (hb : Fits n b) : Pure Tryd.prog γ false 25 [.vs 2 fun _ => rls [((n : Int), a), ((n : Int), b)]] (encRel n (orM n [((n : Int), a), ((n : Int), b)])) :=
  or_yes _ (by simp) ((alike2 _ _ _ _).2 ⟨ha, hb, rfl⟩) n rfl
theorem fits_or2 {n : Nat} {a b : List (BitVec 64)} (ha : Fits n a) (hb : Fits n b) : Fits n (orM n [((n : Int), a), ((n : Int), b)]) :=
  fits_or (by obtain ⟨k, e, _, h⟩ := fits_len ha; omega) (by simp [ha, hb])
theorem relAlgebra_ok (hγ : γ 0 = some tabAV) (n m k : Int) (a b c : List (BitVec 64)) : Pure Tryd.prog γ false 6 [encRel n a, encRel m b, encRel k c] (.b fun _ => true) := by
  refine Pure.go (ty := ty) ty_eq mo Tryd.func6 rfl Tryd.ntmps6 Tryd.results6 Tryd.call6 (by simp) fun P C CQ D W F E hF => ?_
  cbv
  refine E.c (SCalls.of_le (lives_ok hγ) ?_ ?_)
  · cbv; all_goals simp
  cbv
  refine br_f (rfl) ?_
  cbv
  refine E.c (SCalls.of_le (check_ok n a) ?_ ?_)
  · cbv; all_goals simp
  cbv
  by_cases ha : Fits n a
  case neg =>
    refine br_t (by simp [checkM, ha]) ?_
    cbv
    refine hF ?_
    cbv
    simp
  refine br_f (by simp [checkM, ha]) ?_
  cbv
  refine E.c (SCalls.of_le (check_ok m b) ?_ ?_)
  · cbv; all_goals simp
  cbv
  by_cases hb : Fits m b
  case neg =>
    refine br_t (by simp [checkM, hb]) ?_
    cbv
    refine hF ?_
    cbv
    simp
  refine br_f (by simp [checkM, hb]) ?_
  cbv
  refine E.c (SCalls.of_le (check_ok k c) ?_ ?_)
  · cbv; all_goals simp
  cbv
  by_cases hc : Fits k c
  case neg =>
    refine br_t (by simp [checkM, hc]) ?_
    cbv
    refine hF ?_
    cbv
    simp
  refine br_f (by simp [checkM, hc]) ?_
  cbv
  refine ⟨fun _ h1 => ?_, fun _ h1 => ?_⟩
  · cbv
    refine hF ?_
    cbv
    simp
  cbv
  refine ⟨fun _ h2 => ?_, fun _ h2 => ?_⟩
  · cbv
    refine hF ?_
    cbv
    simp
  cbv
  obtain rfl : n = m := by simpa using h1
  obtain rfl : n = k := by simpa using h2
  clear h1 h2
  obtain ⟨la, rfl, hla, hl64⟩ := fits_len ha
  have hab := fits_then2 ha hb
  have hbc := fits_then2 hb hc
  have hac := fits_then2 ha hc
  have fbc := fits_or2 hb hc
  have fab := fits_or2 ha hb
  have tb := fits_turn hb
  have ta := fits_turn ha
  refine E.da 8 24 (by kernel_rfl) (by kernel_rfl) rfl rfl rfl ?_
  cbv
  refine E.q (QCalls.of_le (then2 hγ la a b ha hb) ?_ ?_)
  · cbv; all_goals simp [rls, ps, us, is, LV.of]
  cbv
  refine E.q (QCalls.of_le (then2 hγ la (thenM la [((la : Int), a), ((la : Int), b)]) c hab hc) ?_ ?_)
  · cbv; all_goals simp [rls, ps, us, is, LV.of]
  cbv
  refine E.da 8 24 (by kernel_rfl) (by kernel_rfl) rfl rfl rfl ?_
  cbv
  refine E.q (QCalls.of_le (then2 hγ la b c hb hc) ?_ ?_)
  · cbv; all_goals simp [rls, ps, us, is, LV.of]
  cbv
  refine E.q (QCalls.of_le (then2 hγ la a (thenM la [((la : Int), b), ((la : Int), c)]) ha hbc) ?_ ?_)
  · cbv; all_goals simp [rls, ps, us, is, LV.of]
  cbv
  refine E.da 8 24 (by kernel_rfl) (by kernel_rfl) rfl rfl rfl ?_
  cbv
  refine E.q (QCalls.of_le (or2 la b c hb hc) ?_ ?_)
  · cbv; all_goals simp [rls, ps, us, is, LV.of]
  cbv
  refine E.q (QCalls.of_le (then2 hγ la a (orM la [((la : Int), b), ((la : Int), c)]) ha fbc) ?_ ?_)
  · cbv; all_goals simp [rls, ps, us, is, LV.of]
  cbv
  have e1 : thenM la [((la : Int), thenM la [((la : Int), a), ((la : Int), b)]), ((la : Int), c)] = thenM la [((la : Int), a), ((la : Int), thenM la [((la : Int), b), ((la : Int), c)])] := by
    refine fits_ext (fits_then2 hab hc) (fits_then2 ha hbc) fun i j => ?_
    rw [bit_then2 hab, bit_then2 ha]
    constructor
    · rintro ⟨p, h1, h2⟩
      obtain ⟨q, h3, h4⟩ := (bit_then2 ha i p).1 h1
      exact ⟨q, h3, (bit_then2 hb q j).2 ⟨p, h4, h2⟩⟩
    · rintro ⟨p, h1, h2⟩
      obtain ⟨q, h3, h4⟩ := (bit_then2 hb p j).1 h2
      exact ⟨q, (bit_then2 ha i q).2 ⟨p, h1, h3⟩, h4⟩
  have e2 : thenM la [((la : Int), thenM la [((la : Int), a), ((la : Int), b)]), ((la : Int), c)] = thenM la [((la : Int), a), ((la : Int), b), ((la : Int), c)] := by
    refine fits_ext (fits_then2 hab hc) (fits_then3 ha hc) fun i j => ?_
    rw [bit_then2 hab, bit_then3 ha]
    constructor
    · rintro ⟨p, h1, h2⟩
      obtain ⟨q, h3, h4⟩ := (bit_then2 ha i p).1 h1
      exact ⟨q, p, h3, h4, h2⟩
    · rintro ⟨q, p, h3, h4, h2⟩
      exact ⟨p, (bit_then2 ha i p).2 ⟨q, h3, h4⟩, h2⟩
  refine E.d 68 (by kernel_rfl) ?_
  cbv
  refine E.q (QCalls.of_le (same_ok la la (thenM la [((la : Int), (thenM la [((la : Int), a), ((la : Int), b)])), ((la : Int), c)]) (thenM la [((la : Int), a), ((la : Int), (thenM la [((la : Int), b), ((la : Int), c)]))])) ?_ ?_)
  · cbv; all_goals simp
  cbv
  refine br_t (by simp [e1, fits_then2 ha hbc]) ?_
  cbv
  refine E.q (QCalls.of_le (then_yes hγ [((la : Int), a), ((la : Int), b), ((la : Int), c)] (by simp) (alike3 _ a b c ha hb hc) la rfl) ?_ ?_)
  · cbv; all_goals simp [rls, ps, us, is, LV.of]
  cbv
  refine E.q (QCalls.of_le (same_ok la la (thenM la [((la : Int), (thenM la [((la : Int), a), ((la : Int), b)])), ((la : Int), c)]) (thenM la [((la : Int), a), ((la : Int), b), ((la : Int), c)])) ?_ ?_)
  · cbv; all_goals simp
  cbv
  refine br_t (by simp [e2, fits_then3 ha hc]) ?_
  cbv
  refine E.q (QCalls.of_le (then2 hγ la a b ha hb) ?_ ?_)
  · cbv; all_goals simp [rls, ps, us, is, LV.of]
  cbv
  refine E.q (QCalls.of_le (turn_ok hγ la (thenM la [((la : Int), a), ((la : Int), b)]) hab) ?_ ?_)
  · cbv; all_goals simp
  cbv
  refine E.q (QCalls.of_le (turn_ok hγ la b hb) ?_ ?_)
  · cbv; all_goals simp
  cbv
  refine E.q (QCalls.of_le (turn_ok hγ la a ha) ?_ ?_)
  · cbv; all_goals simp
  cbv
  refine E.q (QCalls.of_le (then2 hγ la (turnM b) (turnM a) tb ta) ?_ ?_)
  · cbv; all_goals simp [rls, ps, us, is, LV.of]
  cbv
  refine E.q (QCalls.of_le (same_ok la la (turnM (thenM la [((la : Int), a), ((la : Int), b)])) (thenM la [((la : Int), (turnM b)), ((la : Int), (turnM a))])) ?_ ?_)
  · cbv; all_goals simp
  cbv
  have e3 : turnM (thenM la [((la : Int), a), ((la : Int), b)]) = thenM la [((la : Int), turnM b), ((la : Int), turnM a)] := by
    refine fits_ext (fits_turn hab) (fits_then2 tb ta) fun i j => ?_
    rw [bit_turn hab, bit_then2 ha, bit_then2 tb]
    constructor
    · rintro ⟨p, h1, h2⟩
      exact ⟨p, (bit_turn hb i p).2 h2, (bit_turn ha p j).2 h1⟩
    · rintro ⟨p, h1, h2⟩
      exact ⟨p, (bit_turn ha p j).1 h2, (bit_turn hb i p).1 h1⟩
  refine br_t (by simp [e3, fits_then2 tb ta]) ?_
  cbv
  refine E.q (QCalls.of_le (then2 hγ la a b ha hb) ?_ ?_)
  · cbv; all_goals simp [rls, ps, us, is, LV.of]
  cbv
  refine E.q (QCalls.of_le (then2 hγ la a c ha hc) ?_ ?_)
  · cbv; all_goals simp [rls, ps, us, is, LV.of]
  cbv
  refine E.q (QCalls.of_le (or2 la (thenM la [((la : Int), a), ((la : Int), b)]) (thenM la [((la : Int), a), ((la : Int), c)]) hab hac) ?_ ?_)
  · cbv; all_goals simp [rls, ps, us, is, LV.of]
  cbv
  refine E.q (QCalls.of_le (same_ok la la (thenM la [((la : Int), a), ((la : Int), (orM la [((la : Int), b), ((la : Int), c)]))]) (orM la [((la : Int), (thenM la [((la : Int), a), ((la : Int), b)])), ((la : Int), (thenM la [((la : Int), a), ((la : Int), c)]))])) ?_ ?_)
  · cbv; all_goals simp
  cbv
  have e4 : thenM la [((la : Int), a), ((la : Int), orM la [((la : Int), b), ((la : Int), c)])] = orM la [((la : Int), thenM la [((la : Int), a), ((la : Int), b)]), ((la : Int), thenM la [((la : Int), a), ((la : Int), c)])] := by
    refine fits_ext (fits_then2 ha fbc) (fits_or2 hab hac) fun i j => ?_
    rw [bit_then2 ha, bit_or2 hab hac, bit_then2 ha, bit_then2 ha]
    constructor
    · rintro ⟨p, h1, h2⟩
      rcases (bit_or2 hb hc p j).1 h2 with h | h
      · exact .inl ⟨p, h1, h⟩
      · exact .inr ⟨p, h1, h⟩
    · rintro (⟨p, h1, h2⟩ | ⟨p, h1, h2⟩)
      · exact ⟨p, h1, (bit_or2 hb hc p j).2 (.inl h2)⟩
      · exact ⟨p, h1, (bit_or2 hb hc p j).2 (.inr h2)⟩
  refine br_t (by simp [e4, fits_or2 hab hac]) ?_
  cbv
  refine E.q (QCalls.of_le (or2 la a b ha hb) ?_ ?_)
  · cbv; all_goals simp [rls, ps, us, is, LV.of]
  cbv
  refine E.q (QCalls.of_le (or2 la b a hb ha) ?_ ?_)
  · cbv; all_goals simp [rls, ps, us, is, LV.of]
  cbv
  refine E.q (QCalls.of_le (same_ok la la (orM la [((la : Int), a), ((la : Int), b)]) (orM la [((la : Int), b), ((la : Int), a)])) ?_ ?_)
  · cbv; all_goals simp
  cbv
  have e5 : orM la [((la : Int), a), ((la : Int), b)] = orM la [((la : Int), b), ((la : Int), a)] := by
    refine fits_ext (fits_or2 ha hb) (fits_or2 hb ha) fun i j => ?_
    rw [bit_or2 ha hb, bit_or2 hb ha, or_comm]
  refine br_t (by simp [e5, fits_or2 hb ha]) ?_
  cbv
  refine E.q (QCalls.of_le (turn_ok hγ la a ha) ?_ ?_)
  · cbv; all_goals simp
  cbv
  refine E.q (QCalls.of_le (turn_ok hγ la (turnM a) ta) ?_ ?_)
  · cbv; all_goals simp
  cbv
  refine E.q (QCalls.of_le (same_ok la la (turnM (turnM a)) a) ?_ ?_)
  · cbv; all_goals simp
  cbv
  have e6 : turnM (turnM a) = a := by
    refine fits_ext (fits_turn ta) ha fun i j => ?_
    rw [bit_turn ta, bit_turn ha]
  refine br_t (by simp [fits_turn ta, e6, ha]) ?_
  cbv
  refine E.q (QCalls.of_le (self_in la hl64) ?_ ?_)
  · cbv; all_goals simp
  cbv
  refine E.q (QCalls.of_le (then2 hγ la (selfM la) a (fits_self hl64) ha) ?_ ?_)
  · cbv; all_goals simp [rls, ps, us, is, LV.of]
  cbv
  refine E.q (QCalls.of_le (same_ok la la (thenM la [((la : Int), (selfM la)), ((la : Int), a)]) a) ?_ ?_)
  · cbv; all_goals simp
  cbv
  refine hF ?_
  cbv
  have e7 : thenM la [((la : Int), selfM la), ((la : Int), a)] = a := by
    refine fits_ext (fits_then2 (fits_self hl64) ha) ha fun i j => ?_
    rw [bit_then2 (fits_self hl64)]
    constructor
    · rintro ⟨p, h1, h2⟩
      obtain ⟨rfl, _⟩ := (bit_self hl64 i p).1 h1
      exact h2
    · intro h
      exact ⟨i, (bit_self hl64 i i).2 ⟨rfl, by have := (fits_bits ha h).1; omega⟩, h⟩
  intro _
  simp [e7, ha]
end Go.AL.Rl

namespace Go.AL.Rl
open Go Go.AL Go.Proofs
variable {γ : Nat → Option AV}
set_option maxRecDepth 100000

theorem upd_i (x y : Unit → Int) : (AV.i x).upd 0 (.i y) = .i y := rfl
theorem is_set (l : List Int) (i : Nat) (x : Int) : (is l).l.set i (.i fun _ => x) = (is (l.set i x)).l := by simp [is, List.map_set]
theorem none_ok (n : Nat) (h : n ≤ 64) : Pure Tryd.prog γ false 16 [.i fun _ => (n : Int)] (encRel n (List.replicate n 0#64)) :=
  Pure.of_owns (none_in (n : Int) (by omega) (by omega)) (by
    cbv
    simp
    rw [List.take_of_length_le (by simp)])
theorem plus_no (n : Int) (rows : List (BitVec 64)) (h : ¬ Fits n rows) : Pure Tryd.prog γ false 12 [encRel n rows] (encRel 0 []) := by
  refine Pure.go (ty := ty) ty_eq mo Tryd.func12 rfl Tryd.ntmps12 Tryd.results12 Tryd.call12 (by simp) fun P C CQ D W F E hF => ?_
  cbv
  refine E.c (SCalls.of_le (check_ok n rows) ?_ ?_)
  · cbv; all_goals simp
  cbv
  refine br_t (by simp [checkM, h]) ?_
  cbv
  refine hF ?_
  cbv
  simp [us]
theorem bit_zero (n i j : Nat) : bit (List.replicate n 0#64) i j = false := by
  rw [← tab_zero, bit_tab]; simp
theorem fits_zero {n : Nat} (h : n ≤ 64) : Fits n (List.replicate n 0#64) := fits_mk h (by simp) fun i j hb => by rw [bit_zero] at hb; cases hb
theorem cnt_full_bits (x : BitVec 64) (p : Nat) : ((x >>> p) % 2#64 = 1#64) ↔ x.getLsbD p = true := by
  have e : (x >>> p) % 2#64 = (x >>> p) &&& 1#64 := by
    apply BitVec.eq_of_toNat_eq
    rw [BitVec.toNat_umod, BitVec.toNat_and]
    exact (Nat.and_one_is_mod _).symm
  rw [e]
  constructor
  · intro h
    have := congrArg (fun y : BitVec 64 => y.getLsbD 0) h
    simpa [BitVec.getLsbD_and, BitVec.getLsbD_ushiftRight] using this
  · intro h
    apply BitVec.eq_of_getLsbD_eq
    intro i hi
    rw [BitVec.getLsbD_and, BitVec.getLsbD_ushiftRight, BitVec.getLsbD_one]
    by_cases h0 : i = 0
    · subst h0; simp [h]
    · simp [h0]

theorem or_no2 (n m : Int) (a b : List (BitVec 64)) (h : ¬ (Fits n a ∧ Fits m b ∧ m = n)) : Pure Tryd.prog γ false 25 [.vs 2 fun _ => rls [(n, a), (m, b)]] (encRel 0 []) :=
  or_no _ (by simp) fun h' => h ((alike2 _ _ _ _).1 h')
theorem pairs_mem {rows : List (BitVec 64)} {x : Int × Int} (h : x ∈ pairsM rows) : ∃ a b : Nat, x = ((a : Int), (b : Int)) ∧ bit rows a b = true := by
  unfold pairsM prows at h
  simp only [List.mem_flatMap, List.mem_range] at h
  obtain ⟨i, hi, h⟩ := h
  simp only [prow, List.mem_map, List.mem_filter, List.mem_range] at h
  obtain ⟨j, ⟨_, hj⟩, rfl⟩ := h
  exact ⟨i, j, rfl, hj⟩
/-- what is sorted is so -/
structure Srt (rows : List (BitVec 64)) (tl : List Nat) : Prop where
  nd : tl.Nodup
  mem : ∀ p, p ∈ tl ↔ p < rows.length
  len : tl.length = rows.length
  ord : ∀ k m (_ : k ≤ m) (hm : m < tl.length), bit rows tl[m] tl[k] = false

theorem relPlus_ok (hγ : γ 0 = some tabAV) (n m : Int) (rows o : List (BitVec 64)) : Pure Tryd.prog γ false 7 [encRel n rows, encRel m o] (.b fun _ => true) := by
  by_cases hf : Fits n rows
  case neg =>
    refine Pure.go (ty := ty) ty_eq mo Tryd.func7 rfl Tryd.ntmps7 Tryd.results7 Tryd.call7 (by simp) fun P C CQ D W F E hF => ?_
    cbv
    refine E.c (SCalls.of_le (lives_ok hγ) ?_ ?_)
    · cbv; all_goals simp
    cbv
    refine br_f (rfl) ?_
    cbv
    refine E.c (SCalls.of_le (check_ok n rows) ?_ ?_)
    · cbv; all_goals simp
    cbv
    refine br_t (by simp [checkM, hf]) ?_
    cbv
    refine E.c (SCalls.of_le (plus_no n rows hf) ?_ ?_)
    · cbv; all_goals simp
    cbv
    refine E.c (SCalls.of_le (kitRel_ok 0 0 [] [] (by simp)) ?_ ?_)
    · cbv
      simp [us, LV.l]
    cbv
    refine hF ?_
    cbv
    simp
  obtain ⟨la, rfl, hla, hl64⟩ := fits_len hf
  refine Pure.goL (ty := ty) ty_eq mo Tryd.func7 rfl Tryd.ntmps7 Tryd.results7 Tryd.call7 (by simp) fun P C CQ D W F E hF => ?_
  have hp := fits_plus hf
  have hpe := fun i j => plus_edge (n := (la : Int)) (rows := rows) (i := i) (j := j)
  have hpt := fun i k j => plus_trans hf (i := i) (k := k) (j := j)
  have hpl := fun (T : Nat → Nat → Prop) h1 h2 i j => plus_least (n := (la : Int)) (rows := rows) T h1 h2 (i := i) (j := j)
  have hacy := acy_iff (n := (la : Int)) (rows := rows)
  have hpo := plus_ok (γ := γ) (la : Int) rows hf
  generalize plusM (la : Int) rows = p at hp hpe hpt hpl hacy hpo
  have hpp := fits_then2 hp hp
  have e1 : orM la [((la : Int), rows), ((la : Int), p)] = p := fits_ext (fits_or2 hf hp) hp fun i j => by
    rw [bit_or2 hf hp]; exact ⟨fun h => h.elim (hpe i j) id, .inr⟩
  have e2 : orM la [((la : Int), thenM la [((la : Int), p), ((la : Int), p)]), ((la : Int), p)] = p := fits_ext (fits_or2 hpp hp) hp fun i j => by
    rw [bit_or2 hpp hp]; exact ⟨fun h => h.elim (fun h => by obtain ⟨k, h1, h2⟩ := (bit_then2 hp i j).1 h; exact hpt i k j h1 h2) id, .inr⟩
  have e3 : plusM la p = p := fits_ext (fits_plus hp) hp fun i j =>
    ⟨fun h => plus_least (fun i j => bit p i j = true) (fun _ _ h => h) hpt h, fun h => plus_edge h⟩
  refine E.cut 11 (told 193 [(2, .ptr 0 0), (3, .ptr 1 0), (5, .ptr 2 0)] [.box (encRel la rows), .box (encRel m o), .box (encRel la p)]) (by kernel_rfl) (Nat.zero_le _) (fun I hI => ?_) (E.bl ?_)
  · cbv
    refine E.c (SCalls.of_le (lives_ok hγ) ?_ ?_)
    · cbv; all_goals simp
    cbv
    refine br_f (rfl) ?_
    cbv
    refine E.c (SCalls.of_le (check_ok la rows) ?_ ?_)
    · cbv; all_goals simp
    cbv
    refine br_f (by simp [checkM, hf]) ?_
    cbv
    refine E.c (SCalls.of_le (hpo) ?_ ?_)
    · cbv; all_goals simp
    cbv
    refine E.d 26 (by kernel_rfl) ?_
    cbv
    refine E.q (QCalls.of_le (or2 la rows p hf hp) ?_ ?_)
    · cbv; all_goals simp [rls, ps, us, is, LV.of]
    cbv
    refine E.q (QCalls.of_le (same_ok la la (orM la [((la : Int), rows), ((la : Int), p)]) p) ?_ ?_)
    · cbv; all_goals simp
    cbv
    refine br_f (by simp [e1, hp]) ?_
    cbv
    refine E.q (QCalls.of_le (then2 hγ la p p hp hp) ?_ ?_)
    · cbv; all_goals simp [rls, ps, us, is, LV.of]
    cbv
    refine E.q (QCalls.of_le (or2 la (thenM la [((la : Int), p), ((la : Int), p)]) p hpp hp) ?_ ?_)
    · cbv; all_goals simp [rls, ps, us, is, LV.of]
    cbv
    refine E.q (QCalls.of_le (same_ok la la (orM la [((la : Int), thenM la [((la : Int), p), ((la : Int), p)]), ((la : Int), p)]) p) ?_ ?_)
    · cbv; all_goals simp
    cbv
    refine br_f (by simp [e2, hp]) ?_
    cbv
    refine E.q (QCalls.of_le (plus_ok la p hp) ?_ ?_)
    · cbv; all_goals simp
    cbv
    refine E.q (QCalls.of_le (same_ok la la (plusM la p) p) ?_ ?_)
    · cbv; all_goals simp
    cbv
    refine br_f (by simp [e3, hp]) ?_
    cbv
    by_cases hno : Fits m o ∧ m = la
    case neg =>
      refine E.c (SCalls.of_le (or_no2 (la : Int) m rows o (fun h => hno h.2)) ?_ ?_)
      · cbv; all_goals simp [rls, ps, us, is, LV.of]
      cbv
      refine E.d 30 (by kernel_rfl) ?_
      cbv
      refine E.q (QCalls.of_le (check_ok m o) ?_ ?_)
      · cbv; all_goals simp
      cbv
      by_cases ho : Fits m o
      · refine br_t (by simp [checkM, ho]) ?_
        cbv
        refine br_f (by simp; exact fun h => hno ⟨ho, h⟩) ?_
        cbv
        exact hI (by cbv; simp)
      · refine br_f (by simp [checkM, ho]) ?_
        cbv
        exact hI (by cbv; simp)
    obtain ⟨hfo, rfl⟩ := hno
    have hbig := fits_or2 hf hfo
    refine E.c (SCalls.of_le (or2 la rows o hf hfo) ?_ ?_)
    · cbv; all_goals simp [rls, ps, us, is, LV.of]
    cbv
    have hbb : ∀ i j, bit (orM la [((la : Int), rows), ((la : Int), o)]) i j = true ↔ bit rows i j = true ∨ bit o i j = true := bit_or2 hf hfo
    generalize orM la [((la : Int), rows), ((la : Int), o)] = big at hbig hbb
    have hbt := fits_then2 hbig hbig
    refine E.d 30 (by kernel_rfl) ?_
    cbv
    refine E.q (QCalls.of_le (check_ok la o) ?_ ?_)
    · cbv; all_goals simp
    cbv
    refine br_t (by simp [checkM, hfo]) ?_
    cbv
    refine br_t (by simp) ?_
    cbv
    refine E.q (QCalls.of_le (then2 hγ la big big hbig hbig) ?_ ?_)
    · cbv; all_goals simp [rls, ps, us, is, LV.of]
    cbv
    refine E.q (QCalls.of_le (or2 la (thenM la [((la : Int), big), ((la : Int), big)]) big hbt hbig) ?_ ?_)
    · cbv; all_goals simp [rls, ps, us, is, LV.of]
    cbv
    refine E.q (QCalls.of_le (same_ok la la (orM la [((la : Int), thenM la [((la : Int), big), ((la : Int), big)]), ((la : Int), big)]) big) ?_ ?_)
    · cbv; all_goals simp
    cbv
    by_cases hcl : orM la [((la : Int), thenM la [((la : Int), big), ((la : Int), big)]), ((la : Int), big)] = big
    · refine br_t (by simp [hcl, hbig]) ?_
      cbv
      have e4 : orM la [((la : Int), p), ((la : Int), big)] = big := fits_ext (fits_or2 hp hbig) hbig fun i j => by
        rw [bit_or2 hp hbig]
        refine ⟨fun h => h.elim (fun h => ?_) id, .inr⟩
        refine hpl (fun i j => bit big i j = true) (fun i j h => (hbb i j).2 (.inl h)) (fun i k j h1 h2 => ?_) i j h
        rw [← hcl, bit_or2 hbt hbig]
        exact .inl ((bit_then2 hbig i j).2 ⟨k, h1, h2⟩)
      refine E.q (QCalls.of_le (or2 la p big hp hbig) ?_ ?_)
      · cbv; all_goals simp [rls, ps, us, is, LV.of]
      cbv
      refine E.q (QCalls.of_le (same_ok la la (orM la [((la : Int), p), ((la : Int), big)]) big) ?_ ?_)
      · cbv; all_goals simp
      cbv
      refine br_f (by simp [e4, hbig]) ?_
      cbv
      exact hI (by cbv; simp)
    · refine br_f (by simp [hcl]) ?_
      cbv
      exact hI (by cbv; simp)
  cbv
  have hself := fits_self hl64
  have hrb : ∀ i j, bit (andM la p (selfM la)) i j = true ↔ bit p i j = true ∧ i = j := fun i j => by
    rw [bit_and hp, bit_self hl64]
    refine and_congr_right fun h => ?_
    have := (fits_bits hp h).1
    obtain ⟨k, e, e', _⟩ := fits_len hp
    have e := Int.ofNat.inj e
    exact ⟨fun h => h.1, fun h => ⟨h, by omega⟩⟩
  have hround : andM la p (selfM la) = List.replicate la 0#64 ↔ ∀ i, bit p i i = false := by
    constructor
    · intro h i
      cases hb : bit p i i with
      | false => rfl
      | true =>
        have := (hrb i i).2 ⟨hb, rfl⟩
        rw [h, bit_zero] at this; cases this
    · intro h
      refine fits_ext (fits_and hp) (fits_zero hl64) fun i j => ?_
      rw [hrb, bit_zero]
      constructor
      · rintro ⟨h1, rfl⟩
        rw [h] at h1; exact h1
      · intro h; cases h
  by_cases ha : acyM la rows = true
  case neg =>
    have ha : acyM la rows = false := by simpa using ha
    refine E.c (SCalls.of_le (sort_no la rows ha) ?_ ?_)
    · cbv; all_goals simp
    cbv
    refine E.da 6 24 (by kernel_rfl) (by kernel_rfl) rfl rfl rfl ?_
    cbv
    refine E.q (QCalls.of_le (self_in la hl64) ?_ ?_)
    · cbv; all_goals simp
    cbv
    refine E.q (QCalls.of_le (and_yes la p (selfM la) hp hself) ?_ ?_)
    · cbv; all_goals simp
    cbv
    refine E.d 13 (by kernel_rfl) ?_
    cbv
    refine E.q (QCalls.of_le (none_ok la hl64) ?_ ?_)
    · cbv; all_goals simp
    cbv
    refine E.q (QCalls.of_le (same_ok la la (andM la p (selfM la)) (List.replicate la 0#64)) ?_ ?_)
    · cbv; all_goals simp
    cbv
    have hne : ¬ andM la p (selfM la) = List.replicate la 0#64 := fun h => by
      have := (hacy).2 ⟨hf, hround.1 h⟩
      rw [ha] at this; cases this
    refine br_f (by simp [hne]) ?_
    cbv
    refine E.q (QCalls.of_le (acyclic_ok la rows) ?_ ?_)
    · cbv; all_goals simp
    cbv
    refine br_f (by simp [ha]) ?_
    cbv
    refine br_t (rfl) ?_
    cbv
    refine hF ?_
    cbv
    simp
  obtain ⟨tl, ht1, ht2, ht3, ht4, ht5⟩ := sort_ex ha
  have hsrt : Srt rows tl := ⟨ht2, ht3, ht4, ht5⟩
  have hmapl : (tl.map fun (k : Nat) => (k : Int)).length = tl.length := by simp
  have htg : ∀ i, i < tl.length → ((tl.map fun (k : Nat) => (k : Int)).getD i 0) = ((tl.getD i 0 : Nat) : Int) := fun i hi => by simp [hi]
  generalize (tl.map fun (k : Nat) => (k : Int)) = L at hmapl htg ht1
  refine E.c (SCalls.of_le (sort_yes hγ la rows ha L ht1) ?_ ?_)
  · cbv; all_goals simp
  cbv
  refine E.da 6 24 (by kernel_rfl) (by kernel_rfl) rfl rfl rfl ?_
  cbv
  refine E.q (QCalls.of_le (self_in la hl64) ?_ ?_)
  · cbv; all_goals simp
  cbv
  refine E.q (QCalls.of_le (and_yes la p (selfM la) hp hself) ?_ ?_)
  · cbv; all_goals simp
  cbv
  refine E.d 13 (by kernel_rfl) ?_
  cbv
  refine E.q (QCalls.of_le (none_ok la hl64) ?_ ?_)
  · cbv; all_goals simp
  cbv
  refine E.q (QCalls.of_le (same_ok la la (andM la p (selfM la)) (List.replicate la 0#64)) ?_ ?_)
  · cbv; all_goals simp
  cbv
  have heq : andM la p (selfM la) = List.replicate la 0#64 := hround.2 (hacy.1 ha).2
  refine br_f (by simp [heq, fits_zero hl64]) ?_
  cbv
  refine E.q (QCalls.of_le (acyclic_ok la rows) ?_ ?_)
  · cbv; all_goals simp
  cbv
  refine br_f (by simp [ha]) ?_
  cbv
  clear hacy hpl hpe hpt e1 e2 e3 hpo hround hrb heq hpp ht1 ht2 ht3 ht4 ht5 hp
  refine br_f (rfl) ?_
  cbv
  refine ⟨fun _ => by simp; omega, ?_⟩
  have htl : ∀ i, i < tl.length → tl.getD i 0 < la := fun i hi => by
    have := (hsrt.mem (tl.getD i 0)).1 (by simp [hi])
    omega
  have hlen : tl.length = la := by rw [hsrt.len, hla]
  refine E.loop (ι := Nat × List Int × BitVec 64) (fun j => j.1 ≤ tl.length ∧ j.2.1.length = la ∧ (∀ k < j.1, j.2.1.getD (tl.getD k 0) 0 = k) ∧ ∀ p, j.2.2.getLsbD p = true ↔ ∃ k < j.1, tl.getD k 0 = p) (fun j => tl.length - j.1)
    (fun j => [(11, .u fun _ => j.2.2), (12, .i fun _ => (j.1 : Int))]) (fun j => [.box (encRel la rows), .box (encRel m o), .box (encRel la p), .box (encRel la (andM la p (selfM la))), .run 0 1 fun _ => is j.2.1])
    (0, List.replicate la 0, 0#64) rfl (fun _ => rfl) ⟨Nat.zero_le _, by simp, by simp, by simp⟩ ?_ fun j hj I hI => ?_
  · cbv
    simp [is]
  obtain ⟨i, at_, seen⟩ := j
  obtain ⟨hj1, hj2, hj3, hj4⟩ := hj
  simp only at hj1 hj2 hj3 hj4
  cbv
  refine ⟨fun _ h4 => ?_, fun _ h4 => ?_⟩
  · cbv
    have hi : i < tl.length := by simp at h4; omega
    have hi' : i < L.length := by omega
    have hv := htl i hi
    have hg := htg i hi
    have hsh : (BitVec.ofInt 64 ((tl.getD i 0 : Nat) : Int)).toNat = tl.getD i 0 := by simp; simp at hv; omega
    have hfresh : seen.getLsbD (tl.getD i 0) = false := by
      cases hb : seen.getLsbD (tl.getD i 0) with
      | false => rfl
      | true =>
        obtain ⟨k, hk, e⟩ := (hj4 _).1 hb
        have hk' : k < tl.length := by omega
        simp only [List.getD_eq_getElem?_getD, List.getElem?_eq_getElem hk', List.getElem?_eq_getElem hi, Option.getD_some] at e
        have := (List.getElem_inj hsrt.nd).1 e
        omega
    generalize hx : tl.getD i 0 = x at hv hg hsh hfresh
    refine E.d 25 (by kernel_rfl) ?_
    cbv
    refine ⟨fun _ => by simp; omega, fun _ => by rw [nct, is_get _ i hi']; rfl, ?_⟩
    simp only [nct, is_get _ i hi', at_i, hg]
    refine br_f (by simp) ?_
    cbv
    refine ⟨fun _ => by simp; omega, fun _ => by rw [nct, is_get _ i hi']; rfl, ?_⟩
    simp only [nct, is_get _ i hi', at_i, hg]
    refine br_f (by simp; omega) ?_
    cbv
    refine ⟨fun _ => by simp; omega, fun _ => by rw [nct, is_get _ i hi']; rfl, fun _ => by simp, ?_⟩
    simp only [nct, is_get _ i hi', at_i, hg, hsh, nc]
    have hsn : decide (seen >>> x % BitVec.ofInt 64 2 = BitVec.ofInt 64 1) = false := by
      have := cnt_full_bits seen x
      rw [hfresh] at this
      simpa using this
    refine br_f (hsn) ?_
    cbv
    refine ⟨fun _ => by simp; omega, fun _ => by rw [nct, is_get _ i hi']; rfl, fun _ => by simp; omega, fun _ => by rw [nct, is_get _ i hi']; rfl, ?_⟩
    simp only [nct, is_get _ i hi', at_i, hg, hsh, nc]
    have hxa : x < at_.length := by omega
    refine ⟨fun _ => by simp; omega, fun _ => ⟨by first | rfl | trivial, by simp; omega, by
      simp only [Int.toNat_natCast, Nat.zero_add, is_get _ x hxa, nct]; rfl⟩, ?_⟩
    have hset : ∀ k < i + 1, (at_.set x (i : Int)).getD (tl.getD k 0) 0 = k := fun k hk => by
      by_cases e : k = i
      · subst e; rw [hx]; simp [hxa]
      · have hki : k < i := by omega
        have hne : x ≠ tl.getD k 0 := fun e' => by
          have := (hj4 x).2 ⟨k, hki, e'.symm⟩
          rw [hfresh] at this; cases this
        have := hj3 k hki
        rw [List.getD_eq_getElem?_getD, List.getElem?_set_ne hne, ← List.getD_eq_getElem?_getD]
        exact this
    have hbits : ∀ p, (seen ||| 1#64 <<< x).getLsbD p = true ↔ ∃ k < i + 1, tl.getD k 0 = p := fun p => by
      rw [BitVec.getLsbD_or, Bool.or_eq_true, hj4]
      constructor
      · rintro (⟨k, h1, h2⟩ | h)
        · exact ⟨k, by omega, h2⟩
        · have hp64 : p < 64 := by
            rcases Nat.lt_or_ge p 64 with h' | h'
            · exact h'
            · rw [BitVec.getLsbD_of_ge _ _ h'] at h; cases h
          rw [one_shl_bit x p hp64] at h
          exact ⟨i, by omega, by rw [hx]; simpa using h⟩
      · rintro ⟨k, h1, h2⟩
        by_cases e : k = i
        · subst e
          right
          rw [hx] at h2; subst h2
          rw [one_shl_bit x x (by omega)]; simp
        · left; exact ⟨k, by omega, h2⟩
    refine hI (i + 1, at_.set x (i : Int), seen ||| 1#64 <<< x) ⟨by simp; omega, by simpa using hj2, hset, hbits⟩ (by simp; omega) ?_
    cbv
    clear hI
    simp only [Nat.zero_add, nct, is_get _ x hxa, at_i, upd_i, is_set, is_of, nc, Int.toNat_natCast]
    simp only [implies_true, and_true, true_and, forall_const]
    exact ⟨rfl, w64_of (by omega) (by omega)⟩
  · cbv
    clear hI
    have hi : i = tl.length := by simp at h4; omega
    subst hi
    have hord : ∀ a b, bit rows a b = true → ∃ x y : Nat, a < la ∧ b < la ∧ at_.getD a 0 = x ∧ at_.getD b 0 = y ∧ x < y := fun a b hab => by
      have hb := fits_bits hf hab
      obtain ⟨x, hx, ex⟩ := List.mem_iff_getElem.1 ((hsrt.mem a).2 hb.1)
      obtain ⟨y, hy, ey⟩ := List.mem_iff_getElem.1 ((hsrt.mem b).2 hb.2)
      have h1 := hj3 x hx
      have h2 := hj3 y hy
      simp only [List.getD_eq_getElem?_getD, List.getElem?_eq_getElem hx, List.getElem?_eq_getElem hy, Option.getD_some, ex, ey] at h1 h2
      refine ⟨x, y, by omega, by omega, by rw [List.getD_eq_getElem?_getD]; exact h1, by rw [List.getD_eq_getElem?_getD]; exact h2, ?_⟩
      rcases Nat.lt_or_ge x y with h | h
      · exact h
      · have := hsrt.ord y x h hx
        rw [ex, ey, hab] at this; cases this
    have hML : (pairsM rows).length < 100000 := by
      have := prows_len rows rows.length
      unfold pairsM; omega
    have hMg : ∀ k, k < (pairsM rows).length → ∃ a b : Nat, (pairsM rows).getD k (0, 0) = ((a : Int), (b : Int)) ∧ bit rows a b = true := fun k hk => by
      have := pairs_mem (getD_mem (d := ((0 : Int), (0 : Int))) hk)
      exact this
    refine E.c (SCalls.of_le (pairs_yes hγ la rows hf) ?_ ?_)
    · cbv; all_goals simp
    cbv
    generalize pairsM rows = M at hML hMg
    refine E.loop (ι := Nat) (fun k => k ≤ M.length) (fun k => M.length - k) (fun k => [(14, .i fun _ => (k : Int))])
      (fun _ => [.box (encRel la rows), .box (encRel m o), .box (encRel la p), .box (encRel la (andM la p (selfM la))), .run 0 1 fun _ => is at_]) 0 rfl (fun _ => rfl) (Nat.zero_le _) ?_ fun k hk I hI => ?_
    · cbv
      simp
    cbv
    refine ⟨fun _ h5 => ?_, fun _ h5 => ?_⟩
    · cbv
      have hkk : k < M.length := by simp at h5; omega
      obtain ⟨a, b, hab, hb⟩ := hMg k hkk
      obtain ⟨x, y, h1, h2, h3, h4', h6⟩ := hord a b hb
      refine E.d 17 (by kernel_rfl) ?_
      cbv
      simp only [nct, ps_get _ k hkk, hab, at_p0, at_p1, Nat.zero_add]
      have ga : (is at_).l.getD a .any = .i fun _ => (x : Int) := by rw [is_get _ a (by omega), h3]
      have gb : (is at_).l.getD b .any = .i fun _ => (y : Int) := by rw [is_get _ b (by omega), h4']
      simp only [ga, gb, at_i]
      refine ⟨fun _ => by simp; omega, fun _ => rfl, fun _ => by simp only [nc]; omega, fun _ => by simp; omega, fun _ => rfl, fun _ => by simp; omega, fun _ => rfl, fun _ => by simp only [nc]; omega, fun _ => by simp; omega, fun _ => rfl, ?_⟩
      refine br_f (by simp; omega) ?_
      cbv
      refine hI (k + 1) (by omega) (by omega) ?_
      cbv
      clear hI
      simp
      exact w64_of (by omega) (by omega)
    · cbv
      refine hF ?_
      cbv
      clear hI
      intro _
      simp
      omega
end Go.AL.Rl
