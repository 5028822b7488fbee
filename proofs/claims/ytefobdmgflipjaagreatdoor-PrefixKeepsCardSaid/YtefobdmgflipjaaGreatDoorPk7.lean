import Derived.Test.YtefobdmgflipjaaGreatDoorPk6
set_option linter.unusedVariables false
set_option linter.unusedSimpArgs false
namespace Go.AL.Rl
open Go Go.AL Go.Proofs
set_option maxRecDepth 100000
set_option maxHeartbeats 3200000

theorem range_down (p : Nat → Bool) : ∀ n, (∀ j < n, p j = true → ∀ i < j, p i = true) → (List.range n).filter p = List.range ((List.range n).filter p).length ∧ ((List.range n).filter p).length ≤ n ∧ ∀ j < n, (p j = true ↔ j < ((List.range n).filter p).length)
 | 0, _ => by simp
 | n + 1, h => by
  obtain ⟨h1, h2, h3⟩ := range_down p n fun j hj => h j (by omega)
  rw [List.range_succ, List.filter_append]
  cases hn : p n with
  | true =>
   have hall : ∀ j < n, j < ((List.range n).filter p).length := fun j hj => (h3 j hj).1 (h n (by omega) hn j hj)
   have hlen : ((List.range n).filter p).length = n := by
    rcases Nat.lt_or_ge ((List.range n).filter p).length n with h4 | h4
    ·exact absurd (hall _ h4) (Nat.lt_irrefl _)
    ·omega
   rw [List.filter_cons_of_pos hn, List.filter_nil, List.length_append, hlen, h1, hlen]
   refine ⟨by rw [← List.range_succ]; rfl, by simp, fun j hj => ?_⟩
   simp only [List.length_singleton]
   rcases Nat.lt_or_ge j n with h4 | h4
   ·exact ⟨fun _ => hj, fun _ => (h3 j h4).2 (hall j h4)⟩
   ·obtain rfl : j = n := by omega
    exact ⟨fun _ => hj, fun _ => hn⟩
  | false =>
   rw [List.filter_cons_of_neg (by rw [hn]; simp), List.filter_nil, List.append_nil]
   refine ⟨h1, by omega, fun j hj => ?_⟩
   rcases Nat.lt_or_ge j n with h4 | h4
   ·exact h3 j h4
   ·obtain rfl : j = n := by omega
    rw [hn]
    constructor
    ·intro h; cases h
    ·intro h; omega
def kQ (g : Gr) (l : List EId) (t : Nat) : Nat := (keepP l t (g.th.getD t []).length).length
theorem eid_eq {d : EId} (h1 : 1 ≤ d.t) (h2 : 0 ≤ d.i) : (⟨(((d.t - 1).toNat : Nat) : Int) + 1, ((d.i.toNat : Nat) : Int)⟩ : EId) = d := EId.ext' (by simp only; omega) (by simp only; omega)
theorem evT_mk {g : Gr} {t i : Nat} : evT g ⟨(t : Int) + 1, (i : Int)⟩ ↔ t < g.th.length ∧ i < (g.th.getD t []).length := by
 unfold evT
 have : (((⟨(t : Int) + 1, (i : Int)⟩ : EId).t - 1).toNat) = t := by simp only; omega
 rw [this]
 simp only
 omega
theorem take_getD {α : Type} (l : List α) (d : α) {k i : Nat} (h : i < k) : (l.take k).getD i d = l.getD i d := by
 simp [List.getElem?_take, h]
theorem map_take {α : Type} (l : List α) (d : α) (k : Nat) (h : k ≤ l.length) : (List.range k).map (fun j => l.getD j d) = l.take k := by
 apply List.ext_getElem
 ·simp; omega
 ·intro i h1 h2
  simp only [List.length_map, List.length_range] at h1
  simp [show i < l.length by omega]
section
variable {g : Gr} {l : List EId} (hg : GOk g) (hC : ClG g l)
include hg hC
theorem keepP_eq (t : Nat) (ht : t < g.th.length) : keepP l t (g.th.getD t []).length = List.range (kQ g l t) ∧ kQ g l t ≤ (g.th.getD t []).length ∧ ∀ j < (g.th.getD t []).length, ((⟨(t : Int) + 1, (j : Int)⟩ : EId) ∈ l ↔ j < kQ g l t) := by
 have _hg := hg
 have := range_down (fun j => decide ((⟨(t : Int) + 1, (j : Int)⟩ : EId) ∈ l)) (g.th.getD t []).length fun j hj h i hi => by
  rw [decide_eq_true_eq] at h ⊢
  exact hC.2.2 _ h _ (evT_mk.2 ⟨ht, by omega⟩) (.inl ⟨rfl, by simp only; omega⟩)
 simp only [decide_eq_true_eq] at this
 exact this
theorem kQ_le (t : Nat) (ht : t < g.th.length) : kQ g l t ≤ (g.th.getD t []).length := (keepP_eq hg hC t ht).2.1
theorem keepTh_eq (t : Nat) (ht : t < g.th.length) : keepTh g l t (g.th.getD t []).length = (g.th.getD t []).take (kQ g l t) := by
 obtain ⟨h1, h2, _⟩ := keepP_eq hg hC t ht
 unfold keepTh
 rw [h1, map_take _ _ _ h2]
theorem keepFr_eq (t : Nat) (ht : t < g.th.length) : keepFr g l t (g.th.getD t []).length = (g.fr.getD t []).take (kQ g l t) := by
 obtain ⟨h1, h2, _⟩ := keepP_eq hg hC t ht
 have h3 := (hg.events t ht).1
 unfold keepFr
 rw [h1, map_take _ _ _ (by omega)]
theorem kth (t : Nat) (ht : t < g.th.length) : (keepM g l).th.getD t [] = (g.th.getD t []).take (kQ g l t) := by
 rw [keep_th, if_pos ht, keepTh_eq hg hC t ht]
theorem kth_len (t : Nat) (ht : t < g.th.length) : ((keepM g l).th.getD t []).length = kQ g l t := by
 rw [kth hg hC t ht, List.length_take]
 have := kQ_le hg hC t ht
 omega
theorem kfr (t : Nat) (ht : t < g.th.length) : (keepM g l).fr.getD t [] = (g.fr.getD t []).take (kQ g l t) := by
 rw [← keepFr_eq hg hC t ht]
 unfold keepM
 simp [ht]
theorem kev (t j : Nat) (ht : t < g.th.length) (hj : j < kQ g l t) : ((keepM g l).th.getD t []).getD j ev0 = (g.th.getD t []).getD j ev0 := by
 rw [kth hg hC t ht]
 simp [List.getElem?_take, hj]
theorem k_in (t j : Nat) (ht : t < g.th.length) (hj : j < (g.th.getD t []).length) : (⟨(t : Int) + 1, (j : Int)⟩ : EId) ∈ l ↔ j < kQ g l t := (keepP_eq hg hC t ht).2.2 j hj
theorem k_evT (d : EId) : evT (keepM g l) d ↔ d ∈ l := by
 constructor
 ·intro h
  have h1 := h.1
  have h2 := h.2.1
  have h3 := h.2.2.1
  have h4 := h.2.2.2
  rw [keep_thl] at h2
  rw [kth_len hg hC _ (by omega)] at h4
  have h5 := kQ_le hg hC (d.t - 1).toNat (by omega)
  have := (k_in hg hC (d.t - 1).toNat d.i.toNat (by omega) (by omega)).2 (by omega)
  rwa [eid_eq h1 h3] at this
 ·intro h
  obtain ⟨h1, h2, h3, h4⟩ := hC.2.1 d h
  have h5 := (k_in hg hC (d.t - 1).toNat d.i.toNat (by omega) (by omega)).1 (by rw [eid_eq h1 h3]; exact h)
  refine ⟨h1, by rw [keep_thl]; exact h2, h3, ?_⟩
  rw [kth_len hg hC _ (by omega)]
  omega
omit hg hC in
theorem evT_t {g : Gr} {d : EId} (h : evT g d) : d.t ≠ 0 := by have := h.1; omega
omit hg hC in
theorem event_T {g : Gr} {d : EId} (h : evT g d) : eventM g d = some ((g.th.getD (d.t - 1).toNat []).getD d.i.toNat ev0) := by
 unfold eventM
 obtain ⟨h1, h2, h3, h4⟩ := h
 rw [if_neg (by omega), if_pos ⟨by omega, h2, h3, h4⟩]
theorem k_event (d : EId) (h : d ∈ l) : eventM (keepM g l) d = eventM g d := by
 have h0 := hC.2.1 d h
 have hk := (k_evT hg hC d).2 h
 rw [event_T hk, event_T h0]
 have h1 := hk.2.2.2
 obtain ⟨a1, a2, a3, a4⟩ := h0
 rw [kth_len hg hC _ (by omega)] at h1
 rw [kev hg hC _ _ (by omega) (by omega)]
omit hg hC in
theorem k_event0 (d : EId) (h : d.t = 0) : eventM (keepM g l) d = eventM g d := by
 unfold eventM
 rw [if_pos h, if_pos h]
 rfl
theorem k_src (d : EId) (h : d ∈ l) : srcOf (keepM g l) d = srcOf g d := by
 obtain ⟨a1, a2, a3, a4⟩ := hC.2.1 d h
 have h1 := ((k_evT hg hC d).2 h).2.2.2
 rw [kth_len hg hC _ (by omega)] at h1
 unfold srcOf
 rw [kfr hg hC _ (by omega)]
 exact take_getD _ _ (by omega)
/-- where a source lies, there is an event or an initial write -/
theorem k_source (d : EId) (h : d ∈ l) (hr : readsM ((eventM g d).getD ev0) = true) : eventM (keepM g l) (srcOf g d) = eventM g (srcOf g d) := by
 have h0 := hC.2.1 d h
 have hm : d ∈ idsG g := by rw [idsG, List.mem_append]; exact .inr (evT_iff.1 h0)
 obtain ⟨w, hw, _⟩ := source_mem (src_ok hg hm (evT_t h0)) hr
 have hs : srcOf g d ∈ idsG g := idsG_mem.2 (by rw [hw]; rfl)
 rw [idsG, List.mem_append, idsI_mem] at hs
 rcases hs with hs | hs
 ·exact k_event0 _ hs.1
 ·exact k_event hg hC _ (hC.2.2 d h _ (evT_iff.2 hs) (.inr ⟨hr, rfl⟩))
theorem k_short : Short (keepM g l) := by
 have _hC := hC
 refine ⟨by rw [keep_thl]; exact hg.short.th, hg.short.init, fun x hx => ?_⟩
 obtain ⟨t, ht, e⟩ := List.getElem_of_mem hx
 have h1 := keep_le g l t
 have h2 := hg.short.at t
 rw [show (keepM g l).th.getD t [] = x by simp [ht, e]] at h1
 omega
theorem k_sources : sourcesOk (keepM g l) := by
 intro t ht i hi
 rw [keep_thl] at ht
 rw [kth_len hg hC t ht] at hi
 have hle := kQ_le hg hC t ht
 have hin := (k_in hg hC t i ht (by omega)).2 hi
 have hs := hg.sources t ht i (by omega)
 have e : ((keepM g l).fr.getD t []).getD i id0 = (g.fr.getD t []).getD i id0 := by
  rw [kfr hg hC t ht]; simp [List.getElem?_take, hi]
 rw [e]
 have es : srcOf g ⟨(t : Int) + 1, (i : Int)⟩ = (g.fr.getD t []).getD i id0 := by
  unfold srcOf
  have : (((⟨(t : Int) + 1, (i : Int)⟩ : EId).t - 1).toNat) = t := by simp only; omega
  rw [this]
  simp
 unfold sourceM at hs ⊢
 rw [k_event hg hC _ hin]
 by_cases hr : readsM ((eventM g ⟨(t : Int) + 1, (i : Int)⟩).getD ev0) = true
 ·rw [if_pos hr] at hs ⊢
  have := k_source hg hC _ hin hr
  rw [es] at this
  rw [this]
  exact hs
 ·rw [if_neg hr] at hs ⊢
  exact hs
theorem k_events : eventsOk (keepM g l) := by
 intro t ht
 rw [keep_thl] at ht
 have hle := kQ_le hg hC t ht
 have h1 := hg.events t ht
 refine ⟨by rw [kfr hg hC t ht, kth_len hg hC t ht, List.length_take]; omega, fun i hi => ?_⟩
 rw [kth_len hg hC t ht] at hi
 rw [kev hg hC t i ht hi]
 exact h1.2 i (by omega)
omit hg hC in
theorem qs_filter (n : Nat) (hn : n ≤ g.ord.length) : qsT (keepM g l) n = (qsT g n).filter fun p => decide (p.1 ∈ l) := by
 unfold qsT
 rw [List.filter_flatMap]
 simp only [List.flatMap]
 congr 1
 apply List.map_congr_left
 intro x hx
 have hx : x < g.ord.length := by have := List.mem_range.1 hx; omega
 have e : (keepM g l).ord.getD x [] = keepO l (g.ord.getD x []) := by simp [keepM, hx]
 rw [e, List.filter_map]
 rfl
omit hg hC in
theorem ws_nodup : ∀ t, ((wsT g t).map (·.1)).Nodup := by
 intro t
 unfold wsT List.Nodup
 rw [List.pairwise_map, List.pairwise_flatMap]
 refine ⟨fun k _ => ?_, List.nodup_range.imp fun {a b} hab x hx y hy e => ?_⟩
 ·unfold wsE
  rw [List.pairwise_flatMap]
  refine ⟨fun i _ => by split <;> simp, List.nodup_range.imp fun {a b} hab x hx y hy e => ?_⟩
  split at hx <;> simp at hx
  split at hy <;> simp at hy
  subst hx; subst hy
  simp at e
  omega
 ·obtain ⟨i, _, _, rfl⟩ := wsE_mem.1 hx
  obtain ⟨j, _, _, rfl⟩ := wsE_mem.1 hy
  simp at e
  omega
omit hg hC in
theorem nodup_of_map {α β : Type} {f : α → β} : ∀ {l : List α}, (l.map f).Nodup → l.Nodup := fun {l} h => by
 unfold List.Nodup at *
 rw [List.pairwise_map] at h
 exact h.imp fun hab e => hab (by rw [e])
end
theorem k_ok {g : Gr} {l : List EId} (hg : GOk g) (hC : ClG g l) : GOk (keepM g l) := by
 have hlo : (keepM g l).ord.length = (keepM g l).init.length := by
  show (g.ord.map (keepO l)).length = g.init.length
  rw [List.length_map]; exact hg.lord
 have hev := k_events hg hC
 refine ⟨k_short hg hC, by simp [keepM], hlo, hev, k_sources hg hC, (orders_perm hlo hev).2 ?_⟩
 have hp := (orders_perm hg.lord hg.events).1 hg.orders
 have e1 : (keepM g l).ord.length = g.ord.length := by simp [keepM]
 rw [e1, qs_filter _ (Nat.le_refl _), keep_thl]
 refine (hp.filter _).trans ?_
 refine (List.perm_ext_iff_of_nodup ((nodup_of_map (ws_nodup _)).filter _) (nodup_of_map (ws_nodup _))).2 fun p => ?_
 rw [List.mem_filter, decide_eq_true_eq, wsT_mem, wsT_mem]
 constructor
 ·rintro ⟨⟨t, ht, i, hi, hw, rfl⟩, hin⟩
  have hk := (k_in hg hC t i ht hi).1 hin
  refine ⟨t, ht, i, by rw [kth_len hg hC t ht]; exact hk, ?_, ?_⟩
  ·rw [kev hg hC t i ht hk]; exact hw
  ·rw [kev hg hC t i ht hk]
 ·rintro ⟨t, ht, i, hi, hw, rfl⟩
  rw [kth_len hg hC t ht] at hi
  rw [kev hg hC t i ht hi] at hw ⊢
  have hle := kQ_le hg hC t ht
  exact ⟨⟨t, ht, i, by omega, hw, rfl⟩, (k_in hg hC t i ht (by omega)).2 hi⟩
end Go.AL.Rl

namespace Go.AL.Rl
open Go Go.AL Go.Proofs
set_option maxRecDepth 100000
set_option maxHeartbeats 3200000

theorem sub_or {α : Type} : ∀ {l : List α} {x y : α}, x ∈ l → y ∈ l → x ≠ y → [x, y].Sublist l ∨ [y, x].Sublist l
 | [], _, _, h, _, _ => by cases h
 | a :: l, x, y, hx, hy, hne => by
  rcases List.mem_cons.1 hx with hx1 | hx1
  ·rcases List.mem_cons.1 hy with hy1 | hy1
   ·exact absurd (hx1.trans hy1.symm) hne
   ·rw [hx1]; exact .inl (List.Sublist.cons_cons _ (List.singleton_sublist.2 hy1))
  ·rcases List.mem_cons.1 hy with hy1 | hy1
   ·rw [hy1]; exact .inr (List.Sublist.cons_cons _ (List.singleton_sublist.2 hx1))
   ·exact (sub_or hx1 hy1 hne).imp (fun h => h.cons _) (fun h => h.cons _)
section
variable {g : Gr} {l : List EId} (hg : GOk g) (hC : ClG g l)
include hg hC
end
theorem Sta.ext' {a b : Sta} (h1 : a.g = b.g) (h2 : a.ms = b.ms) (h3 : a.half = b.half) : a = b := by cases a; cases b; simp_all
theorem rd_ok {g : Gr} (hg : GOk g) : Rd g := by
 have hs := hg.short
 have h1 := hs.th
 have h2 := hs.init
 have h3 := hg.lfr
 have h4 := hg.lord
 refine ⟨by omega, by omega, by omega, by omega, fun l hl => ?_, fun l hl => ?_, fun l hl => ?_⟩
 ·have := hs.ths l hl; omega
 ·obtain ⟨t, ht, e⟩ := List.getElem_of_mem hl
  have h5 := (hg.events t (by omega)).1
  have h6 := hs.at t
  rw [show g.fr.getD t [] = l by simp [ht, e]] at h5
  omega
 ·obtain ⟨x, hx, e⟩ := List.getElem_of_mem hl
  have h5 := hg.orders x (by omega)
  unfold orderedM at h5
  rw [Bool.and_eq_true, decide_eq_true_eq, decide_eq_true_eq] at h5
  have h6 := cntT_le (x : Int) hs.ths
  have h7 := h5.2
  rw [show g.ord.getD x [] = l by simp [hx, e]] at h7
  omega
theorem close_len (g : Gr) (l : List EId) : (closeM g l).length ≤ 64 := by
 unfold closeM; split
 ·exact tell_len _ _
 ·simp
end Go.AL.Rl

namespace Go.AL.Rl
open Go Go.AL Go.Proofs
set_option maxRecDepth 100000
set_option maxHeartbeats 1600000
variable {γ : Nat → Option AV}

structure Ft where
 a : Int
 b : Int
 br : Bool
def ft0 : Ft := ⟨0, 0, false⟩
def leadM (p : Nat → Bool) (n : Nat) : Option Nat := (List.range n).find? p
theorem leadM_succ (p : Nat → Bool) (n : Nat) : leadM p (n + 1) = (leadM p n).or (if p n = true then some n else none) := by
 unfold leadM
 rw [List.range_succ, List.find?_append]
 congr 1
 by_cases h : p n = true
 ·rw [if_pos h, List.find?_cons_of_pos h]
 ·rw [if_neg h, List.find?_cons_of_neg h]; rfl
theorem leadM_none {p : Nat → Bool} : ∀ {n : Nat}, (∀ k < n, p k = false) → leadM p n = none
 | 0, _ => rfl
 | n + 1, h => by rw [leadM_succ, leadM_none fun k hk => h k (by omega), h n (by omega)]; rfl
theorem leadM_some {p : Nat → Bool} {i : Nat} (hi : p i = true) (hb : ∀ k < i, p k = false) : ∀ {n : Nat}, i < n → leadM p n = some i
 | n + 1, h => by
  rw [leadM_succ]
  by_cases e : n = i
  ·subst e; rw [leadM_none hb, if_pos hi]; rfl
  ·rw [leadM_some hi hb (n := n) (by omega)]; rfl
theorem leadM_mem {p : Nat → Bool} {i : Nat} : ∀ {n : Nat}, leadM p n = some i → i < n ∧ p i = true ∧ ∀ k < i, p k = false
 | 0, h => by cases h
 | n + 1, h => by
  rw [leadM_succ] at h
  cases hf : leadM p n with
  | some j => rw [hf] at h; cases h; have := leadM_mem hf; exact ⟨by omega, this.2⟩
  | none =>
   rw [hf] at h
   by_cases hp : p n = true
   ·simp [hp] at h; subst h
    refine ⟨by omega, hp, fun k hk => ?_⟩
    have hn := List.find?_eq_none.1 hf k (by simpa using hk)
    simpa using hn
   ·simp [hp] at h
theorem leadM_nothing {p : Nat → Bool} {n : Nat} (h : leadM p n = none) : ∀ k < n, p k = false := fun k hk => by
 have hn := List.find?_eq_none.1 h k (by simpa using hk)
 simpa using hn
def ftOf : Option Nat → Ft
 | some i => ⟨i, -1, true⟩
 | none => ft0
def circF (rows : List (BitVec 64)) : Ft := ftOf (leadM (fun i => bit rows i i) rows.length)
def updB (V : Vw) (k : Nat) : Bool := decide ((V.ev.getD k ev0).kind = 3) && decide (V.pl.getD k 0 ≠ V.pl.getD (V.fr.getD k 0).toNat 0 + 1)
def updF (V : Vw) (n : Nat) : Ft := ftOf (leadM (updB V) n)
def cohB (hb eco : List (BitVec 64)) (a b : Nat) : Bool := decide (a ≠ b) && bit hb a b && bit eco b a
def cohR (hb eco : List (BitVec 64)) (a : Nat) : Option Nat := leadM (cohB hb eco a) eco.length
def cohF (hb eco : List (BitVec 64)) : Ft :=
 match leadM (fun a => (cohR hb eco a).isSome) hb.length with
 | some a => ⟨a, ((cohR hb eco a).getD 0 : Nat), true⟩
 | none => ft0
def togF (V : Vw) (n : Nat) : List (BitVec 64) := orM n [((n : Int), poF V n), ((n : Int), rfF V n), ((n : Int), coF V n), ((n : Int), frF V n)]
noncomputable def fltM (V : Vw) (n : Nat) (k : Int) : Ft :=
 if k = 2 then updF V n else if k = 3 then circF (porfF V n) else if k = 4 then circF (hbF V n) else if k = 5 then cohF (hbF V n) (ecoF V n) else if k = 6 then circF (plusM n (togF V n)) else ft0
def rulesM (m : Int) : List Int := if m = 1 then [1, 2, 6] else if m = 2 then [1, 2, 3, 4, 5] else []
structure Bk where
 rule : Int
 a : Int
 b : Int
 br : Bool
end Go.AL.Rl

namespace Go.AL.Rl
open Go Go.AL Go.Proofs
set_option maxRecDepth 100000
set_option maxHeartbeats 1600000
variable {γ : Nat → Option AV}

end Go.AL.Rl

namespace Go.AL.Rl
open Go Go.AL Go.Proofs
set_option maxRecDepth 100000
set_option maxHeartbeats 1600000
variable {γ : Nat → Option AV}

end Go.AL.Rl

namespace Go.AL.Rl
open Go Go.AL Go.Proofs
set_option maxRecDepth 100000
set_option maxHeartbeats 1600000
variable {γ : Nat → Option AV}

theorem ids14_ok (g : Gr) (hs : Short g) : Pure Tryz.prog γ false 84 [aGr g] (.vs 2 fun _ => ids (idsG g)) := by
 have hin := hs.init
 have hth := hs.th
 have hg : ∀ t, (g.th.getD t []).length ≤ 14 := hs.at
 obtain ⟨L, hL⟩ : ∃ L : Nat → List EId, ∀ x, L x = idsI x := ⟨_, fun _ => rfl⟩
 obtain ⟨L2, hL2⟩ : ∃ L2 : Nat → Nat → List EId, ∀ t i, L2 t i = idsI g.init.length ++ idsT g t ++ idsE t i := ⟨_, fun _ _ => rfl⟩
 have l0 : L 0 = [] := by rw [hL]; rfl
 have lS : ∀ x, L (x + 1) = L x ++ [⟨0, x⟩] := fun x => by rw [hL, hL, idsI_succ]
 have lL : ∀ x, (L x).length = x := fun x => by rw [hL, idsI_len]
 have lE : L g.init.length = L2 0 0 := by rw [hL, hL2]; simp [idsT, idsE]
 have mS : ∀ t i, L2 t (i + 1) = L2 t i ++ [⟨t + 1, i⟩] := fun t i => by rw [hL2, hL2, idsE_succ]; simp only [List.append_assoc]
 have mE : ∀ t, L2 t (g.th.getD t []).length = L2 (t + 1) 0 := fun t => by rw [hL2, hL2, idsT_succ]; simp [idsE]
 have mF : L2 g.th.length 0 = idsG g := by rw [hL2]; simp [idsE, idsG]
 have mL : ∀ t i, (L2 t i).length ≤ 6 + 14 * t + i := fun t i => by
  have := evsT_len hs t
  rw [hL2]; simp only [List.length_append, idsI_len, idsE_len, idsT_len]; omega
 obtain ⟨G, hG⟩ : ∃ G : List EId → Nat, ∀ l, G l = l.length := ⟨_, fun _ => rfl⟩
 have hG0 : G [] = 0 := by rw [hG]; rfl
 refine Pure.go (ty := ty) ty_eq mo Tryz.func84 rfl Tryz.ntmps84 Tryz.results84 Tryz.call84 (by simp) fun P C CQ D W F E hF => ?_
 cbv
 repeat' (first
  | (refine ⟨fun _ h_s => ?_, fun _ h_s => ?_⟩ <;> (cbv; (try simp only [nc] at *); try simp (disch := (first | omega | (simp only [lnS, zA, zM, zG, zP]; omega))) only [nc, nct, w64_of, zT, zZ, zM, rdS, at_agg, bofZ, bof1, bof0, zC, zS, reduceCtorEq, Bool.not_true, Bool.not_false, zD, zE, zB, zF, zN, zO, ne_eq, zQ, zL, zR, beq_iff_eq] at h_s))
  | (refine hF ?_; intro _; clear hF)
  | (refine hF ?_; cbv; clear hF)
  | (refine ⟨fun _ => ?_, ?_⟩; (· ((try simp only [nc] at *); first | done | omega | exact ⟨by omega, rfl⟩ | (simp (disch := (first | omega | (simp only [lnS, zA, zM, zG, zP]; omega))) only [nc, nct, w64_of, zT, zZ, zM, rdS, at_agg, bofZ, bof1, bof0, zC, zS]; first | done | omega | rfl | exact ⟨by omega, rfl⟩ | (simp; done) | (simp; omega)) | (intros; trivial))); (try (simp only [nc] at *)); (try simp (disch := (first | omega | (simp only [lnS, zA, zM, zG, zP]; omega))) only [nc, nct, w64_of, zT, zZ, zM, rdS, at_agg, bofZ, bof1, bof0, zC, zS]); (try cbv))
  | fail
 )
 refine E.w (AWP.ghostSlot 3 2 rfl (by omega) (E.loopSA (ι := Nat) (fun x => x ≤ g.init.length) (fun x => g.init.length - x) (fun x => [(4, .i fun _ => ((x : Nat) : Int)), (3, .sl 1 (G (L x)) 2 (fun _ => 0) fun _ => (L x).length)]) (fun x h => h.set 1 (.run (G (L x)) 2 fun _ => ids (L x))) 0 (fun _ => by first | rfl | simp) (Nat.zero_le _) ?_ fun x hx I hI => ?_))
 ·cbv; simp [l0, hG0, ids, LV.of]
 cbv
 have e1 := lS x
 have e2 := lL x
 skip
 repeat' (first
  | (refine hI (x + 1) ?_ ?_ ?_; rotate_left 1; (· ((try simp only [nc] at *); omega)); (cbv; clear hI; (try clear hF); (try simp only [nc] at *); (try simp (disch := (first | omega | (simp only [lnS, zA, zM, zG, zP]; omega))) only [nc, nct, w64_of, zT, zZ, zM, rdS, at_agg, bofZ, bof1, bof0, zC, zS, implies_true, and_true, true_and, forall_const])); rotate_left 1; (try ((try simp only [nc] at *); omega)))
  | (refine ⟨fun _ h_s => ?_, fun _ h_s => ?_⟩ <;> (cbv; (try simp only [nc] at *); try simp (disch := (first | omega | (simp only [lnS, zA, zM, zG, zP]; omega))) only [nc, nct, w64_of, zT, zZ, zM, rdS, at_agg, bofZ, bof1, bof0, zC, zS, reduceCtorEq, Bool.not_true, Bool.not_false, zD, zE, zB, zF, zN, zO, ne_eq, zQ, zL, zR, beq_iff_eq] at h_s))
  | (refine hF ?_; intro _; clear hF)
  | (refine hF ?_; cbv; clear hF)
  | (refine ⟨fun _ => ?_, ?_⟩; (· ((try simp only [nc] at *); first | done | omega | exact ⟨by omega, rfl⟩ | (simp (disch := (first | omega | (simp only [lnS, zA, zM, zG, zP]; omega))) only [nc, nct, w64_of, zT, zZ, zM, rdS, at_agg, bofZ, bof1, bof0, zC, zS]; first | done | omega | rfl | exact ⟨by omega, rfl⟩ | (simp; done) | (simp; omega)) | (intros; trivial) | exact ⟨by first | trivial | rfl, by first | trivial | rfl | simp, by first | trivial | simp, by simp; omega, by simp; omega, by simp [AV.flat, AV.cells, AV.one]⟩)); (try (simp only [nc] at *)); (try simp (disch := (first | omega | (simp only [lnS, zA, zM, zG, zP]; omega))) only [nc, nct, w64_of, zT, zZ, zM, rdS, at_agg, bofZ, bof1, bof0, zC, zS]); (try cbv))
  | fail
 )
 ·refine ⟨⟨⟨by rw [hG, hG, e1]; simp, ?_⟩, by push_cast; rfl⟩, by rw [hG, hG, e1]; simp, ?_⟩
  ·rw [e1]; simp [setAll]
  ·show LV.of ((ids (L x)).l ++ (ids [⟨0, (x : Int)⟩]).l) = _
   rw [ids_app, ids_of, e1]
 clear hI
 have ex : x = g.init.length := by ((try simp only [nc] at *); omega)
 subst ex
 rw [lE]
 refine E.loopS (ι := Nat) (fun t => t ≤ g.th.length) (fun t => g.th.length - t) (fun t => [(5, .i fun _ => ((t : Nat) : Int)), (3, .sl 1 (G (L2 t 0)) 2 (fun _ => 0) fun _ => (L2 t 0).length)]) (fun t h => h.set 1 (.run (G (L2 t 0)) 2 fun _ => ids (L2 t 0))) 0 (fun _ => by first | rfl | simp) (Nat.zero_le _) ?_ fun t ht I1 hI1 => ?_
 ·cbv; simp
 cbv
 have hgt := hg t
 repeat' (first
  | (refine ⟨fun _ h_s => ?_, fun _ h_s => ?_⟩ <;> (cbv; (try simp only [nc] at *); try simp (disch := (first | omega | (simp only [lnS, zA, zM, zG, zP]; omega))) only [nc, nct, w64_of, zT, zZ, zM, rdS, at_agg, bofZ, bof1, bof0, zC, zS, reduceCtorEq, Bool.not_true, Bool.not_false, zD, zE, zB, zF, zN, zO, ne_eq, zQ, zL, zR, beq_iff_eq] at h_s))
  | (refine hF ?_; intro _; clear hF)
  | (refine hF ?_; cbv; clear hF)
  | (refine ⟨fun _ => ?_, ?_⟩; (· ((try simp only [nc] at *); first | done | omega | exact ⟨by omega, rfl⟩ | (simp (disch := (first | omega | (simp only [lnS, zA, zM, zG, zP]; omega))) only [nc, nct, w64_of, zT, zZ, zM, rdS, at_agg, bofZ, bof1, bof0, zC, zS]; first | done | omega | rfl | exact ⟨by omega, rfl⟩ | (simp; done) | (simp; omega)) | (intros; trivial) | exact ⟨by first | trivial | rfl, by first | trivial | rfl | simp, by first | trivial | simp, by simp; omega, by simp; omega, by simp [AV.flat, AV.cells, AV.one]⟩)); (try (simp only [nc] at *)); (try simp (disch := (first | omega | (simp only [lnS, zA, zM, zG, zP]; omega))) only [nc, nct, w64_of, zT, zZ, zM, rdS, at_agg, bofZ, bof1, bof0, zC, zS]); (try cbv))
  | fail
 )
 ·refine E.loopS (ι := Nat) (fun i => i ≤ (g.th.getD t []).length) (fun i => (g.th.getD t []).length - i) (fun i => [(6, .i fun _ => ((i : Nat) : Int)), (3, .sl 1 (G (L2 t i)) 2 (fun _ => 0) fun _ => (L2 t i).length)]) (fun i h => h.set 1 (.run (G (L2 t i)) 2 fun _ => ids (L2 t i))) 0 (fun _ => by first | rfl | simp) (Nat.zero_le _) ?_ fun i hi I2 hI2 => ?_
  ·cbv; simp
  cbv
  have f1 := mS t i
  have f2 := mL t i
  have f3 := mE t
  repeat' (first
   | (refine hI2 (i + 1) ?_ ?_ ?_; rotate_left 1; (· ((try simp only [nc] at *); omega)); (cbv; clear hI2; (try clear hF); (try simp only [nc] at *); (try simp (disch := (first | omega | (simp only [lnS, zA, zM, zG, zP]; omega))) only [nc, nct, w64_of, zT, zZ, zM, rdS, at_agg, bofZ, bof1, bof0, zC, zS, implies_true, and_true, true_and, forall_const])); rotate_left 1; (try ((try simp only [nc] at *); omega)))
   | (refine ⟨fun _ h_s => ?_, fun _ h_s => ?_⟩ <;> (cbv; (try simp only [nc] at *); try simp (disch := (first | omega | (simp only [lnS, zA, zM, zG, zP]; omega))) only [nc, nct, w64_of, zT, zZ, zM, rdS, at_agg, bofZ, bof1, bof0, zC, zS, reduceCtorEq, Bool.not_true, Bool.not_false, zD, zE, zB, zF, zN, zO, ne_eq, zQ, zL, zR, beq_iff_eq] at h_s))
   | (refine hF ?_; intro _; clear hF)
   | (refine hF ?_; cbv; clear hF)
   | (refine ⟨fun _ => ?_, ?_⟩; (· ((try simp only [nc] at *); first | done | omega | exact ⟨by omega, rfl⟩ | (simp (disch := (first | omega | (simp only [lnS, zA, zM, zG, zP]; omega))) only [nc, nct, w64_of, zT, zZ, zM, rdS, at_agg, bofZ, bof1, bof0, zC, zS]; first | done | omega | rfl | exact ⟨by omega, rfl⟩ | (simp; done) | (simp; omega)) | (intros; trivial) | exact ⟨by first | trivial | rfl, by first | trivial | rfl | simp, by first | trivial | simp, by simp; omega, by simp; omega, by simp [AV.flat, AV.cells, AV.one]⟩)); (try (simp only [nc] at *)); (try simp (disch := (first | omega | (simp only [lnS, zA, zM, zG, zP]; omega))) only [nc, nct, w64_of, zT, zZ, zM, rdS, at_agg, bofZ, bof1, bof0, zC, zS]); (try cbv))
   | fail
  )
  ·refine ⟨⟨⟨by rw [hG, hG, f1]; simp, ?_⟩, by push_cast; rfl⟩, by rw [hG, hG, f1]; simp, ?_⟩
   ·rw [f1]; simp [setAll]
   ·show LV.of ((ids (L2 t i)).l ++ (ids [⟨(t : Int) + 1, (i : Int)⟩]).l) = _
    rw [ids_app, ids_of, f1]
  ·have ei : i = (g.th.getD t []).length := by ((try simp only [nc] at *); omega)
   subst ei
   rw [f3]
   repeat' (first
    | (refine hI1 (t + 1) ?_ ?_ ?_; rotate_left 1; (· ((try simp only [nc] at *); omega)); (cbv; clear hI1; (try clear hF); (try simp only [nc] at *); (try simp (disch := (first | omega | (simp only [lnS, zA, zM, zG, zP]; omega))) only [nc, nct, w64_of, zT, zZ, zM, rdS, at_agg, bofZ, bof1, bof0, zC, zS, implies_true, and_true, true_and, forall_const])); rotate_left 1; (try ((try simp only [nc] at *); omega)))
    | (refine ⟨fun _ h_s => ?_, fun _ h_s => ?_⟩ <;> (cbv; (try simp only [nc] at *); try simp (disch := (first | omega | (simp only [lnS, zA, zM, zG, zP]; omega))) only [nc, nct, w64_of, zT, zZ, zM, rdS, at_agg, bofZ, bof1, bof0, zC, zS, reduceCtorEq, Bool.not_true, Bool.not_false, zD, zE, zB, zF, zN, zO, ne_eq, zQ, zL, zR, beq_iff_eq] at h_s))
    | (refine hF ?_; intro _; clear hF)
    | (refine hF ?_; cbv; clear hF)
    | (refine ⟨fun _ => ?_, ?_⟩; (· ((try simp only [nc] at *); first | done | omega | exact ⟨by omega, rfl⟩ | (simp (disch := (first | omega | (simp only [lnS, zA, zM, zG, zP]; omega))) only [nc, nct, w64_of, zT, zZ, zM, rdS, at_agg, bofZ, bof1, bof0, zC, zS]; first | done | omega | rfl | exact ⟨by omega, rfl⟩ | (simp; done) | (simp; omega)) | (intros; trivial) | exact ⟨by first | trivial | rfl, by first | trivial | rfl | simp, by first | trivial | simp, by simp; omega, by simp; omega, by simp [AV.flat, AV.cells, AV.one]⟩)); try cbv)
    | fail
   )
   push_cast; rfl
 ·have et : t = g.th.length := by ((try simp only [nc] at *); omega)
  subst et
  rw [mF]
  intro _
  refine ⟨rfl, by simp, ?_⟩
  rw [List.drop_zero, List.take_of_length_le (by simp)]
end Go.AL.Rl

namespace Go.AL.Rl
open Go Go.AL Go.Proofs
set_option maxRecDepth 100000
set_option maxHeartbeats 1600000
variable {γ : Nat → Option AV}

abbrev aV15 (g : Gr) (L : List EId) (E : List Ev) (n : Nat) : AV := .agg [.vs 1 fun _ => is g.init, .vs 1 fun _ => evss g.th, .vs 1 fun _ => idss g.fr, .vs 1 fun _ => idss g.ord, .vs 2 fun _ => ids L, .vs 5 fun _ => evs E, .i fun _ => (n : Int)]
theorem event_of {g : Gr} (hg : GOk g) (i : Nat) (hi : i < nG g) :
  (¬ 0 < ((idsG g).getD i id0).t ∧ 0 ≤ ((idsG g).getD i id0).i ∧ ((idsG g).getD i id0).i.toNat < g.init.length ∧ (evsG g).getD i ev0 = ⟨2, ((idsG g).getD i id0).i, 1, 0, g.init.getD ((idsG g).getD i id0).i.toNat 0⟩) ∨
  (0 < ((idsG g).getD i id0).t ∧ ((idsG g).getD i id0).t ≤ 4 ∧ 0 ≤ ((idsG g).getD i id0).t - 1 ∧ (((idsG g).getD i id0).t - 1).toNat < g.th.length ∧ 0 ≤ ((idsG g).getD i id0).i ∧ ((idsG g).getD i id0).i.toNat < (g.th.getD (((idsG g).getD i id0).t - 1).toNat []).length ∧
   (evsG g).getD i ev0 = (g.th.getD (((idsG g).getD i id0).t - 1).toNat []).getD ((idsG g).getD i id0).i.toNat ev0) := by
 have he := evsG_get g i hi
 have hth := hg.short.th
 unfold eventM at he
 split at he
 ·rename_i h0
  split at he
  ·rename_i hc
   exact .inl ⟨by omega, hc.1, by omega, (Option.some.inj he).symm⟩
  ·cases he
 ·rename_i h0
  split at he
  ·rename_i hc
   exact .inr ⟨hc.1, by omega, by omega, by omega, hc.2.2.1, by omega, (Option.some.inj he).symm⟩
  ·cases he
theorem look15_yes (g : Gr) (hg : Rd g) (h : GOk g) : Pure Tryz.prog γ false 55 [aGr g] (.tup [.vp (fun _ => aV15 g (idsG g) (evsG g) (nG g)) 0, .b fun _ => true]) := by
 have kc := check14_ok (γ := γ) g hg
 rw [gcheck0 h] at kc
 have ki := ids14_ok (γ := γ) g h.short
 have hev := event_of h
 have hn : nG g ≤ 62 := (viewG_wf h).small
 have hin := h.short.init
 obtain ⟨Lf, hLf⟩ : ∃ L, L = idsG g := ⟨_, rfl⟩
 obtain ⟨Mf, hMf⟩ : ∃ L, L = evsG g := ⟨_, rfl⟩
 obtain ⟨n, hnn⟩ : ∃ n, n = nG g := ⟨_, rfl⟩
 have hLn : Lf.length = n := by rw [hLf, hnn]; rfl
 have hMn : Mf.length = n := by rw [hMf, ← idsG_len, ← hLf, hLn]
 rw [← hLf, ← hMf, ← hnn] at hev ⊢
 rw [← hLf] at ki
 rw [← hnn] at hn
 obtain ⟨M, hM⟩ : ∃ M : Nat → List Ev, ∀ k, M k = Mf.take k := ⟨_, fun _ => rfl⟩
 have m0 : M 0 = [] := by rw [hM]; simp
 have mS : ∀ k, k < n → M (k + 1) = M k ++ [Mf.getD k ev0] := fun k hk => by rw [hM, hM, take_succ' _ _ ev0 (by omega)]
 have mL : ∀ k, k ≤ n → (M k).length = k := fun k hk => by rw [hM, List.length_take]; omega
 have mE : M n = Mf := by rw [hM, List.take_of_length_le (by omega)]
 obtain ⟨G, hG⟩ : ∃ G : Nat → Nat, ∀ k, G k = k := ⟨_, fun _ => rfl⟩
 have hG0 : G 0 = 0 := hG 0
 refine Pure.go (ty := ty) ty_eq mo Tryz.func55 rfl Tryz.ntmps55 Tryz.results55 Tryz.call55 (by simp) fun P C CQ D W F E hF => ?_
 cbv
 repeat' (first
  | (refine E.c (SCalls.of_le (ki) ?_ ?_); (· (cbv; (try simp only [nc] at *); first | done | (simp; done) | (simp (disch := (first | omega | (simp only [lnS, zA, zM, zG, zP]; omega))) only [nc, nct, w64_of, zT, zZ, zM, rdS, at_agg, bofZ, bof1, bof0, zC, zS, implies_true, and_true, true_and, forall_const]; first | done | omega | (refine ⟨?_, ?_⟩ <;> omega)) | (simp (disch := (first | omega | (simp only [lnS, zA, zM, zG, zP]; omega))) [nc, nct, w64_of, zT, zZ, zM, rdS, at_agg, bofZ, bof1, bof0, zC, zS]; done))); cbv)
  | (refine E.q (QCalls.of_le (ki) ?_ ?_); (· (cbv; (try simp only [nc] at *); first | done | (simp; done) | (simp (disch := (first | omega | (simp only [lnS, zA, zM, zG, zP]; omega))) only [nc, nct, w64_of, zT, zZ, zM, rdS, at_agg, bofZ, bof1, bof0, zC, zS, implies_true, and_true, true_and, forall_const]; first | done | omega | (refine ⟨?_, ?_⟩ <;> omega)) | (simp (disch := (first | omega | (simp only [lnS, zA, zM, zG, zP]; omega))) [nc, nct, w64_of, zT, zZ, zM, rdS, at_agg, bofZ, bof1, bof0, zC, zS]; done))); cbv)
  | (refine E.c (SCalls.of_le (ki) ?_ ?_); (· (cbv; (try simp only [nc] at *); first | done | (simp; done) | (simp (disch := (first | omega | (simp only [lnS, zA, zM, zG, zP]; omega))) only [nc, nct, w64_of, zT, zZ, zM, rdS, at_agg, bofZ, bof1, bof0, zC, zS, implies_true, and_true, true_and, forall_const]; first | done | omega | (refine ⟨?_, ?_⟩ <;> omega)) | (simp (disch := (first | omega | (simp only [lnS, zA, zM, zG, zP]; omega))) [nc, nct, w64_of, zT, zZ, zM, rdS, at_agg, bofZ, bof1, bof0, zC, zS]; done))); cbv)
  | (refine E.c (SCalls.of_le (kc) ?_ ?_); (· (cbv; (try simp only [nc] at *); first | done | (simp; done) | (simp (disch := (first | omega | (simp only [lnS, zA, zM, zG, zP]; omega))) only [nc, nct, w64_of, zT, zZ, zM, rdS, at_agg, bofZ, bof1, bof0, zC, zS, implies_true, and_true, true_and, forall_const]; first | done | omega | (refine ⟨?_, ?_⟩ <;> omega)) | (simp (disch := (first | omega | (simp only [lnS, zA, zM, zG, zP]; omega))) [nc, nct, w64_of, zT, zZ, zM, rdS, at_agg, bofZ, bof1, bof0, zC, zS]; done))); cbv)
  | (refine ⟨fun _ h_s => ?_, fun _ h_s => ?_⟩ <;> (cbv; (try simp only [nc] at *); try simp (disch := (first | omega | (simp only [lnS, zA, zM, zG, zP]; omega))) only [nc, nct, w64_of, zT, zZ, zM, rdS, at_agg, bofZ, bof1, bof0, zC, zS, reduceCtorEq, Bool.not_true, Bool.not_false, zD, zE, zB, zF, zN, zO, ne_eq, zQ, zL, zR, beq_iff_eq] at h_s))
  | (refine hF ?_; intro _; clear hF)
  | (refine hF ?_; cbv; clear hF)
  | (refine ⟨fun _ => ?_, ?_⟩; (· ((try simp only [nc] at *); first | done | omega | exact ⟨by omega, rfl⟩ | (simp (disch := (first | omega | (simp only [lnS, zA, zM, zG, zP]; omega))) only [nc, nct, w64_of, zT, zZ, zM, rdS, at_agg, bofZ, bof1, bof0, zC, zS]; first | done | omega | rfl | exact ⟨by omega, rfl⟩ | (simp; done) | (simp; omega)) | (intros; trivial))); (try (simp only [nc] at *)); (try simp (disch := (first | omega | (simp only [lnS, zA, zM, zG, zP]; omega))) only [nc, nct, w64_of, zT, zZ, zM, rdS, at_agg, bofZ, bof1, bof0, zC, zS]); (try cbv))
  | (refine E.d 3 (by decide +kernel) ?_; cbv; (fail_if_success guard_target =~ False))
  | (refine E.d 10 (by decide +kernel) ?_; cbv; (fail_if_success guard_target =~ False))
  | (refine E.d 21 (by decide +kernel) ?_; cbv; (fail_if_success guard_target =~ False))
  | fail
 )
 ·revert h_s; simp
 refine E.w (AWP.ghostField 1 5 5 rfl rfl (E.loopSA (ι := Nat) (fun k => k ≤ n) (fun k => n - k) (fun k => [(5, .i fun _ => ((k : Nat) : Int))]) (fun k h => (h.set 1 (.box (.agg [.vs 1 fun _ => is g.init, .vs 1 fun _ => evss g.th, .vs 1 fun _ => idss g.fr, .vs 1 fun _ => idss g.ord, .vs 2 fun _ => ids Lf, .sl 2 (G k) 5 (fun _ => 0) fun _ => (M k).length, .i fun _ => (n : Int)]))).set 2 (.run (G k) 5 fun _ => evs (M k))) 0 (fun _ => by first | rfl | simp) (Nat.zero_le _) ?_ fun k hk I hI => ?_))
 ·cbv; simp [m0, hG0, hLn, evs, LV.of]
 cbv
 have hv := hev k
 have ml := mL k hk
 skip
 repeat' (first
  | (refine hI (k + 1) ?_ ?_ ?_; rotate_left 1; (· ((try simp only [nc] at *); omega)); (cbv; clear hI; (try clear hF); (try simp only [nc] at *); (try simp (disch := (first | omega | (simp only [lnS, zA, zM, zG, zP]; omega))) only [nc, nct, w64_of, zT, zZ, zM, rdS, at_agg, bofZ, bof1, bof0, zC, zS, implies_true, and_true, true_and, forall_const])); rotate_left 1; (try ((try simp only [nc] at *); omega)))
  | (refine E.de 8 [2] [] (by decide +kernel) ?_; cbv; (fail_if_success guard_target =~ False))
  | (refine ⟨fun _ h_s => ?_, fun _ h_s => ?_⟩ <;> (cbv; (try simp only [nc] at *); try simp (disch := (first | omega | (simp only [lnS, zA, zM, zG, zP]; omega))) only [nc, nct, w64_of, zT, zZ, zM, rdS, at_agg, bofZ, bof1, bof0, zC, zS, reduceCtorEq, Bool.not_true, Bool.not_false, zD, zE, zB, zF, zN, zO, ne_eq, zQ, zL, zR, beq_iff_eq] at h_s))
  | (refine hF ?_; intro _; clear hF)
  | (refine hF ?_; cbv; clear hF)
  | (refine ⟨fun _ => ?_, ?_⟩; (· ((try simp only [nc] at *); first | done | omega | exact ⟨by omega, rfl⟩ | (simp (disch := (first | omega | (simp only [lnS, zA, zM, zG, zP]; omega))) only [nc, nct, w64_of, zT, zZ, zM, rdS, at_agg, bofZ, bof1, bof0, zC, zS]; first | done | omega | rfl | exact ⟨by omega, rfl⟩ | (simp; done) | (simp; omega)) | (intros; trivial) | exact ⟨by first | trivial | rfl, by first | trivial | rfl | simp, by first | trivial | simp, by simp; omega, by simp; omega, by simp [AV.flat, AV.cells, AV.one]⟩)); (try (simp only [nc] at *)); (try simp (disch := (first | omega | (simp only [lnS, zA, zM, zG, zP]; omega))) only [nc, nct, w64_of, zT, zZ, zM, rdS, at_agg, bofZ, bof1, bof0, zC, zS]); (try cbv))
  | (refine E.d 3 (by decide +kernel) ?_; cbv; (fail_if_success guard_target =~ False))
  | (refine E.d 10 (by decide +kernel) ?_; cbv; (fail_if_success guard_target =~ False))
  | (refine E.d 21 (by decide +kernel) ?_; cbv; (fail_if_success guard_target =~ False))
  | fail
 )
 ·obtain ⟨c1, c2, c3, c4, c5, c6, c7⟩ := (hv (by ((try simp only [nc] at *); omega))).resolve_left fun h => h.1 h_s
  have hs := mS k (by ((try simp only [nc] at *); omega))
  (try simp only [id0, ev0] at c1 c2 c3 c4 c5 c6 c7 hs)
  (try simp only [nc] at *)
  refine ⟨by push_cast; rfl, ⟨by rw [hG, hG], by rw [hs]; simp [setAll]⟩, by rw [hG, hG], ?_⟩
  rw [hs, c7]
  generalize (g.th.getD ((Lf.getD k ⟨0, 0⟩).t - 1).toNat []).getD (Lf.getD k ⟨0, 0⟩).i.toNat ⟨0, 0, 0, 0, 0⟩ = e
  show LV.of ((evs (M k)).l ++ (evs [e]).l) = _
  rw [evs_app, evs_of]
 ·obtain ⟨c1, c2, c3, c4⟩ := (hv (by ((try simp only [nc] at *); omega))).resolve_right fun h => by ((try simp only [nc] at *); omega)
  have hs := mS k (by ((try simp only [nc] at *); omega))
  (try simp only [id0, ev0] at c1 c2 c3 c4 hs)
  (try simp only [nc] at *)
  refine ⟨by push_cast; rfl, ⟨by rw [hG, hG], by rw [hs]; simp [setAll]⟩, by rw [hG, hG], ?_⟩
  rw [hs, c4]
  show LV.of ((evs (M k)).l ++ (evs [⟨2, (Lf.getD k ⟨0, 0⟩).i, 1, 0, g.init.getD (Lf.getD k ⟨0, 0⟩).i.toNat 0⟩]).l) = _
  rw [evs_app, evs_of]
 ·have e : k = n := by ((try simp only [nc] at *); omega)
  subst e
  rw [mE]
  refine ⟨⟨fun _ => rfl, fun _ => rfl, fun _ => rfl, fun _ => rfl, fun _ => rfl, fun _ => ⟨rfl, by simp, by rw [List.drop_zero, List.take_of_length_le (by simp)]⟩, fun _ => rfl, trivial⟩, fun _ => rfl, trivial⟩
end Go.AL.Rl

namespace Go.AL.Rl
open Go Go.AL Go.Proofs
set_option maxRecDepth 100000
set_option maxHeartbeats 1600000
variable {γ : Nat → Option AV}

abbrev pW (g : Gr) : AV := .vp (fun _ => aV15 g (idsG g) (evsG g) (nG g)) 0
theorem ids_pos {g : Gr} {i : Nat} (hi : i < nG g) : 0 ≤ ((idsG g).getD i id0).t := by
 have hm : (idsG g).getD i id0 ∈ idsG g := getD_mem hi
 rw [idsG, List.mem_append, idsI_mem, idsT_mem, ← idsG] at hm
 omega
theorem evsG_l (g : Gr) : (evsG g).length = nG g := (idsG_len g).symm
theorem idsG_l (g : Gr) : (idsG g).length = nG g := rfl
theorem xreads_ok (g : Gr) (L : List EId) (Es : List Ev) (n a : Nat) (h1 : Es.length = n) (ha : a < n) : Pure Tryz.prog γ false 96 [.vp (fun _ => aV15 g L Es n) 0, .i fun _ => (a : Int)] (.b fun _ => readsM (Es.getD a ev0)) := by
 refine Pure.go (ty := ty) ty_eq mo Tryz.func96 rfl Tryz.ntmps96 Tryz.results96 Tryz.call96 (by simp) fun P C CQ D W F E hF => ?_
 cbv
 repeat' (first
  | (refine ⟨fun _ h_s => ?_, fun _ h_s => ?_⟩ <;> (cbv; (try simp only [nc] at *); try simp (disch := (first | omega | (simp only [lnS, zA, zM, zG, zP]; omega))) only [nc, nct, w64_of, zT, zZ, zM, rdS, at_agg, bofZ, bof1, bof0, zC, zS, reduceCtorEq, Bool.not_true, Bool.not_false, zD, zE, zB, zF, zN, zO, ne_eq, zQ, zL, zR, beq_iff_eq] at h_s))
  | (refine hF ?_; intro _; clear hF)
  | (refine hF ?_; cbv; clear hF)
  | (refine ⟨fun _ => ?_, ?_⟩; (· ((try simp only [nc] at *); first | done | omega | exact ⟨by omega, rfl⟩ | (simp (disch := (first | omega | (simp only [lnS, zA, zM, zG, zP]; omega))) only [nc, nct, w64_of, zT, zZ, zM, rdS, at_agg, bofZ, bof1, bof0, zC, zS]; first | done | omega | rfl | exact ⟨by omega, rfl⟩ | (simp; done) | (simp; omega)) | (intros; trivial))); (try (simp only [nc] at *)); (try simp (disch := (first | omega | (simp only [lnS, zA, zM, zG, zP]; omega))) only [nc, nct, w64_of, zT, zZ, zM, rdS, at_agg, bofZ, bof1, bof0, zC, zS]); (try cbv))
  | fail
 )
 all_goals (try simp only [nc] at *)
 all_goals (try simp (disch := (first | omega | (simp only [lnS, zA, zM, zG, zP]; omega))) only [nc, nct, w64_of, zT, zZ, zM, rdS, at_agg, bofZ, bof1, bof0, zC, zS])
 all_goals simp_all [readsM]
theorem wreads_ok (g : Gr) (a : Nat) (ha : a < nG g) : Pure Tryz.prog γ false 96 [pW g, .i fun _ => (a : Int)] (.b fun _ => readsM ((viewG g).ev.getD a ev0)) := xreads_ok g _ _ _ a (evsG_l g) ha
theorem xwrites_ok (g : Gr) (L : List EId) (Es : List Ev) (n a : Nat) (h1 : Es.length = n) (ha : a < n) : Pure Tryz.prog γ false 94 [.vp (fun _ => aV15 g L Es n) 0, .i fun _ => (a : Int)] (.b fun _ => writesM (Es.getD a ev0)) := by
 refine Pure.go (ty := ty) ty_eq mo Tryz.func94 rfl Tryz.ntmps94 Tryz.results94 Tryz.call94 (by simp) fun P C CQ D W F E hF => ?_
 cbv
 repeat' (first
  | (refine ⟨fun _ h_s => ?_, fun _ h_s => ?_⟩ <;> (cbv; (try simp only [nc] at *); try simp (disch := (first | omega | (simp only [lnS, zA, zM, zG, zP]; omega))) only [nc, nct, w64_of, zT, zZ, zM, rdS, at_agg, bofZ, bof1, bof0, zC, zS, reduceCtorEq, Bool.not_true, Bool.not_false, zD, zE, zB, zF, zN, zO, ne_eq, zQ, zL, zR, beq_iff_eq] at h_s))
  | (refine hF ?_; intro _; clear hF)
  | (refine hF ?_; cbv; clear hF)
  | (refine ⟨fun _ => ?_, ?_⟩; (· ((try simp only [nc] at *); first | done | omega | exact ⟨by omega, rfl⟩ | (simp (disch := (first | omega | (simp only [lnS, zA, zM, zG, zP]; omega))) only [nc, nct, w64_of, zT, zZ, zM, rdS, at_agg, bofZ, bof1, bof0, zC, zS]; first | done | omega | rfl | exact ⟨by omega, rfl⟩ | (simp; done) | (simp; omega)) | (intros; trivial))); (try (simp only [nc] at *)); (try simp (disch := (first | omega | (simp only [lnS, zA, zM, zG, zP]; omega))) only [nc, nct, w64_of, zT, zZ, zM, rdS, at_agg, bofZ, bof1, bof0, zC, zS]); (try cbv))
  | fail
 )
 all_goals (try simp only [nc] at *)
 all_goals (try simp (disch := (first | omega | (simp only [lnS, zA, zM, zG, zP]; omega))) only [nc, nct, w64_of, zT, zZ, zM, rdS, at_agg, bofZ, bof1, bof0, zC, zS])
 all_goals simp_all [writesM]
theorem wwrites_ok (g : Gr) (a : Nat) (ha : a < nG g) : Pure Tryz.prog γ false 94 [pW g, .i fun _ => (a : Int)] (.b fun _ => writesM ((viewG g).ev.getD a ev0)) := xwrites_ok g _ _ _ a (evsG_l g) ha
theorem xacq_ok (g : Gr) (L : List EId) (Es : List Ev) (n a : Nat) (h1 : Es.length = n) (ha : a < n) : Pure Tryz.prog γ false 99 [.vp (fun _ => aV15 g L Es n) 0, .i fun _ => (a : Int)] (.b fun _ => acqM (Es.getD a ev0)) := by
 refine Pure.go (ty := ty) ty_eq mo Tryz.func99 rfl Tryz.ntmps99 Tryz.results99 Tryz.call99 (by simp) fun P C CQ D W F E hF => ?_
 cbv
 repeat' (first
  | (refine ⟨fun _ h_s => ?_, fun _ h_s => ?_⟩ <;> (cbv; (try simp only [nc] at *); try simp (disch := (first | omega | (simp only [lnS, zA, zM, zG, zP]; omega))) only [nc, nct, w64_of, zT, zZ, zM, rdS, at_agg, bofZ, bof1, bof0, zC, zS, reduceCtorEq, Bool.not_true, Bool.not_false, zD, zE, zB, zF, zN, zO, ne_eq, zQ, zL, zR, beq_iff_eq] at h_s))
  | (refine hF ?_; intro _; clear hF)
  | (refine hF ?_; cbv; clear hF)
  | (refine ⟨fun _ => ?_, ?_⟩; (· ((try simp only [nc] at *); first | done | omega | exact ⟨by omega, rfl⟩ | (simp (disch := (first | omega | (simp only [lnS, zA, zM, zG, zP]; omega))) only [nc, nct, w64_of, zT, zZ, zM, rdS, at_agg, bofZ, bof1, bof0, zC, zS]; first | done | omega | rfl | exact ⟨by omega, rfl⟩ | (simp; done) | (simp; omega)) | (intros; trivial))); (try (simp only [nc] at *)); (try simp (disch := (first | omega | (simp only [lnS, zA, zM, zG, zP]; omega))) only [nc, nct, w64_of, zT, zZ, zM, rdS, at_agg, bofZ, bof1, bof0, zC, zS]); (try cbv))
  | fail
 )
 all_goals (try simp only [nc] at *)
 all_goals (try simp (disch := (first | omega | (simp only [lnS, zA, zM, zG, zP]; omega))) only [nc, nct, w64_of, zT, zZ, zM, rdS, at_agg, bofZ, bof1, bof0, zC, zS])
 all_goals simp_all [acqM]
theorem wacq_ok (g : Gr) (a : Nat) (ha : a < nG g) : Pure Tryz.prog γ false 99 [pW g, .i fun _ => (a : Int)] (.b fun _ => acqM ((viewG g).ev.getD a ev0)) := xacq_ok g _ _ _ a (evsG_l g) ha
theorem xrel_ok (g : Gr) (L : List EId) (Es : List Ev) (n a : Nat) (h1 : Es.length = n) (ha : a < n) : Pure Tryz.prog γ false 98 [.vp (fun _ => aV15 g L Es n) 0, .i fun _ => (a : Int)] (.b fun _ => relM (Es.getD a ev0)) := by
 refine Pure.go (ty := ty) ty_eq mo Tryz.func98 rfl Tryz.ntmps98 Tryz.results98 Tryz.call98 (by simp) fun P C CQ D W F E hF => ?_
 cbv
 repeat' (first
  | (refine ⟨fun _ h_s => ?_, fun _ h_s => ?_⟩ <;> (cbv; (try simp only [nc] at *); try simp (disch := (first | omega | (simp only [lnS, zA, zM, zG, zP]; omega))) only [nc, nct, w64_of, zT, zZ, zM, rdS, at_agg, bofZ, bof1, bof0, zC, zS, reduceCtorEq, Bool.not_true, Bool.not_false, zD, zE, zB, zF, zN, zO, ne_eq, zQ, zL, zR, beq_iff_eq] at h_s))
  | (refine hF ?_; intro _; clear hF)
  | (refine hF ?_; cbv; clear hF)
  | (refine ⟨fun _ => ?_, ?_⟩; (· ((try simp only [nc] at *); first | done | omega | exact ⟨by omega, rfl⟩ | (simp (disch := (first | omega | (simp only [lnS, zA, zM, zG, zP]; omega))) only [nc, nct, w64_of, zT, zZ, zM, rdS, at_agg, bofZ, bof1, bof0, zC, zS]; first | done | omega | rfl | exact ⟨by omega, rfl⟩ | (simp; done) | (simp; omega)) | (intros; trivial))); (try (simp only [nc] at *)); (try simp (disch := (first | omega | (simp only [lnS, zA, zM, zG, zP]; omega))) only [nc, nct, w64_of, zT, zZ, zM, rdS, at_agg, bofZ, bof1, bof0, zC, zS]); (try cbv))
  | fail
 )
 all_goals (try simp only [nc] at *)
 all_goals (try simp (disch := (first | omega | (simp only [lnS, zA, zM, zG, zP]; omega))) only [nc, nct, w64_of, zT, zZ, zM, rdS, at_agg, bofZ, bof1, bof0, zC, zS])
 all_goals simp_all [relM]
theorem wrel_ok (g : Gr) (a : Nat) (ha : a < nG g) : Pure Tryz.prog γ false 98 [pW g, .i fun _ => (a : Int)] (.b fun _ => relM ((viewG g).ev.getD a ev0)) := xrel_ok g _ _ _ a (evsG_l g) ha
theorem xloc_ok (g : Gr) (L : List EId) (Es : List Ev) (fr pl : List Int) (n a b : Nat) (h1 : Es.length = n) (ha : a < n) (hb : b < n) : Pure Tryz.prog γ false 56 [.vp (fun _ => aV15 g L Es n) 0, .i fun _ => (a : Int), .i fun _ => (b : Int)] (.b fun _ => locM ⟨L, Es, fr, pl⟩ a b) := by
 refine Pure.go (ty := ty) ty_eq mo Tryz.func56 rfl Tryz.ntmps56 Tryz.results56 Tryz.call56 (by simp) fun P C CQ D W F E hF => ?_
 cbv
 repeat' (first
  | (refine ⟨fun _ h_s => ?_, fun _ h_s => ?_⟩ <;> (cbv; (try simp only [nc] at *); try simp (disch := (first | omega | (simp only [lnS, zA, zM, zG, zP]; omega))) only [nc, nct, w64_of, zT, zZ, zM, rdS, at_agg, bofZ, bof1, bof0, zC, zS, reduceCtorEq, Bool.not_true, Bool.not_false, zD, zE, zB, zF, zN, zO, ne_eq, zQ, zL, zR, beq_iff_eq] at h_s))
  | (refine hF ?_; intro _; clear hF)
  | (refine hF ?_; cbv; clear hF)
  | (refine ⟨fun _ => ?_, ?_⟩; (· ((try simp only [nc] at *); first | done | omega | exact ⟨by omega, rfl⟩ | (simp (disch := (first | omega | (simp only [lnS, zA, zM, zG, zP]; omega))) only [nc, nct, w64_of, zT, zZ, zM, rdS, at_agg, bofZ, bof1, bof0, zC, zS]; first | done | omega | rfl | exact ⟨by omega, rfl⟩ | (simp; done) | (simp; omega)) | (intros; trivial))); (try (simp only [nc] at *)); (try simp (disch := (first | omega | (simp only [lnS, zA, zM, zG, zP]; omega))) only [nc, nct, w64_of, zT, zZ, zM, rdS, at_agg, bofZ, bof1, bof0, zC, zS]); (try cbv))
  | (refine E.d 42 (by decide +kernel) ?_; cbv; (fail_if_success guard_target =~ False))
  | fail
 )
 all_goals (try simp only [nc] at *)
 all_goals (try simp (disch := (first | omega | (simp only [lnS, zA, zM, zG, zP]; omega))) only [nc, nct, w64_of, zT, zZ, zM, rdS, at_agg, bofZ, bof1, bof0, zC, zS])
 all_goals (have e : ((a : Int) = b) ↔ a = b := Int.ofNat_inj; simp_all [locM, nearM, fenceM])
theorem wloc_ok (g : Gr) (a b : Nat) (ha : a < nG g) (hb : b < nG g) : Pure Tryz.prog γ false 56 [pW g, .i fun _ => (a : Int), .i fun _ => (b : Int)] (.b fun _ => locM (viewG g) a b) := xloc_ok g _ _ _ _ _ a b (evsG_l g) ha hb
theorem xpo_ok (g : Gr) (L : List EId) (Es : List Ev) (fr pl : List Int) (n a b : Nat) (h1 : L.length = n) (ha : a < n) (hb : b < n) (pa : 0 ≤ (L.getD a id0).t) (pb : 0 ≤ (L.getD b id0).t) : Pure Tryz.prog γ false 85 [.vp (fun _ => aV15 g L Es n) 0, .i fun _ => (a : Int), .i fun _ => (b : Int)] (.b fun _ => poM ⟨L, Es, fr, pl⟩ a b) := by
 refine Pure.go (ty := ty) ty_eq mo Tryz.func85 rfl Tryz.ntmps85 Tryz.results85 Tryz.call85 (by simp) fun P C CQ D W F E hF => ?_
 cbv
 repeat' (first
  | (refine E.de 17 [] [none, none] (by decide +kernel) ?_; cbv; (fail_if_success guard_target =~ False))
  | (refine ⟨fun _ h_s => ?_, fun _ h_s => ?_⟩ <;> (cbv; (try simp only [nc] at *); try simp (disch := (first | omega | (simp only [lnS, zA, zM, zG, zP]; omega))) only [nc, nct, w64_of, zT, zZ, zM, rdS, at_agg, bofZ, bof1, bof0, zC, zS, reduceCtorEq, Bool.not_true, Bool.not_false, zD, zE, zB, zF, zN, zO, ne_eq, zQ, zL, zR, beq_iff_eq] at h_s))
  | (refine hF ?_; intro _; clear hF)
  | (refine hF ?_; cbv; clear hF)
  | (refine ⟨fun _ => ?_, ?_⟩; (· ((try simp only [nc] at *); first | done | omega | exact ⟨by omega, rfl⟩ | (simp (disch := (first | omega | (simp only [lnS, zA, zM, zG, zP]; omega))) only [nc, nct, w64_of, zT, zZ, zM, rdS, at_agg, bofZ, bof1, bof0, zC, zS]; first | done | omega | rfl | exact ⟨by omega, rfl⟩ | (simp; done) | (simp; omega)) | (intros; trivial))); (try (simp only [nc] at *)); (try simp (disch := (first | omega | (simp only [lnS, zA, zM, zG, zP]; omega))) only [nc, nct, w64_of, zT, zZ, zM, rdS, at_agg, bofZ, bof1, bof0, zC, zS]); (try cbv))
  | fail
 )
 all_goals (try simp only [nc] at *)
 all_goals (try simp (disch := (first | omega | (simp only [lnS, zA, zM, zG, zP]; omega))) only [nc, nct, w64_of, zT, zZ, zM, rdS, at_agg, bofZ, bof1, bof0, zC, zS])
 all_goals (try simp only [poM])
 all_goals grind
end Go.AL.Rl

namespace Go.AL.Rl
open Go Go.AL Go.Proofs
set_option maxRecDepth 100000
set_option maxHeartbeats 1600000
variable {γ : Nat → Option AV}

theorem wpo_ok (g : Gr) (a b : Nat) (ha : a < nG g) (hb : b < nG g) : Pure Tryz.prog γ false 85 [pW g, .i fun _ => (a : Int), .i fun _ => (b : Int)] (.b fun _ => poM (viewG g) a b) := xpo_ok g _ _ _ _ _ a b (idsG_l g) ha hb (ids_pos ha) (ids_pos hb)
theorem wfrom_ok (g : Gr) (h : GOk g) (a : Nat) (ha : a < nG g) : Pure Tryz.prog γ false 97 [pW g, .i fun _ => (a : Int)] (.i fun _ => (viewG g).fr.getD a 0) := by
 have kr := wreads_ok (γ := γ) g a ha
 rw [vfr h a ha]
 have hev := vev h a ha
 cases hr : readsM ((viewG g).ev.getD a ev0) with
 | false =>
  rw [hr] at kr
  have e : frOf g ((idsG g).getD a id0) = -1 := by
   unfold frOf
   rw [hev, Option.getD_some, hr]; simp
  rw [e]
  refine Pure.go (ty := ty) ty_eq mo Tryz.func97 rfl Tryz.ntmps97 Tryz.results97 Tryz.call97 (by simp) fun P C CQ D W F E hF => ?_
  cbv
  repeat' (first
   | (refine E.c (SCalls.of_le (kr) ?_ ?_); (· (cbv; (try simp only [nc] at *); first | done | (simp; done) | (simp (disch := (first | omega | (simp only [lnS, zA, zM, zG, zP]; omega))) only [nc, nct, w64_of, zT, zZ, zM, rdS, at_agg, bofZ, bof1, bof0, zC, zS, implies_true, and_true, true_and, forall_const]; first | done | omega | (refine ⟨?_, ?_⟩ <;> omega)) | (simp (disch := (first | omega | (simp only [lnS, zA, zM, zG, zP]; omega))) [nc, nct, w64_of, zT, zZ, zM, rdS, at_agg, bofZ, bof1, bof0, zC, zS]; done))); cbv)
   | (refine ⟨fun _ h_s => ?_, fun _ h_s => ?_⟩ <;> (cbv; (try simp only [nc] at *); try simp (disch := (first | omega | (simp only [lnS, zA, zM, zG, zP]; omega))) only [nc, nct, w64_of, zT, zZ, zM, rdS, at_agg, bofZ, bof1, bof0, zC, zS, reduceCtorEq, Bool.not_true, Bool.not_false, zD, zE, zB, zF, zN, zO, ne_eq, zQ, zL, zR, beq_iff_eq] at h_s))
   | (refine hF ?_; intro _; clear hF)
   | (refine hF ?_; cbv; clear hF)
   | (refine ⟨fun _ => ?_, ?_⟩; (· ((try simp only [nc] at *); first | done | omega | exact ⟨by omega, rfl⟩ | (simp (disch := (first | omega | (simp only [lnS, zA, zM, zG, zP]; omega))) only [nc, nct, w64_of, zT, zZ, zM, rdS, at_agg, bofZ, bof1, bof0, zC, zS]; first | done | omega | rfl | exact ⟨by omega, rfl⟩ | (simp; done) | (simp; omega)) | (intros; trivial))); (try (simp only [nc] at *)); (try simp (disch := (first | omega | (simp only [lnS, zA, zM, zG, zP]; omega))) only [nc, nct, w64_of, zT, zZ, zM, rdS, at_agg, bofZ, bof1, bof0, zC, zS]); (try cbv))
   | (refine E.d 8 (by decide +kernel) ?_; cbv; (fail_if_success guard_target =~ False))
   | fail
  )
  all_goals (try simp only [nc] at *)
  all_goals (try simp (disch := (first | omega | (simp only [lnS, zA, zM, zG, zP]; omega))) only [nc, nct, w64_of, zT, zZ, zM, rdS, at_agg, bofZ, bof1, bof0, zC, zS])
  all_goals first | rfl | (revert h_s; simp)
 | true =>
  rw [hr] at kr
  have h0 : ((idsG g).getD a id0).t ≠ 0 := fun h0 => by rw [init_reads hev h0] at hr; cases hr
  obtain ⟨w1, w2, w3, w4, w5⟩ := ids_where h ha h0
  have hd : (idsG g).getD a id0 ∈ idsG g := getD_mem ha
  obtain ⟨w, hw, _⟩ := source_mem (src_ok h hd h0) (by rw [hev]; exact hr)
  have hm : srcOf g ((idsG g).getD a id0) ∈ idsG g := idsG_mem.2 (by rw [hw]; rfl)
  have e : frOf g ((idsG g).getD a id0) = (numOf (idsG g) (srcOf g ((idsG g).getD a id0)) : Nat) := by
   unfold frOf
   rw [if_neg h0, hev, Option.getD_some, if_pos hr]
  rw [e]
  have hnd := idsG_nodup g
  have hn : nG g ≤ 62 := (viewG_wf h).small
  unfold pW at kr ⊢
  obtain ⟨L, hL⟩ : ∃ L, L = idsG g := ⟨_, rfl⟩
  have hLn : L.length = nG g := by rw [hL]; rfl
  obtain ⟨n, hnn⟩ : ∃ n, n = nG g := ⟨_, rfl⟩
  rw [← hnn] at ha hn hLn kr ⊢
  rw [← hL] at kr w1 w2 w3 w4 w5 hm hnd ⊢
  obtain ⟨s, hs⟩ : ∃ s, s = srcOf g (L.getD a id0) := ⟨_, rfl⟩
  rw [← hs] at hm ⊢
  have hsd : s = (g.fr.getD ((L.getD a ⟨0, 0⟩).t - 1).toNat []).getD (L.getD a ⟨0, 0⟩).i.toNat ⟨0, 0⟩ := hs
  refine Pure.go (ty := ty) ty_eq mo Tryz.func97 rfl Tryz.ntmps97 Tryz.results97 Tryz.call97 (by simp) fun P C CQ D W F E hF => ?_
  cbv
  repeat' (first
   | (refine E.de 27 [] [none] (by decide +kernel) ?_; cbv; (fail_if_success guard_target =~ False))
   | (refine E.c (SCalls.of_le (kr) ?_ ?_); (· (cbv; (try simp only [nc] at *); first | done | (simp; done) | (simp (disch := (first | omega | (simp only [lnS, zA, zM, zG, zP]; omega))) only [nc, nct, w64_of, zT, zZ, zM, rdS, at_agg, bofZ, bof1, bof0, zC, zS, implies_true, and_true, true_and, forall_const]; first | done | omega | (refine ⟨?_, ?_⟩ <;> omega)) | (simp (disch := (first | omega | (simp only [lnS, zA, zM, zG, zP]; omega))) [nc, nct, w64_of, zT, zZ, zM, rdS, at_agg, bofZ, bof1, bof0, zC, zS]; done))); cbv)
   | (refine ⟨fun _ h_s => ?_, fun _ h_s => ?_⟩ <;> (cbv; (try simp only [nc] at *); try simp (disch := (first | omega | (simp only [lnS, zA, zM, zG, zP]; omega))) only [nc, nct, w64_of, zT, zZ, zM, rdS, at_agg, bofZ, bof1, bof0, zC, zS, reduceCtorEq, Bool.not_true, Bool.not_false, zD, zE, zB, zF, zN, zO, ne_eq, zQ, zL, zR, beq_iff_eq] at h_s))
   | (refine hF ?_; intro _; clear hF)
   | (refine hF ?_; cbv; clear hF)
   | (refine ⟨fun _ => ?_, ?_⟩; (· ((try simp only [nc] at *); first | done | omega | exact ⟨by omega, rfl⟩ | (simp (disch := (first | omega | (simp only [lnS, zA, zM, zG, zP]; omega))) only [nc, nct, w64_of, zT, zZ, zM, rdS, at_agg, bofZ, bof1, bof0, zC, zS]; first | done | omega | rfl | exact ⟨by omega, rfl⟩ | (simp; done) | (simp; omega)) | (intros; trivial))); (try (simp only [nc] at *)); (try simp (disch := (first | omega | (simp only [lnS, zA, zM, zG, zP]; omega))) only [nc, nct, w64_of, zT, zZ, zM, rdS, at_agg, bofZ, bof1, bof0, zC, zS]); (try cbv))
   | (refine E.d 8 (by decide +kernel) ?_; cbv; (fail_if_success guard_target =~ False))
   | fail
  )
  skip
  refine E.loopS (ι := Nat) (fun k => k ≤ n ∧ (∀ j < k, L.getD j ⟨0, 0⟩ ≠ s)) (fun k => n - k) (fun k => [(6, .i fun _ => ((k : Nat) : Int))]) (fun k h => h) 0 (fun _ => by first | rfl | simp) ⟨Nat.zero_le _, ?_⟩ ?_ fun k hk I hI => ?_
  ·intro j hj; omega
  ·cbv; simp
  cbv
  repeat' (first
   | (refine hI (k + 1) ?_ ?_ ?_; rotate_left 1; (· ((try simp only [nc] at *); omega)); (cbv; clear hI; (try clear hF); (try simp only [nc] at *); (try simp (disch := (first | omega | (simp only [lnS, zA, zM, zG, zP]; omega))) only [nc, nct, w64_of, zT, zZ, zM, rdS, at_agg, bofZ, bof1, bof0, zC, zS, ← hsd, implies_true, and_true, true_and, forall_const])); rotate_left 1; (try ((try simp only [nc] at *); omega)))
   | (refine ⟨fun _ h_s => ?_, fun _ h_s => ?_⟩ <;> (cbv; (try simp only [nc] at *); try simp (disch := (first | omega | (simp only [lnS, zA, zM, zG, zP]; omega))) only [nc, nct, w64_of, zT, zZ, zM, rdS, at_agg, bofZ, bof1, bof0, zC, zS, ← hsd, reduceCtorEq, Bool.not_true, Bool.not_false, zD, zE, zB, zF, zN, zO, ne_eq, zQ, zL, zR, beq_iff_eq] at h_s))
   | (refine hF ?_; intro _; clear hF)
   | (refine hF ?_; cbv; clear hF)
   | (refine ⟨fun _ => ?_, ?_⟩; (· ((try simp only [nc] at *); first | done | omega | exact ⟨by omega, rfl⟩ | (simp (disch := (first | omega | (simp only [lnS, zA, zM, zG, zP]; omega))) only [nc, nct, w64_of, zT, zZ, zM, rdS, at_agg, bofZ, bof1, bof0, zC, zS, ← hsd]; first | done | omega | rfl | exact ⟨by omega, rfl⟩ | (simp; done) | (simp; omega)) | (intros; trivial))); (try (simp only [nc] at *)); (try simp (disch := (first | omega | (simp only [lnS, zA, zM, zG, zP]; omega))) only [nc, nct, w64_of, zT, zZ, zM, rdS, at_agg, bofZ, bof1, bof0, zC, zS, ← hsd]); (try cbv))
   | (refine E.d 8 (by decide +kernel) ?_; cbv; (fail_if_success guard_target =~ False))
   | fail
  )
  ·simp only [Bool.and_true, Bool.and_eq_true, decide_eq_true_eq] at h_s
   have he : L.getD k id0 = s := EId.ext' h_s.1 h_s.2
   have := numOf_at hnd (k := k) (by ((try simp only [nc] at *); omega))
   rw [he] at this
   show (k : Int) = _
   rw [this]
  ·refine ⟨by ((try simp only [nc] at *); omega), fun j hj => ?_⟩
   rcases Nat.lt_or_ge j k with hjk | hjk
   ·exact hk.2 j hjk
   ·have : j = k := by omega
    subst this
    intro he
    rw [he] at h_s
    simp at h_s
  ·push_cast; rfl
  ·exfalso
   exact hk.2 _ (by have := numOf_lt hm; ((try simp only [nc] at *); omega)) (numOf_get hm)
end Go.AL.Rl

namespace Go.AL.Rl
open Go Go.AL Go.Proofs
set_option maxRecDepth 100000
set_option maxHeartbeats 1600000
variable {γ : Nat → Option AV}

theorem wplace_ok (g : Gr) (hg : Rd g) (h : GOk g) (a : Nat) (ha : a < nG g) (hw : writesM ((viewG g).ev.getD a ev0) = true) : Pure Tryz.prog γ false 108 [pW g, .i fun _ => (a : Int)] (.i fun _ => (viewG g).pl.getD a 0) := by
 rw [vpl h a ha]
 have hev : eventM g ((idsG g).getD a id0) = some ((evsG g).getD a ev0) := vev h a ha
 have hw : writesM ((evsG g).getD a ev0) = true := hw
 have hn : nG g ≤ 62 := (viewG_wf h).small
 have hEl := evsG_l g
 have hLn := idsG_l g
 unfold pW
 generalize idsG g = L at *
 generalize evsG g = Es at *
 generalize nG g = n at *
 have hpw := pl_write h hev hw
 have hl : (L.getD a id0).t ≠ 0 → 0 ≤ (Es.getD a ev0).loc ∧ (Es.getD a ev0).loc < g.ord.length := fun h0 => by
  have := fine_loc (event_fine h hev h0) (notFence_w hw)
  rw [h.lord]; exact this
 have hord := ordsAt hg (Es.getD a ev0).loc.toNat
 have hnd : (g.ord.getD (Es.getD a ev0).loc.toNat []).Nodup := by
  by_cases hx : (Es.getD a ev0).loc.toNat < g.init.length
  ·exact ((ordered_iff g _).1 (h.orders _ hx)).1
  ·rw [List.getD_eq_getElem?_getD, List.getElem?_eq_none (by rw [h.lord]; omega)]; simp
 obtain ⟨l, hll⟩ : ∃ l, l = g.ord.getD (Es.getD a ⟨0, 0, 0, 0, 0⟩).loc.toNat [] := ⟨_, rfl⟩
 obtain ⟨p, hp⟩ : ∃ p, p = plOf g (L.getD a id0) := ⟨_, rfl⟩
 rw [← hp] at hpw ⊢
 rw [← hll] at hpw hord hnd
 refine Pure.go (ty := ty) ty_eq mo Tryz.func108 rfl Tryz.ntmps108 Tryz.results108 Tryz.call108 (by simp) fun P C CQ D W F E hF => ?_
 cbv
 skip
 repeat' (first
  | (refine ⟨fun _ h_s => ?_, fun _ h_s => ?_⟩ <;> (cbv; (try simp only [nc] at *); try simp (disch := (first | omega | (simp only [lnS, zA, zM, zG, zP]; omega))) only [nc, nct, w64_of, zT, zZ, zM, rdS, at_agg, bofZ, bof1, bof0, zC, zS, ← hll, reduceCtorEq, Bool.not_true, Bool.not_false, zD, zE, zB, zF, zN, zO, ne_eq, zQ, zL, zR, beq_iff_eq] at h_s))
  | (refine hF ?_; intro _; clear hF)
  | (refine hF ?_; cbv; clear hF)
  | (refine ⟨fun _ => ?_, ?_⟩; (· ((try simp only [nc] at *); first | done | omega | exact ⟨by omega, rfl⟩ | (simp (disch := (first | omega | (simp only [lnS, zA, zM, zG, zP]; omega))) only [nc, nct, w64_of, zT, zZ, zM, rdS, at_agg, bofZ, bof1, bof0, zC, zS, ← hll]; first | done | omega | rfl | exact ⟨by omega, rfl⟩ | (simp; done) | (simp; omega)) | (intros; trivial))); (try (simp only [nc] at *)); (try simp (disch := (first | omega | (simp only [lnS, zA, zM, zG, zP]; omega))) only [nc, nct, w64_of, zT, zZ, zM, rdS, at_agg, bofZ, bof1, bof0, zC, zS, ← hll]); (try cbv))
  | (refine E.d 11 (by decide +kernel) ?_; cbv; (fail_if_success guard_target =~ False))
  | (refine E.d 13 (by decide +kernel) ?_; cbv; (fail_if_success guard_target =~ False))
  | fail
 )
 ·rcases hpw with h1 | h1
  ·exact h1.2.symm
  ·exact absurd h_s h1.1
 ·obtain ⟨h0, k0, hk1, hk2, hk3⟩ := hpw.resolve_left fun h1 => h_s h1.1
  have hl' := hl h0
  repeat' (first
   | (refine ⟨fun _ h_s => ?_, fun _ h_s => ?_⟩ <;> (cbv; (try simp only [nc] at *); try simp (disch := (first | omega | (simp only [lnS, zA, zM, zG, zP]; omega))) only [nc, nct, w64_of, zT, zZ, zM, rdS, at_agg, bofZ, bof1, bof0, zC, zS, ← hll, reduceCtorEq, Bool.not_true, Bool.not_false, zD, zE, zB, zF, zN, zO, ne_eq, zQ, zL, zR, beq_iff_eq] at h_s))
   | (refine hF ?_; intro _; clear hF)
   | (refine hF ?_; cbv; clear hF)
   | (refine ⟨fun _ => ?_, ?_⟩; (· ((try simp only [nc] at *); first | done | omega | exact ⟨by omega, rfl⟩ | (simp (disch := (first | omega | (simp only [lnS, zA, zM, zG, zP]; omega))) only [nc, nct, w64_of, zT, zZ, zM, rdS, at_agg, bofZ, bof1, bof0, zC, zS, ← hll]; first | done | omega | rfl | exact ⟨by omega, rfl⟩ | (simp; done) | (simp; omega)) | (intros; trivial))); (try (simp only [nc] at *)); (try simp (disch := (first | omega | (simp only [lnS, zA, zM, zG, zP]; omega))) only [nc, nct, w64_of, zT, zZ, zM, rdS, at_agg, bofZ, bof1, bof0, zC, zS, ← hll]); (try cbv))
   | (refine E.d 11 (by decide +kernel) ?_; cbv; (fail_if_success guard_target =~ False))
   | (refine E.d 13 (by decide +kernel) ?_; cbv; (fail_if_success guard_target =~ False))
   | fail
  )
  refine E.loopS (ι := Nat) (fun k => k ≤ l.length ∧ (k ≤ k0)) (fun k => l.length - k) (fun k => [(6, .i fun _ => ((k : Nat) : Int))]) (fun k h => h) 0 (fun _ => by first | rfl | simp) ⟨Nat.zero_le _, ?_⟩ ?_ fun k hk I hI => ?_
  ·omega
  ·cbv; simp
  cbv
  repeat' (first
   | (refine hI (k + 1) ?_ ?_ ?_; rotate_left 1; (· ((try simp only [nc] at *); omega)); (cbv; clear hI; (try clear hF); (try simp only [nc] at *); (try simp (disch := (first | omega | (simp only [lnS, zA, zM, zG, zP]; omega))) only [nc, nct, w64_of, zT, zZ, zM, rdS, at_agg, bofZ, bof1, bof0, zC, zS, ← hll, implies_true, and_true, true_and, forall_const])); rotate_left 1; (try ((try simp only [nc] at *); omega)))
   | (refine ⟨fun _ h_s => ?_, fun _ h_s => ?_⟩ <;> (cbv; (try simp only [nc] at *); try simp (disch := (first | omega | (simp only [lnS, zA, zM, zG, zP]; omega))) only [nc, nct, w64_of, zT, zZ, zM, rdS, at_agg, bofZ, bof1, bof0, zC, zS, ← hll, reduceCtorEq, Bool.not_true, Bool.not_false, zD, zE, zB, zF, zN, zO, ne_eq, zQ, zL, zR, beq_iff_eq] at h_s))
   | (refine hF ?_; intro _; clear hF)
   | (refine hF ?_; cbv; clear hF)
   | (refine ⟨fun _ => ?_, ?_⟩; (· ((try simp only [nc] at *); first | done | omega | exact ⟨by omega, rfl⟩ | (simp (disch := (first | omega | (simp only [lnS, zA, zM, zG, zP]; omega))) only [nc, nct, w64_of, zT, zZ, zM, rdS, at_agg, bofZ, bof1, bof0, zC, zS, ← hll]; first | done | omega | rfl | exact ⟨by omega, rfl⟩ | (simp; done) | (simp; omega)) | (intros; trivial))); (try (simp only [nc] at *)); (try simp (disch := (first | omega | (simp only [lnS, zA, zM, zG, zP]; omega))) only [nc, nct, w64_of, zT, zZ, zM, rdS, at_agg, bofZ, bof1, bof0, zC, zS, ← hll]); (try cbv))
   | (refine E.d 11 (by decide +kernel) ?_; cbv; (fail_if_success guard_target =~ False))
   | (refine E.d 13 (by decide +kernel) ?_; cbv; (fail_if_success guard_target =~ False))
   | fail
  )
  ·simp only [Bool.and_true, Bool.and_eq_true, decide_eq_true_eq] at h_s
   have he : l.getD k id0 = l.getD k0 id0 := (EId.ext' h_s.1 h_s.2).trans hk3.symm
   have e : k = k0 := getD_inj hnd (by ((try simp only [nc] at *); omega)) hk2 he
   subst e
   show w64 ((k : Int) + 1) = p
   rw [hk1, w64_of (by ((try simp only [nc] at *); omega)) (by ((try simp only [nc] at *); omega))]
  ·refine ⟨by ((try simp only [nc] at *); omega), ?_⟩
   rcases Nat.lt_or_ge k k0 with hlt | hge
   ·omega
   ·exfalso
    have : k = k0 := by omega
    subst this
    rw [hk3] at h_s
    simp at h_s
  ·push_cast; rfl
  ·exfalso; ((try simp only [nc] at *); omega)
theorem wrf_ok (g : Gr) (h : GOk g) (a b : Nat) (ha : a < nG g) (hb : b < nG g) : Pure Tryz.prog γ false 86 [pW g, .i fun _ => (a : Int), .i fun _ => (b : Int)] (.b fun _ => rfM (viewG g) a b) := by
 have k := wfrom_ok (γ := γ) g h b hb
 refine Pure.go (ty := ty) ty_eq mo Tryz.func86 rfl Tryz.ntmps86 Tryz.results86 Tryz.call86 (by simp) fun P C CQ D W F E hF => ?_
 cbv
 repeat' (first
  | (refine E.c (SCalls.of_le (k) ?_ ?_); (· (cbv; (try simp only [nc] at *); first | done | (simp; done) | (simp (disch := (first | omega | (simp only [lnS, zA, zM, zG, zP]; omega))) only [nc, nct, w64_of, zT, zZ, zM, rdS, at_agg, bofZ, bof1, bof0, zC, zS, ← hll, implies_true, and_true, true_and, forall_const]; first | done | omega | (refine ⟨?_, ?_⟩ <;> omega)) | (simp (disch := (first | omega | (simp only [lnS, zA, zM, zG, zP]; omega))) [nc, nct, w64_of, zT, zZ, zM, rdS, at_agg, bofZ, bof1, bof0, zC, zS, ← hll]; done))); cbv)
  | (refine E.q (QCalls.of_le (k) ?_ ?_); (· (cbv; (try simp only [nc] at *); first | done | (simp; done) | (simp (disch := (first | omega | (simp only [lnS, zA, zM, zG, zP]; omega))) only [nc, nct, w64_of, zT, zZ, zM, rdS, at_agg, bofZ, bof1, bof0, zC, zS, ← hll, implies_true, and_true, true_and, forall_const]; first | done | omega | (refine ⟨?_, ?_⟩ <;> omega)) | (simp (disch := (first | omega | (simp only [lnS, zA, zM, zG, zP]; omega))) [nc, nct, w64_of, zT, zZ, zM, rdS, at_agg, bofZ, bof1, bof0, zC, zS, ← hll]; done))); cbv)
  | (refine ⟨fun _ h_s => ?_, fun _ h_s => ?_⟩ <;> (cbv; (try simp only [nc] at *); try simp (disch := (first | omega | (simp only [lnS, zA, zM, zG, zP]; omega))) only [nc, nct, w64_of, zT, zZ, zM, rdS, at_agg, bofZ, bof1, bof0, zC, zS, ← hll, reduceCtorEq, Bool.not_true, Bool.not_false, zD, zE, zB, zF, zN, zO, ne_eq, zQ, zL, zR, beq_iff_eq] at h_s))
  | (refine hF ?_; intro _; clear hF)
  | (refine hF ?_; cbv; clear hF)
  | (refine ⟨fun _ => ?_, ?_⟩; (· ((try simp only [nc] at *); first | done | omega | exact ⟨by omega, rfl⟩ | (simp (disch := (first | omega | (simp only [lnS, zA, zM, zG, zP]; omega))) only [nc, nct, w64_of, zT, zZ, zM, rdS, at_agg, bofZ, bof1, bof0, zC, zS, ← hll]; first | done | omega | rfl | exact ⟨by omega, rfl⟩ | (simp; done) | (simp; omega)) | (intros; trivial))); (try (simp only [nc] at *)); (try simp (disch := (first | omega | (simp only [lnS, zA, zM, zG, zP]; omega))) only [nc, nct, w64_of, zT, zZ, zM, rdS, at_agg, bofZ, bof1, bof0, zC, zS, ← hll]); (try cbv))
  | fail
 )
 all_goals (try simp only [nc] at *)
 all_goals (try simp (disch := (first | omega | (simp only [lnS, zA, zM, zG, zP]; omega))) only [nc, nct, w64_of, zT, zZ, zM, rdS, at_agg, bofZ, bof1, bof0, zC, zS, ← hll])
 all_goals (try simp only [rfM])
end Go.AL.Rl

namespace Go.AL.Rl
open Go Go.AL Go.Proofs
set_option maxRecDepth 100000
set_option maxHeartbeats 1600000
variable {γ : Nat → Option AV}

theorem co_eq {g : Gr} (h : GOk g) (a b : Nat) (ha : a < nG g) (hb : b < nG g) : coM (viewG g) a b = (writesM ((viewG g).ev.getD a ev0) && writesM ((viewG g).ev.getD b ev0) && decide (((viewG g).ev.getD a ev0).loc = ((viewG g).ev.getD b ev0).loc) && decide ((viewG g).pl.getD a 0 < (viewG g).pl.getD b 0)) := by
 rw [Bool.eq_iff_iff]
 unfold coM
 simp only [Bool.and_eq_true, decide_eq_true_eq, pl_iff h a ha]
 constructor
 ·rintro ⟨⟨h1, h2⟩, h3⟩
  have p1 := (pl_iff h a ha).2 h1
  refine ⟨⟨⟨h1, (pl_iff h b hb).1 (by omega)⟩, ?_⟩, h3⟩
  unfold nearM at h2
  simp only [Bool.and_eq_true, decide_eq_true_eq] at h2
  exact h2.2
 ·rintro ⟨⟨⟨h1, h2⟩, h3⟩, h4⟩
  exact ⟨⟨h1, near_of (notFence_w h1) (notFence_w h2) h3⟩, h4⟩
theorem fr_eq {g : Gr} (h : GOk g) (a b : Nat) (ha : a < nG g) : frM (viewG g) a b = (decide (a ≠ b) && readsM ((viewG g).ev.getD a ev0) && coM (viewG g) ((viewG g).fr.getD a 0).toNat b) := by
 unfold frM
 congr 2
 rw [Bool.eq_iff_iff, decide_eq_true_eq, fr_iff h a ha]
theorem wco_ok (g : Gr) (hg : Rd g) (h : GOk g) (a b : Nat) (ha : a < nG g) (hb : b < nG g) : Pure Tryz.prog γ false 87 [pW g, .i fun _ => (a : Int), .i fun _ => (b : Int)] (.b fun _ => coM (viewG g) a b) := by
 have h1 := evsG_l g
 have q1 := wwrites_ok (γ := γ) g a ha
 have q2 := wwrites_ok (γ := γ) g b hb
 have q3 := wplace_ok (γ := γ) g hg h a ha
 have q4 := wplace_ok (γ := γ) g hg h b hb
 rw [co_eq h a b ha hb]
 obtain ⟨wa, hwa⟩ : ∃ w, w = writesM ((viewG g).ev.getD a ev0) := ⟨_, rfl⟩
 obtain ⟨wb, hwb⟩ : ∃ w, w = writesM ((viewG g).ev.getD b ev0) := ⟨_, rfl⟩
 rw [← hwa] at q1 q3 ⊢
 rw [← hwb] at q2 q4 ⊢
 show Pure _ _ _ _ _ (.b fun _ => wa && wb && decide (((evsG g).getD a ev0).loc = ((evsG g).getD b ev0).loc) && decide ((viewG g).pl.getD a 0 < (viewG g).pl.getD b 0))
 generalize (viewG g).pl.getD a 0 = pa at *
 generalize (viewG g).pl.getD b 0 = pb at *
 refine Pure.go (ty := ty) ty_eq mo Tryz.func87 rfl Tryz.ntmps87 Tryz.results87 Tryz.call87 (by simp) fun P C CQ D W F E hF => ?_
 cbv
 repeat' (first
  | (refine E.c (SCalls.of_le (q4 (by assumption)) ?_ ?_); (· (cbv; (try simp only [nc] at *); first | done | (simp; done) | (simp (disch := (first | omega | (simp only [lnS, zA, zM, zG, zP]; omega))) only [nc, nct, w64_of, zT, zZ, zM, rdS, at_agg, bofZ, bof1, bof0, zC, zS, implies_true, and_true, true_and, forall_const]; first | done | omega | (refine ⟨?_, ?_⟩ <;> omega)) | (simp (disch := (first | omega | (simp only [lnS, zA, zM, zG, zP]; omega))) [nc, nct, w64_of, zT, zZ, zM, rdS, at_agg, bofZ, bof1, bof0, zC, zS]; done))); cbv)
  | (refine E.q (QCalls.of_le (q4 (by assumption)) ?_ ?_); (· (cbv; (try simp only [nc] at *); first | done | (simp; done) | (simp (disch := (first | omega | (simp only [lnS, zA, zM, zG, zP]; omega))) only [nc, nct, w64_of, zT, zZ, zM, rdS, at_agg, bofZ, bof1, bof0, zC, zS, implies_true, and_true, true_and, forall_const]; first | done | omega | (refine ⟨?_, ?_⟩ <;> omega)) | (simp (disch := (first | omega | (simp only [lnS, zA, zM, zG, zP]; omega))) [nc, nct, w64_of, zT, zZ, zM, rdS, at_agg, bofZ, bof1, bof0, zC, zS]; done))); cbv)
  | (refine E.c (SCalls.of_le (q3 (by assumption)) ?_ ?_); (· (cbv; (try simp only [nc] at *); first | done | (simp; done) | (simp (disch := (first | omega | (simp only [lnS, zA, zM, zG, zP]; omega))) only [nc, nct, w64_of, zT, zZ, zM, rdS, at_agg, bofZ, bof1, bof0, zC, zS, implies_true, and_true, true_and, forall_const]; first | done | omega | (refine ⟨?_, ?_⟩ <;> omega)) | (simp (disch := (first | omega | (simp only [lnS, zA, zM, zG, zP]; omega))) [nc, nct, w64_of, zT, zZ, zM, rdS, at_agg, bofZ, bof1, bof0, zC, zS]; done))); cbv)
  | (refine E.q (QCalls.of_le (q3 (by assumption)) ?_ ?_); (· (cbv; (try simp only [nc] at *); first | done | (simp; done) | (simp (disch := (first | omega | (simp only [lnS, zA, zM, zG, zP]; omega))) only [nc, nct, w64_of, zT, zZ, zM, rdS, at_agg, bofZ, bof1, bof0, zC, zS, implies_true, and_true, true_and, forall_const]; first | done | omega | (refine ⟨?_, ?_⟩ <;> omega)) | (simp (disch := (first | omega | (simp only [lnS, zA, zM, zG, zP]; omega))) [nc, nct, w64_of, zT, zZ, zM, rdS, at_agg, bofZ, bof1, bof0, zC, zS]; done))); cbv)
  | (refine E.c (SCalls.of_le (q2) ?_ ?_); (· (cbv; (try simp only [nc] at *); first | done | (simp; done) | (simp (disch := (first | omega | (simp only [lnS, zA, zM, zG, zP]; omega))) only [nc, nct, w64_of, zT, zZ, zM, rdS, at_agg, bofZ, bof1, bof0, zC, zS, implies_true, and_true, true_and, forall_const]; first | done | omega | (refine ⟨?_, ?_⟩ <;> omega)) | (simp (disch := (first | omega | (simp only [lnS, zA, zM, zG, zP]; omega))) [nc, nct, w64_of, zT, zZ, zM, rdS, at_agg, bofZ, bof1, bof0, zC, zS]; done))); cbv)
  | (refine E.q (QCalls.of_le (q2) ?_ ?_); (· (cbv; (try simp only [nc] at *); first | done | (simp; done) | (simp (disch := (first | omega | (simp only [lnS, zA, zM, zG, zP]; omega))) only [nc, nct, w64_of, zT, zZ, zM, rdS, at_agg, bofZ, bof1, bof0, zC, zS, implies_true, and_true, true_and, forall_const]; first | done | omega | (refine ⟨?_, ?_⟩ <;> omega)) | (simp (disch := (first | omega | (simp only [lnS, zA, zM, zG, zP]; omega))) [nc, nct, w64_of, zT, zZ, zM, rdS, at_agg, bofZ, bof1, bof0, zC, zS]; done))); cbv)
  | (refine E.c (SCalls.of_le (q1) ?_ ?_); (· (cbv; (try simp only [nc] at *); first | done | (simp; done) | (simp (disch := (first | omega | (simp only [lnS, zA, zM, zG, zP]; omega))) only [nc, nct, w64_of, zT, zZ, zM, rdS, at_agg, bofZ, bof1, bof0, zC, zS, implies_true, and_true, true_and, forall_const]; first | done | omega | (refine ⟨?_, ?_⟩ <;> omega)) | (simp (disch := (first | omega | (simp only [lnS, zA, zM, zG, zP]; omega))) [nc, nct, w64_of, zT, zZ, zM, rdS, at_agg, bofZ, bof1, bof0, zC, zS]; done))); cbv)
  | (refine E.q (QCalls.of_le (q1) ?_ ?_); (· (cbv; (try simp only [nc] at *); first | done | (simp; done) | (simp (disch := (first | omega | (simp only [lnS, zA, zM, zG, zP]; omega))) only [nc, nct, w64_of, zT, zZ, zM, rdS, at_agg, bofZ, bof1, bof0, zC, zS, implies_true, and_true, true_and, forall_const]; first | done | omega | (refine ⟨?_, ?_⟩ <;> omega)) | (simp (disch := (first | omega | (simp only [lnS, zA, zM, zG, zP]; omega))) [nc, nct, w64_of, zT, zZ, zM, rdS, at_agg, bofZ, bof1, bof0, zC, zS]; done))); cbv)
  | (refine ⟨fun _ h_s => ?_, fun _ h_s => ?_⟩ <;> (cbv; (try simp only [nc] at *); try simp (disch := (first | omega | (simp only [lnS, zA, zM, zG, zP]; omega))) only [nc, nct, w64_of, zT, zZ, zM, rdS, at_agg, bofZ, bof1, bof0, zC, zS, reduceCtorEq, Bool.not_true, Bool.not_false, zD, zE, zB, zF, zN, zO, ne_eq, zQ, zL, zR, beq_iff_eq] at h_s))
  | (refine hF ?_; intro _; clear hF)
  | (refine hF ?_; cbv; clear hF)
  | (refine ⟨fun _ => ?_, ?_⟩; (· ((try simp only [nc] at *); first | done | omega | exact ⟨by omega, rfl⟩ | (simp (disch := (first | omega | (simp only [lnS, zA, zM, zG, zP]; omega))) only [nc, nct, w64_of, zT, zZ, zM, rdS, at_agg, bofZ, bof1, bof0, zC, zS]; first | done | omega | rfl | exact ⟨by omega, rfl⟩ | (simp; done) | (simp; omega)) | (intros; trivial))); (try (simp only [nc] at *)); (try simp (disch := (first | omega | (simp only [lnS, zA, zM, zG, zP]; omega))) only [nc, nct, w64_of, zT, zZ, zM, rdS, at_agg, bofZ, bof1, bof0, zC, zS]); (try cbv))
  | (refine E.d 33 (by decide +kernel) ?_; cbv; (fail_if_success guard_target =~ False))
  | fail
 )
 all_goals (try simp only [nc] at *)
 all_goals (try simp (disch := (first | omega | (simp only [lnS, zA, zM, zG, zP]; omega))) only [nc, nct, w64_of, zT, zZ, zM, rdS, at_agg, bofZ, bof1, bof0, zC, zS])
 all_goals clear q1 q2 q3 q4
 all_goals simp_all
theorem wfr_ok (g : Gr) (hg : Rd g) (h : GOk g) (a b : Nat) (ha : a < nG g) (hb : b < nG g) : Pure Tryz.prog γ false 88 [pW g, .i fun _ => (a : Int), .i fun _ => (b : Int)] (.b fun _ => frM (viewG g) a b) := by
 have q1 := wreads_ok (γ := γ) g a ha
 have q2 := wfrom_ok (γ := γ) g h a ha
 have hi := fr_iff h a ha
 have hl := (viewG_wf h).frl a ha
 have q3 := fun h0 : 0 ≤ (viewG g).fr.getD a 0 => wco_ok (γ := γ) g hg h ((viewG g).fr.getD a 0).toNat b (by omega) hb
 rw [fr_eq h a b ha]
 obtain ⟨c, hc⟩ : ∃ c, c = coM (viewG g) ((viewG g).fr.getD a 0).toNat b := ⟨_, rfl⟩
 rw [← hc] at q3 ⊢
 obtain ⟨r, hr⟩ : ∃ w, w = readsM ((viewG g).ev.getD a ev0) := ⟨_, rfl⟩
 rw [← hr] at q1 hi ⊢
 generalize (viewG g).fr.getD a 0 = f at *
 have q4 : r = true → Pure Tryz.prog γ false 87 [pW g, .i fun _ => f, .i fun _ => (b : Int)] (.b fun _ => c) := fun hr => by
  have := q3 (hi.2 hr)
  rwa [Int.toNat_of_nonneg (hi.2 hr)] at this
 refine Pure.go (ty := ty) ty_eq mo Tryz.func88 rfl Tryz.ntmps88 Tryz.results88 Tryz.call88 (by simp) fun P C CQ D W F E hF => ?_
 cbv
 repeat' (first
  | (refine E.c (SCalls.of_le (q4 (by assumption)) ?_ ?_); (· (cbv; (try simp only [nc] at *); first | done | (simp; done) | (simp (disch := (first | omega | (simp only [lnS, zA, zM, zG, zP]; omega))) only [nc, nct, w64_of, zT, zZ, zM, rdS, at_agg, bofZ, bof1, bof0, zC, zS, implies_true, and_true, true_and, forall_const]; first | done | omega | (refine ⟨?_, ?_⟩ <;> omega)) | (simp (disch := (first | omega | (simp only [lnS, zA, zM, zG, zP]; omega))) [nc, nct, w64_of, zT, zZ, zM, rdS, at_agg, bofZ, bof1, bof0, zC, zS]; done))); cbv)
  | (refine E.c (SCalls.of_le (q2) ?_ ?_); (· (cbv; (try simp only [nc] at *); first | done | (simp; done) | (simp (disch := (first | omega | (simp only [lnS, zA, zM, zG, zP]; omega))) only [nc, nct, w64_of, zT, zZ, zM, rdS, at_agg, bofZ, bof1, bof0, zC, zS, implies_true, and_true, true_and, forall_const]; first | done | omega | (refine ⟨?_, ?_⟩ <;> omega)) | (simp (disch := (first | omega | (simp only [lnS, zA, zM, zG, zP]; omega))) [nc, nct, w64_of, zT, zZ, zM, rdS, at_agg, bofZ, bof1, bof0, zC, zS]; done))); cbv)
  | (refine E.c (SCalls.of_le (q1) ?_ ?_); (· (cbv; (try simp only [nc] at *); first | done | (simp; done) | (simp (disch := (first | omega | (simp only [lnS, zA, zM, zG, zP]; omega))) only [nc, nct, w64_of, zT, zZ, zM, rdS, at_agg, bofZ, bof1, bof0, zC, zS, implies_true, and_true, true_and, forall_const]; first | done | omega | (refine ⟨?_, ?_⟩ <;> omega)) | (simp (disch := (first | omega | (simp only [lnS, zA, zM, zG, zP]; omega))) [nc, nct, w64_of, zT, zZ, zM, rdS, at_agg, bofZ, bof1, bof0, zC, zS]; done))); cbv)
  | (refine ⟨fun _ h_s => ?_, fun _ h_s => ?_⟩ <;> (cbv; (try simp only [nc] at *); try simp (disch := (first | omega | (simp only [lnS, zA, zM, zG, zP]; omega))) only [nc, nct, w64_of, zT, zZ, zM, rdS, at_agg, bofZ, bof1, bof0, zC, zS, reduceCtorEq, Bool.not_true, Bool.not_false, zD, zE, zB, zF, zN, zO, ne_eq, zQ, zL, zR, beq_iff_eq] at h_s))
  | (refine hF ?_; intro _; clear hF)
  | (refine hF ?_; cbv; clear hF)
  | (refine ⟨fun _ => ?_, ?_⟩; (· ((try simp only [nc] at *); first | done | omega | exact ⟨by omega, rfl⟩ | (simp (disch := (first | omega | (simp only [lnS, zA, zM, zG, zP]; omega))) only [nc, nct, w64_of, zT, zZ, zM, rdS, at_agg, bofZ, bof1, bof0, zC, zS]; first | done | omega | rfl | exact ⟨by omega, rfl⟩ | (simp; done) | (simp; omega)) | (intros; trivial))); (try (simp only [nc] at *)); (try simp (disch := (first | omega | (simp only [lnS, zA, zM, zG, zP]; omega))) only [nc, nct, w64_of, zT, zZ, zM, rdS, at_agg, bofZ, bof1, bof0, zC, zS]); (try cbv))
  | fail
 )
 all_goals (try simp only [nc] at *)
 all_goals (try simp (disch := (first | omega | (simp only [lnS, zA, zM, zG, zP]; omega))) only [nc, nct, w64_of, zT, zZ, zM, rdS, at_agg, bofZ, bof1, bof0, zC, zS])
 all_goals clear q1 q2 q3 q4
 all_goals (have e : ((a : Int) = b) ↔ a = b := Int.ofNat_inj; simp_all)
end Go.AL.Rl

namespace Go.AL.Rl
open Go Go.AL Go.Proofs
set_option maxRecDepth 100000
set_option maxHeartbeats 1600000
variable {γ : Nat → Option AV}

end Go.AL.Rl

namespace Go.AL.Rl
open Go Go.AL Go.Proofs
set_option maxRecDepth 100000
set_option maxHeartbeats 1600000
variable {γ : Nat → Option AV}

def closedTo (V : Vw) (s : BitVec 64) (i : Nat) : Prop := ∀ j < i, (V.ev.getD j ev0).kind = 3 → s.getLsbD (V.fr.getD j 0).toNat = true → s.getLsbD j = true
theorem mod2_bit0 (x : BitVec 64) (i : Nat) : (x >>> i) % BitVec.ofInt 64 2 = 0#64 ↔ x.getLsbD i = false := by
 rw [← BitVec.toNat_inj, BitVec.toNat_umod, BitVec.toNat_ushiftRight, BitVec.getLsbD, Nat.testBit_eq_decide_div_mod_eq, decide_eq_false_iff_not, Nat.shiftRight_eq_div_pow]
 show x.toNat / 2 ^ i % 2 = 0 ↔ ¬ x.toNat / 2 ^ i % 2 = 1
 omega
theorem wsequence_ok (g : Gr) (h : GOk g) (w : Nat) (hw : w < nG g) : Pure Tryz.prog γ false 95 [pW g, .i fun _ => (w : Int)] (.u fun _ => seqM (viewG g) (nG g) w) := by
 have hn := (viewG_wf h).small
 have h64 : nG g ≤ 64 := by omega
 have hbw := bofInt (k := w) (by omega)
 have ew : w % 18446744073709551616 = w := Nat.mod_eq_of_lt (by omega)
 have hEl := evsG_l g
 have hVl : (viewG g).ev = evsG g := rfl
 have hfrom := fun i hi => wfrom_ok (γ := γ) g h i hi
 have hfr0 := fun i hi => fr_iff h i hi
 have hfrl := (viewG_wf h).frl
 refine Pure.go (ty := ty) ty_eq mo Tryz.func95 rfl Tryz.ntmps95 Tryz.results95 Tryz.call95 (by simp) fun P C CQ D W F E hF => ?_
 cbv
 repeat' (first
  | (refine ⟨fun _ h_s => ?_, fun _ h_s => ?_⟩ <;> (cbv; (try simp only [nc] at *); try simp (disch := (first | omega | (simp only [lnS, zA, zM, zG, zP]; omega))) only [nc, nct, w64_of, zT, zZ, zM, rdS, at_agg, bofZ, bof1, bof0, zC, zS, reduceCtorEq, Bool.not_true, Bool.not_false, zD, zE, zB, zF, zN, zO, ne_eq, zQ, zL, zR, beq_iff_eq] at h_s))
  | (refine hF ?_; intro _; clear hF)
  | (refine hF ?_; cbv; clear hF)
  | (refine ⟨fun _ => ?_, ?_⟩; (· ((try simp only [nc] at *); first | done | omega | exact ⟨by omega, rfl⟩ | (simp (disch := (first | omega | (simp only [lnS, zA, zM, zG, zP]; omega))) only [nc, nct, w64_of, zT, zZ, zM, rdS, at_agg, bofZ, bof1, bof0, zC, zS]; first | done | omega | rfl | exact ⟨by omega, rfl⟩ | (simp; done) | (simp; omega)) | (intros; trivial))); (try (simp only [nc] at *)); (try simp (disch := (first | omega | (simp only [lnS, zA, zM, zG, zP]; omega))) only [nc, nct, w64_of, zT, zZ, zM, rdS, at_agg, bofZ, bof1, bof0, zC, zS]); (try cbv))
  | fail
 )
 refine E.loopS (ι := BitVec 64 × Bool) (fun q => q.1.getLsbD w = true ∧ (∀ j, q.1.getLsbD j = true → InSeq (viewG g) (nG g) w j) ∧ (q.2 = false → closedTo (viewG g) q.1 (nG g))) (fun q => 2 * (64 - cntB 64 q.1) + if q.2 = true then 1 else 0) (fun q => [(5, .u fun _ => q.1), (6, .b fun _ => q.2)]) (fun q h => h) (1#64 <<< w, true) (fun _ => rfl) ?_ ?_ fun q hq I hI => ?_
 ·refine ⟨?_, fun j hj => ?_, fun hf => by cases hf⟩
  ·simp only; rw [BitVec.getLsbD_shiftLeft, BitVec.getLsbD_one]; simp; omega
  ·simp only at hj
   rw [BitVec.getLsbD_shiftLeft, BitVec.getLsbD_one] at hj
   simp at hj
   obtain rfl : j = w := by omega
   exact .base
 ·cbv
  simp only [hbw, bof0, bof1]
  simp
 obtain ⟨s, ag⟩ := q
 obtain ⟨hq1, hq2, hq3⟩ := hq
 simp only at hq1 hq2 hq3
 cbv
 repeat' (first
  | (refine ⟨fun _ h_s => ?_, fun _ h_s => ?_⟩ <;> (cbv; (try simp only [nc] at *); try simp (disch := (first | omega | (simp only [lnS, zA, zM, zG, zP]; omega))) only [nc, nct, w64_of, zT, zZ, zM, rdS, at_agg, bofZ, bof1, bof0, zC, zS, reduceCtorEq, Bool.not_true, Bool.not_false, zD, zE, zB, zF, zN, zO, ne_eq, zQ, zL, zR, beq_iff_eq] at h_s))
  | (refine hF ?_; intro _; clear hF)
  | (refine hF ?_; cbv; clear hF)
  | (refine ⟨fun _ => ?_, ?_⟩; (· ((try simp only [nc] at *); first | done | omega | exact ⟨by omega, rfl⟩ | (simp (disch := (first | omega | (simp only [lnS, zA, zM, zG, zP]; omega))) only [nc, nct, w64_of, zT, zZ, zM, rdS, at_agg, bofZ, bof1, bof0, zC, zS]; first | done | omega | rfl | exact ⟨by omega, rfl⟩ | (simp; done) | (simp; omega)) | (intros; trivial))); (try (simp only [nc] at *)); (try simp (disch := (first | omega | (simp only [lnS, zA, zM, zG, zP]; omega))) only [nc, nct, w64_of, zT, zZ, zM, rdS, at_agg, bofZ, bof1, bof0, zC, zS]); (try cbv))
  | fail
 )
 ·have hag : ag = true := by simpa using h_s
  subst hag
  refine E.loopS (ι := Nat × BitVec 64 × Bool) (fun p => p.1 ≤ nG g ∧ p.2.1.getLsbD w = true ∧ (∀ j, s.getLsbD j = true → p.2.1.getLsbD j = true) ∧ (∀ j, p.2.1.getLsbD j = true → InSeq (viewG g) (nG g) w j) ∧ (p.2.2 = false → p.2.1 = s ∧ closedTo (viewG g) s p.1) ∧ (p.2.2 = true → p.2.1 ≠ s)) (fun p => nG g - p.1) (fun p => [(5, .u fun _ => p.2.1), (6, .b fun _ => p.2.2), (7, .i fun _ => ((p.1 : Nat) : Int))]) (fun p h => h) (0, s, false) (fun _ => rfl) ?_ ?_ fun p hp I2 hI2 => ?_
  ·exact ⟨Nat.zero_le _, hq1, fun _ h => h, hq2, fun _ => ⟨rfl, fun j hj => absurd hj (Nat.not_lt_zero j)⟩, fun hf => by cases hf⟩
  ·cbv; simp
  obtain ⟨i, t, b⟩ := p
  obtain ⟨hp0, hp1, hp2, hp3, hp4, hp5⟩ := hp
  simp only at hp0 hp1 hp2 hp3 hp4 hp5
  cbv
  have kf := hfrom i
  have hbi := bofInt (k := i) (by omega)
  have eim : i % 18446744073709551616 = i := Nat.mod_eq_of_lt (by omega)
  have hstep : i < nG g → ((viewG g).ev.getD i ev0).kind = 3 → t.getLsbD ((viewG g).fr.getD i 0).toNat = true → InSeq (viewG g) (nG g) w i := fun h1 h2 h3 => .step h1 h2 (hp3 _ h3)
  have hnext : i < nG g → (((viewG g).ev.getD i ev0).kind = 3 → t.getLsbD i = false → t.getLsbD ((viewG g).fr.getD i 0).toNat = false) → (i + 1 ≤ nG g ∧ t.getLsbD w = true ∧ (∀ j, s.getLsbD j = true → t.getLsbD j = true) ∧ (∀ j, t.getLsbD j = true → InSeq (viewG g) (nG g) w j) ∧ (b = false → t = s ∧ closedTo (viewG g) s (i + 1)) ∧ (b = true → t ≠ s)) := fun h1 h2 => by
   refine ⟨h1, hp1, hp2, hp3, fun hb => ⟨(hp4 hb).1, fun j hj hk hs => ?_⟩, hp5⟩
   rcases Nat.lt_or_ge j i with hji | hji
   ·exact (hp4 hb).2 j hji hk hs
   ·have : j = i := by omega
    subst this
    cases hc : s.getLsbD j with
    | true => rfl
    | false =>
     have e := (hp4 hb).1
     have := h2 hk (by rw [e]; exact hc)
     rw [e, hs] at this; cases this
  repeat' (first
   | (refine E.c (SCalls.of_le (kf (by ((try simp only [nc] at *); omega))) ?_ ?_); (· (cbv; (try simp only [nc] at *); first | done | (simp; done) | (simp (disch := (first | omega | (simp only [lnS, zA, zM, zG, zP]; omega))) only [nc, nct, w64_of, zT, zZ, zM, rdS, at_agg, bofZ, bof1, bof0, zC, zS, implies_true, and_true, true_and, forall_const]; first | done | omega | (refine ⟨?_, ?_⟩ <;> omega)) | (simp (disch := (first | omega | (simp only [lnS, zA, zM, zG, zP]; omega))) [nc, nct, w64_of, zT, zZ, zM, rdS, at_agg, bofZ, bof1, bof0, zC, zS]; done))); cbv)
   | (refine ⟨fun _ h_s => ?_, fun _ h_s => ?_⟩ <;> (cbv; (try simp only [nc] at *); try simp (disch := (first | omega | (simp only [lnS, zA, zM, zG, zP]; omega))) only [nc, nct, w64_of, zT, zZ, zM, rdS, at_agg, bofZ, bof1, bof0, zC, zS, reduceCtorEq, Bool.not_true, Bool.not_false, zD, zE, zB, zF, zN, zO, ne_eq, zQ, zL, zR, beq_iff_eq] at h_s))
   | (refine hF ?_; intro _; clear hF)
   | (refine hF ?_; cbv; clear hF)
   | (refine ⟨fun _ => ?_, ?_⟩; (· ((try simp only [nc] at *); first | done | omega | exact ⟨by omega, rfl⟩ | (simp (disch := (first | omega | (simp only [lnS, zA, zM, zG, zP]; omega))) only [nc, nct, w64_of, zT, zZ, zM, rdS, at_agg, bofZ, bof1, bof0, zC, zS]; first | done | omega | rfl | exact ⟨by omega, rfl⟩ | (simp; done) | (simp; omega)) | (intros; trivial))); (try (simp only [nc] at *)); (try simp (disch := (first | omega | (simp only [lnS, zA, zM, zG, zP]; omega))) only [nc, nct, w64_of, zT, zZ, zM, rdS, at_agg, bofZ, bof1, bof0, zC, zS]); (try cbv))
   | fail
  )
  ·have hk3 : ((viewG g).ev.getD i ev0).kind = 3 := by assumption
   have hin : i < nG g := by ((try simp only [nc] at *); omega)
   have hf0 : 0 ≤ (viewG g).fr.getD i 0 := (hfr0 i hin).2 (by unfold readsM; rw [hk3]; rfl)
   have hb0 : t.getLsbD i = false := (mod2_bit0 t i).1 (by assumption)
   rw [bofZ hf0 (by have := hfrl i hin; omega), mod2_bit] at h_s
   have hbit : ∀ j, (t ||| 1#64 <<< i).getLsbD j = (t.getLsbD j || (1#64 <<< i).getLsbD j) := fun j => BitVec.getLsbD_or
   have hii : (1#64 <<< i).getLsbD i = true := by rw [one_shl_bit i i (by omega)]; simp
   refine hI2 (i + 1, t ||| 1#64 <<< i, true) ⟨hin, ?_, fun j hj => ?_, fun j hj => ?_, fun hf => (by cases hf), fun _ he => ?_⟩ (by simp only; omega) ?_
   ·simp only; rw [hbit, hp1]; rfl
   ·simp only; rw [hbit, hp2 j hj]; rfl
   ·simp only at hj
    rw [hbit, Bool.or_eq_true] at hj
    rcases hj with hj | hj
    ·exact hp3 j hj
    ·have hj64 : j < 64 := by
      rcases Nat.lt_or_ge j 64 with h' | h'
      ·exact h'
      ·rw [BitVec.getLsbD_of_ge _ _ h'] at hj; cases hj
     rw [one_shl_bit i j hj64] at hj
     have : i = j := by simpa using hj
     subst this
     exact hstep hin hk3 h_s
   ·simp only at he
    have h1 : s.getLsbD i = true := by rw [← he, hbit, hii]; simp
    rw [hp2 i h1] at hb0; cases hb0
   ·cbv
    clear hI hI2 kf hfrom
    have e := w64_of (n := (i : Int) + 1) (by omega) (by omega)
    (try simp only [nc] at *)
    simp [e, ew, eim]
  ·have hin : i < nG g := by ((try simp only [nc] at *); omega)
   refine hI2 (i + 1, t, b) (hnext hin fun hk3 hb0 => ?_) (by simp only; omega) ?_
   ·have hf0 : 0 ≤ (viewG g).fr.getD i 0 := (hfr0 i hin).2 (by unfold readsM; rw [hk3]; rfl)
    rw [bofZ hf0 (by have := hfrl i hin; omega), mod2_bit] at h_s
    simpa using h_s
   ·cbv
    clear hI hI2 kf hfrom
    have e := w64_of (n := (i : Int) + 1) (by omega) (by omega)
    (try simp only [nc] at *)
    simp [e, ew, eim]
  ·have hin : i < nG g := by ((try simp only [nc] at *); omega)
   refine hI2 (i + 1, t, b) (hnext hin fun hk3 hb0 => ?_) (by simp only; omega) ?_
   ·exfalso
    exact h_s ((mod2_bit0 t i).2 hb0)
   ·cbv
    clear hI hI2 kf hfrom
    have e := w64_of (n := (i : Int) + 1) (by omega) (by omega)
    (try simp only [nc] at *)
    simp [e, ew, eim]
  ·have hin : i < nG g := by ((try simp only [nc] at *); omega)
   refine hI2 (i + 1, t, b) (hnext hin fun hk3 hb0 => absurd hk3 h_s) (by simp only; omega) ?_
   cbv
   clear hI hI2 kf hfrom
   have e := w64_of (n := (i : Int) + 1) (by omega) (by omega)
   (try simp only [nc] at *)
   simp [e, ew, eim]
  ·have ei : i = nG g := by ((try simp only [nc] at *); omega)
   refine hI (t, b) ⟨hp1, hp3, fun hb => ?_⟩ ?_ ?_
   ·rw [(hp4 hb).1, ← ei]; exact (hp4 hb).2
   ·simp only
    have c1 := cntB_le s 64
    have c2 := cntB_le t 64
    cases b with
    | false => rw [(hp4 rfl).1]; simp
    | true => have := cntB_ne hp2 (Ne.symm (hp5 rfl)); simp; omega
   ·cbv
    clear hI hI2 kf hfrom
    simp [ew]
 ·have hag : ag = false := by simpa using h_s
  exact seq_unique h64 hw hq1 hq2 (hq3 hag)
end Go.AL.Rl

namespace Go.AL.Rl
open Go Go.AL Go.Proofs
set_option maxRecDepth 100000
set_option maxHeartbeats 1600000
variable {γ : Nat → Option AV}

end Go.AL.Rl

namespace Go.AL.Rl
open Go Go.AL Go.Proofs
set_option maxRecDepth 100000
set_option maxHeartbeats 1600000

def flC (c : Nat → Bool) (f : Nat → List (Int × Int)) (k : Nat) : List (Int × Int) := (List.range k).flatMap fun i => if c i = true then f i else []
theorem flC_zero (c : Nat → Bool) (f : Nat → List (Int × Int)) : flC c f 0 = [] := rfl
theorem flC_yes {c : Nat → Bool} (f : Nat → List (Int × Int)) {k : Nat} (h : c k = true) : flC c f (k + 1) = flC c f k ++ f k := by
 unfold flC; rw [List.range_succ, List.flatMap_append]; simp [h]
theorem flC_no {c : Nat → Bool} (f : Nat → List (Int × Int)) {k : Nat} (h : ¬ c k = true) : flC c f (k + 1) = flC c f k := by
 unfold flC; rw [List.range_succ, List.flatMap_append]; simp [h]
theorem flC_len (c : Nat → Bool) (f : Nat → List (Int × Int)) (m : Nat) (hf : ∀ i, (f i).length ≤ m) : ∀ k, (flC c f k).length ≤ k * m
 | 0 => by simp [flC]
 | k + 1 => by
  have ih := flC_len c f m hf k
  have := hf k
  rw [Nat.add_mul, Nat.one_mul]
  by_cases h : c k = true
  ·rw [flC_yes f h, List.length_append]; omega
  ·rw [flC_no f h]; omega
theorem flC_mem {c : Nat → Bool} {f : Nat → List (Int × Int)} {k : Nat} {q : Int × Int} : q ∈ flC c f k ↔ ∃ i < k, c i = true ∧ q ∈ f i := by
 unfold flC
 simp only [List.mem_flatMap, List.mem_range]
 constructor
 ·rintro ⟨i, hi, h⟩
  split at h
  ·exact ⟨i, hi, by assumption, h⟩
  ·cases h
 ·rintro ⟨i, hi, h1, h2⟩
  exact ⟨i, hi, by rw [if_pos h1]; exact h2⟩
def cwM (V : Vw) (w : Nat) : Bool := writesM (V.ev.getD w ev0) && decide ((V.ev.getD w ev0).order ≠ 1)
def crM (V : Vw) (w r : Nat) : Bool := relM (V.ev.getD r ev0) && (decide (r = w) || fenceM (V.ev.getD r ev0) && poM V r w)
def caM (V : Vw) (b a : Nat) : Bool := acqM (V.ev.getD a ev0) && (decide (a = b) || fenceM (V.ev.getD a ev0) && poM V b a)
theorem swR_cr (V : Vw) (w r : Nat) : swR V w r = (cwM V w && crM V w r) := by unfold swR cwM crM; simp only [Bool.and_assoc]
def lA (V : Vw) (b r a : Nat) : List (Int × Int) := flC (caM V b) (fun a => [((r : Int), (a : Int))]) a
def lR (V : Vw) (n w b r : Nat) : List (Int × Int) := flC (crM V w) (fun r => lA V b r n) r
noncomputable def lB (V : Vw) (n w b : Nat) : List (Int × Int) := flC (rdrM V (seqM V n w)) (fun b => lR V n w b n) b
noncomputable def lW (V : Vw) (n w : Nat) : List (Int × Int) := flC (cwM V) (fun w => lB V n w n) w
noncomputable def lAll (V : Vw) (n w b r a : Nat) : List (Int × Int) := lW V n w ++ lB V n w b ++ lR V n w b r ++ lA V b r a
theorem lA_len (V : Vw) (b r a : Nat) : (lA V b r a).length ≤ a := by have := flC_len (caM V b) (fun a => [((r : Int), (a : Int))]) 1 (fun _ => by simp) a; unfold lA; omega
theorem lR_len (V : Vw) (n w b r : Nat) : (lR V n w b r).length ≤ r * n := flC_len _ _ _ (fun _ => lA_len _ _ _ _) _
theorem lB_len (V : Vw) (n w b : Nat) : (lB V n w b).length ≤ b * (n * n) := flC_len _ _ _ (fun _ => lR_len _ _ _ _ _) _
theorem lW_len (V : Vw) (n w : Nat) : (lW V n w).length ≤ w * (n * (n * n)) := flC_len _ _ _ (fun _ => lB_len _ _ _ _) _
theorem lAll_len (V : Vw) (n w b r a : Nat) (hn : n ≤ 62) (hw : w ≤ n) (hb : b ≤ n) (hr : r ≤ n) (ha : a ≤ n) : (lAll V n w b r a).length ≤ 100000000 := by
 have h1 := lW_len V n w
 have h2 := lB_len V n w b
 have h3 := lR_len V n w b r
 have h4 := lA_len V b r a
 have e2 : n * n ≤ 62 * 62 := Nat.mul_le_mul hn hn
 have e3 : n * (n * n) ≤ 62 * (62 * 62) := Nat.mul_le_mul hn e2
 have f1 : w * (n * (n * n)) ≤ 62 * (62 * (62 * 62)) := Nat.mul_le_mul (by omega) e3
 have f2 : b * (n * n) ≤ 62 * (62 * 62) := Nat.mul_le_mul (by omega) e2
 have f3 : r * n ≤ 62 * 62 := Nat.mul_le_mul (by omega) hn
 unfold lAll
 simp only [List.length_append]
 omega
theorem lAll_a1 (V : Vw) (n w b r a : Nat) (h : caM V b a = true) : lAll V n w b r (a + 1) = lAll V n w b r a ++ [((r : Int), (a : Int))] := by
 unfold lAll lA; rw [flC_yes _ h]; simp only [List.append_assoc]
theorem lAll_a0 (V : Vw) (n w b r a : Nat) (h : ¬ caM V b a = true) : lAll V n w b r (a + 1) = lAll V n w b r a := by
 unfold lAll lA; rw [flC_no _ h]
theorem lAll_r1 (V : Vw) (n w b r : Nat) (h : crM V w r = true) : lAll V n w b (r + 1) 0 = lAll V n w b r n := by
 unfold lAll lR; rw [flC_yes _ h]; simp only [List.append_assoc]; simp [lA, flC_zero]
theorem lAll_r0 (V : Vw) (n w b r : Nat) (h : ¬ crM V w r = true) : lAll V n w b (r + 1) 0 = lAll V n w b r 0 := by
 unfold lAll lR; rw [flC_no _ h]; simp [lA, flC_zero]
theorem lAll_b1 (V : Vw) (n w b : Nat) (h : rdrM V (seqM V n w) b = true) : lAll V n w (b + 1) 0 0 = lAll V n w b n 0 := by
 unfold lAll lB; rw [flC_yes _ h]; simp [lA, lR, flC_zero]
theorem lAll_b0 (V : Vw) (n w b : Nat) (h : ¬ rdrM V (seqM V n w) b = true) : lAll V n w (b + 1) 0 0 = lAll V n w b 0 0 := by
 unfold lAll lB; rw [flC_no _ h]; simp [lA, lR, flC_zero]
theorem lAll_w1 (V : Vw) (n w : Nat) (h : cwM V w = true) : lAll V n (w + 1) 0 0 0 = lAll V n w n 0 0 := by
 unfold lAll lW; rw [flC_yes _ h]; simp [lA, lR, lB, flC_zero]
theorem lAll_w0 (V : Vw) (n w : Nat) (h : ¬ cwM V w = true) : lAll V n (w + 1) 0 0 0 = lAll V n w 0 0 0 := by
 unfold lAll lW; rw [flC_no _ h]; simp [lA, lR, lB, flC_zero]
theorem lAll_mem (V : Vw) (n : Nat) (q : Int × Int) : q ∈ lAll V n n 0 0 0 ↔ ∃ w < n, cwM V w = true ∧ ∃ b < n, rdrM V (seqM V n w) b = true ∧ ∃ r < n, crM V w r = true ∧ ∃ a < n, caM V b a = true ∧ q = ((r : Int), (a : Int)) := by
 have e : lAll V n n 0 0 0 = lW V n n := by unfold lAll; simp [lA, lR, lB, flC_zero]
 rw [e]
 unfold lW; rw [flC_mem]
 refine exists_congr fun w => and_congr_right fun _ => and_congr_right fun _ => ?_
 unfold lB; rw [flC_mem]
 refine exists_congr fun b => and_congr_right fun _ => and_congr_right fun _ => ?_
 unfold lR; rw [flC_mem]
 refine exists_congr fun r => and_congr_right fun _ => and_congr_right fun _ => ?_
 unfold lA; rw [flC_mem]
 refine exists_congr fun a => and_congr_right fun _ => and_congr_right fun _ => ?_
 simp
theorem rowT_bit (V : Vw) (n r a : Nat) : ∀ w, (rowT V n w r).getLsbD a = true ↔ ∃ v < w, swR V v r = true ∧ (tgtM V n v).getLsbD a = true
 | 0 => by simp [rowT]
 | w + 1 => by
  have ih := rowT_bit V n r a w
  unfold rowT
  constructor
  ·intro h
   split at h
   ·rw [BitVec.getLsbD_or, Bool.or_eq_true] at h
    rcases h with h | h
    ·obtain ⟨v, hv, h1, h2⟩ := ih.1 h; exact ⟨v, by omega, h1, h2⟩
    ·exact ⟨w, by omega, by assumption, h⟩
   ·obtain ⟨v, hv, h1, h2⟩ := ih.1 h; exact ⟨v, by omega, h1, h2⟩
  ·rintro ⟨v, hv, h1, h2⟩
   by_cases hvw : v = w
   ·subst hvw
    rw [if_pos h1, BitVec.getLsbD_or, h2, Bool.or_true]
   ·have h3 := ih.2 ⟨v, by omega, h1, h2⟩
    split
    ·rw [BitVec.getLsbD_or, h3]; rfl
    ·exact h3
theorem ne0_bit (x : BitVec 64) : x ≠ 0#64 ↔ ∃ j, x.getLsbD j = true := by
 constructor
 ·intro h
  refine Classical.byContradiction fun hc => h (BitVec.eq_of_getLsbD_eq fun i hi => ?_)
  cases hx : x.getLsbD i with
  | true => exact absurd ⟨i, hx⟩ hc
  | false => simp
 ·rintro ⟨j, hj⟩ h
  subst h; simp at hj
theorem tgt_bit (V : Vw) (n w a : Nat) (hn : n ≤ 62) : (tgtM V n w).getLsbD a = true ↔ a < n ∧ ∃ b < n, rdrM V (seqM V n w) b = true ∧ caM V b a = true := by
 unfold tgtM
 rw [mask_bit _ _ (by omega)]
 simp only [Bool.and_eq_true, decide_eq_true_eq, behM, Bool.or_eq_true, ne0_bit, BitVec.getLsbD_and, mask_bit _ _ (show n ≤ 64 by omega), caM]
 constructor
 ·rintro ⟨h1, h2, ⟨h3, h4⟩ | ⟨h3, j, ⟨h4, h5⟩, h6, h7⟩⟩
  ·exact ⟨h1, a, h3, h4, h2, .inl rfl⟩
  ·exact ⟨h1, j, h4, h5, h2, .inr ⟨h3, h7⟩⟩
 ·rintro ⟨h1, b, h2, h3, h4, h5 | ⟨h5, h6⟩⟩
  ·subst h5; exact ⟨h1, h4, .inl ⟨h2, h3⟩⟩
  ·exact ⟨h1, h4, .inr ⟨h5, b, ⟨h2, h3⟩, h2, h6⟩⟩
theorem ofTo_sw (V : Vw) (n : Nat) (hn : n ≤ 62) : ofTo n (lAll V n n 0 0 0) (lAll V n n 0 0 0).length = swF V n := by
 unfold swF
 refine rowsEq (n := n) (by rw [ofTo_len]; simp) (relRows_len n _) fun i j => ?_
 rw [bit_ofTo n (by omega) _ (fun q hq => by
  obtain ⟨_, _, _, _, _, _, r, hr, _, a, ha, _, he⟩ := (lAll_mem V n q).1 hq
  exact ⟨r, hr, a, ha, he⟩) i j _ (Nat.le_refl _), List.take_length, bit_rel (by omega), Bool.eq_iff_iff, decide_eq_true_iff, lAll_mem]
 by_cases hi : i < n
 ·have e : bit (swRows V n) i j = (rowT V n n i).getLsbD j := by unfold bit swRows; rw [tab_get n _ i hi]
  simp only [Bool.and_eq_true, decide_eq_true_eq, Prod.mk.injEq, Int.ofNat_inj, hi, true_and, e, rowT_bit, tgt_bit V n _ _ hn, swR_cr]
  constructor
  ·rintro ⟨w, hw, h1, b, hb, h2, r, hr, h3, a, ha, h4, h5, h6⟩
   subst h5; subst h6
   exact ⟨ha, w, hw, ⟨h1, h3⟩, ha, b, hb, h2, h4⟩
  ·rintro ⟨_, w, hw, ⟨h1, h3⟩, ha, b, hb, h2, h4⟩
   exact ⟨w, hw, h1, b, hb, h2, i, hi, h3, j, ha, h4, rfl, rfl⟩
 ·simp only [hi, decide_false, Bool.false_and, Bool.false_eq_true, iff_false]
  rintro ⟨w, hw, h1, b, hb, h2, r, hr, h3, a, ha, h4, h5⟩
  simp only [Prod.mk.injEq, Int.ofNat_inj] at h5
  omega
end Go.AL.Rl

namespace Go.AL.Rl
open Go Go.AL Go.Proofs
set_option maxRecDepth 100000
set_option maxHeartbeats 3200000

structure Emb (V U : Vw) (n m : Nat) (f : Nat → Nat) : Prop where
 lt : ∀ i < n, f i < m
 inj : ∀ i < n, ∀ j < n, f i = f j → i = j
 ids : ∀ i < n, U.ids.getD (f i) id0 = V.ids.getD i id0
 ev : ∀ i < n, U.ev.getD (f i) ev0 = V.ev.getD i ev0
 fr : ∀ i < n, ∀ j < n, V.fr.getD i 0 = (j : Nat) → U.fr.getD (f i) 0 = (f j : Nat)
 pl : ∀ i < n, ∀ j < n, nearM V i j = true → 0 ≤ V.pl.getD i 0 → V.pl.getD i 0 < V.pl.getD j 0 → 0 ≤ U.pl.getD (f i) 0 ∧ U.pl.getD (f i) 0 < U.pl.getD (f j) 0
 upd : ∀ i < n, (V.ev.getD i ev0).kind = 3 → U.pl.getD (f i) 0 = U.pl.getD (U.fr.getD (f i) 0).toNat 0 + 1 → V.pl.getD i 0 = V.pl.getD (V.fr.getD i 0).toNat 0 + 1
theorem sw_iffE {V : Vw} {n : Nat} (hn : n ≤ 62) {r a : Nat} : bit (swF V n) r a = true ↔ r < n ∧ a < n ∧ ∃ w < n, swR V w r = true ∧ ∃ b < n, rdrM V (seqM V n w) b = true ∧ caM V b a = true := by
 unfold swF
 rw [bit_rel (by omega)]
 simp only [Bool.and_eq_true, decide_eq_true_eq]
 refine and_congr_right fun hr => and_congr_right fun ha => ?_
 have e : bit (swRows V n) r a = (rowT V n n r).getLsbD a := by unfold bit swRows; rw [tab_get n _ r hr]
 rw [e, rowT_bit]
 constructor
 ·rintro ⟨w, hw, h1, h2⟩
  rw [tgt_bit V n w a hn] at h2
  exact ⟨w, hw, h1, h2.2⟩
 ·rintro ⟨w, hw, h1, h2⟩
  exact ⟨w, hw, h1, (tgt_bit V n w a hn).2 ⟨ha, h2⟩⟩
theorem circ_br {rows : List (BitVec 64)} : (circF rows).br = true ↔ ∃ i < rows.length, bit rows i i = true := by
 unfold circF
 cases e : leadM (fun i => bit rows i i) rows.length with
 | some i =>
  obtain ⟨h1, h2, _⟩ := leadM_mem e
  exact ⟨fun _ => ⟨i, h1, h2⟩, fun _ => rfl⟩
 | none =>
  constructor
  ·intro h; cases h
  ·rintro ⟨i, h1, h2⟩
   rw [leadM_nothing e i h1] at h2; cases h2
theorem upd_br {V : Vw} {n : Nat} : (updF V n).br = true ↔ ∃ i < n, updB V i = true := by
 unfold updF
 cases e : leadM (updB V) n with
 | some i =>
  obtain ⟨h1, h2, _⟩ := leadM_mem e
  exact ⟨fun _ => ⟨i, h1, h2⟩, fun _ => rfl⟩
 | none =>
  constructor
  ·intro h; cases h
  ·rintro ⟨i, h1, h2⟩
   rw [leadM_nothing e i h1] at h2; cases h2
theorem coh_br {hb eco : List (BitVec 64)} : (cohF hb eco).br = true ↔ ∃ a < hb.length, ∃ b < eco.length, cohB hb eco a b = true := by
 unfold cohF
 cases e : leadM (fun a => (cohR hb eco a).isSome) hb.length with
 | some a =>
  obtain ⟨h1, h2, _⟩ := leadM_mem e
  obtain ⟨b, hb2⟩ := Option.isSome_iff_exists.1 h2
  obtain ⟨h3, h4, _⟩ := leadM_mem hb2
  exact ⟨fun _ => ⟨a, h1, b, h3, h4⟩, fun _ => rfl⟩
 | none =>
  constructor
  ·intro h; cases h
  ·rintro ⟨a, h1, b, h2, h3⟩
   have := leadM_nothing e a h1
   cases e2 : cohR hb eco a with
   | some x => rw [e2] at this; cases this
   | none => rw [leadM_nothing e2 b h2] at h3; cases h3
theorem hb_fits (V : Vw) {n : Nat} (h : n ≤ 62) : Fits n (hbF V n) := fits_plus (fits_or2 (fits_poF V h) (fits_swF V h))
theorem eco_fits (V : Vw) {n : Nat} (h : n ≤ 62) : Fits n (ecoF V n) := fits_plus (fits_orP V h)
section
variable {V U : Vw} {n m : Nat} {f : Nat → Nat} (E : Emb V U n m f) (hV : Wf V n) (hU : Wf U m)
include E
theorem e_po {i j : Nat} (hi : i < n) (hj : j < n) : poM U (f i) (f j) = poM V i j := by
 unfold poM; rw [E.ids i hi, E.ids j hj]
theorem e_rf {i j : Nat} (hi : i < n) (hj : j < n) (h : rfM V i j = true) : rfM U (f i) (f j) = true := by
 unfold rfM at *
 rw [decide_eq_true_eq] at *
 exact E.fr j hj i hi h
theorem e_near {i j : Nat} (hi : i < n) (hj : j < n) : nearM U (f i) (f j) = nearM V i j := by
 unfold nearM; rw [E.ev i hi, E.ev j hj]
theorem e_co {i j : Nat} (hi : i < n) (hj : j < n) (h : coM V i j = true) : coM U (f i) (f j) = true := by
 unfold coM at *
 simp only [Bool.and_eq_true, decide_eq_true_eq] at *
 obtain ⟨⟨h1, h2⟩, h3⟩ := h
 have := E.pl i hi j hj h2 h1 h3
 exact ⟨⟨this.1, by rw [e_near E hi hj]; exact h2⟩, this.2⟩
include hV
theorem e_fr {i j : Nat} (hi : i < n) (hj : j < n) (h : frM V i j = true) : frM U (f i) (f j) = true := by
 unfold frM at *
 simp only [Bool.and_eq_true, decide_eq_true_eq] at *
 obtain ⟨⟨h1, h2⟩, h3⟩ := h
 have hl := hV.frl i hi
 have hk : (V.fr.getD i 0).toNat < n := by omega
 have e := E.fr i hi (V.fr.getD i 0).toNat hk (by omega)
 refine ⟨⟨fun h => h1 (E.inj i hi j hj h), by omega⟩, ?_⟩
 rw [e]
 have : ((f (V.fr.getD i 0).toNat : Nat) : Int).toNat = f (V.fr.getD i 0).toNat := by omega
 rw [this]
 exact e_co E hk hj h3
theorem e_seq {w : Nat} (hw : w < n) {j : Nat} (h : InSeq V n w j) : InSeq U m (f w) (f j) := by
 induction h with
 | base => exact .base
 | @step i hi hk hs ih =>
  have hr : readsM (V.ev.getD i ev0) = true := by unfold readsM; rw [hk]; rfl
  have h1 := hV.frg i hi hr
  have h2 := hV.frl i hi
  have e := E.fr i hi (V.fr.getD i 0).toNat (by omega) (by omega)
  refine .step (E.lt i hi) (by rw [E.ev i hi]; exact hk) ?_
  rw [e]
  have : ((f (V.fr.getD i 0).toNat : Nat) : Int).toNat = f (V.fr.getD i 0).toNat := by omega
  rw [this]; exact ih
include hU
theorem e_sw {i j : Nat} (h : bit (swF V n) i j = true) : bit (swF U m) (f i) (f j) = true := by
 rw [sw_iffE hV.small] at h
 obtain ⟨hi, hj, w, hw, h1, b, hb, h2, h3⟩ := h
 rw [sw_iffE hU.small]
 refine ⟨E.lt i hi, E.lt j hj, f w, E.lt w hw, ?_, f b, E.lt b hb, ?_, ?_⟩
 ·unfold swR at *
  rw [E.ev w hw, E.ev i hi, e_po E hi hw]
  simp only [Bool.and_eq_true, Bool.or_eq_true, decide_eq_true_eq] at *
  refine ⟨h1.1, h1.2.imp (fun h => by rw [h]) id⟩
 ·unfold rdrM at *
  rw [E.ev b hb]
  simp only [Bool.and_eq_true, decide_eq_true_eq] at *
  refine ⟨h2.1, ?_⟩
  have hlt := hV.frl b hb
  have hg := hV.frg b hb h2.1.1
  have e := E.fr b hb (V.fr.getD b 0).toNat (by omega) (by omega)
  rw [e]
  have : ((f (V.fr.getD b 0).toNat : Nat) : Int).toNat = f (V.fr.getD b 0).toNat := by omega
  rw [this]
  have hs := (seq_bit (by have := hV.small; omega) hw _).1 h2.2
  exact (seq_bit (by have := hU.small; omega) (E.lt w hw) _).2 (e_seq E hV hw hs)
 ·unfold caM at *
  rw [E.ev j hj, e_po E hb hj]
  simp only [Bool.and_eq_true, Bool.or_eq_true, decide_eq_true_eq] at *
  refine ⟨h3.1, h3.2.imp (fun h => by rw [h]) id⟩
theorem e_rel {p q : Nat → Nat → Bool} (h : ∀ i < n, ∀ j < n, p i j = true → q (f i) (f j) = true) {i j : Nat} (hb : bit (relRows n p) i j = true) : bit (relRows m q) (f i) (f j) = true := by
 rw [bit_relI hV.small] at hb
 rw [bit_relI hU.small]
 exact ⟨E.lt i hb.1, E.lt j hb.2.1, h i hb.1 j hb.2.1 hb.2.2⟩
omit E hV hU in
theorem e_plus {A B : List (BitVec 64)} (hB : Fits m B) (h : ∀ i j, bit A i j = true → bit B (f i) (f j) = true) {i j : Nat} (hb : bit (plusM n A) i j = true) : bit (plusM m B) (f i) (f j) = true :=
 plus_least (fun i j => bit (plusM m B) (f i) (f j) = true) (fun i j h1 => plus_edge (h i j h1)) (fun i k j h1 h2 => plus_trans hB h1 h2) hb
theorem e_orM {l k : List (Int × List (BitVec 64))} (h : ∀ x ∈ l, ∃ y ∈ k, ∀ i j, bit x.2 i j = true → bit y.2 (f i) (f j) = true) {i j : Nat} (hb : bit (orM n l) i j = true) : bit (orM m k) (f i) (f j) = true := by
 have _hV := hV
 have _hU := hU
 rw [bit_orM] at hb ⊢
 obtain ⟨hi, x, hx, hb⟩ := hb
 obtain ⟨y, hy, h2⟩ := h x hx
 exact ⟨E.lt i hi, y, hy, h2 i j hb⟩
theorem e_porf {i j : Nat} (h : bit (porfF V n) i j = true) : bit (porfF U m) (f i) (f j) = true := by
 have hf := fits_or2 (fits_poF U hU.small) (fits_rfF U hU.small)
 refine e_plus hf (fun i j h => ?_) h
 refine e_orM E hV hU (fun x hx => ?_) h
 simp only [List.mem_cons, List.not_mem_nil, or_false] at hx
 rcases hx with rfl | rfl
 ·exact ⟨((m : Int), poF U m), by simp, fun i j h => e_rel E hV hU (p := poM V) (q := poM U) (fun i hi j hj h => by rw [e_po E hi hj]; exact h) h⟩
 ·exact ⟨((m : Int), rfF U m), by simp, fun i j h => e_rel E hV hU (fun i hi j hj h => e_rf E hi hj h) h⟩
theorem e_hb {i j : Nat} (h : bit (hbF V n) i j = true) : bit (hbF U m) (f i) (f j) = true := by
 have hf := fits_or2 (fits_poF U hU.small) (fits_swF U hU.small)
 refine e_plus hf (fun i j h => ?_) h
 refine e_orM E hV hU (fun x hx => ?_) h
 simp only [List.mem_cons, List.not_mem_nil, or_false] at hx
 rcases hx with rfl | rfl
 ·exact ⟨((m : Int), poF U m), by simp, fun i j h => e_rel E hV hU (p := poM V) (q := poM U) (fun i hi j hj h => by rw [e_po E hi hj]; exact h) h⟩
 ·exact ⟨((m : Int), swF U m), by simp, fun i j h => e_sw E hV hU h⟩
theorem e_eco {i j : Nat} (h : bit (ecoF V n) i j = true) : bit (ecoF U m) (f i) (f j) = true := by
 refine e_plus (fits_orP U hU.small) (fun i j h => ?_) h
 refine e_orM E hV hU (fun x hx => ?_) h
 simp only [List.mem_cons, List.not_mem_nil, or_false] at hx
 rcases hx with rfl | rfl | rfl
 ·exact ⟨((m : Int), rfF U m), by simp, fun i j h => e_rel E hV hU (fun i hi j hj h => e_rf E hi hj h) h⟩
 ·exact ⟨((m : Int), coF U m), by simp, fun i j h => e_rel E hV hU (fun i hi j hj h => e_co E hi hj h) h⟩
 ·exact ⟨((m : Int), frF U m), by simp, fun i j h => e_rel E hV hU (fun i hi j hj h => e_fr E hV hi hj h) h⟩
omit E hV in
theorem fits_tog : Fits m (togF U m) := fits_or (by have := hU.small; omega) (by simp [fits_poF U hU.small, fits_rfF U hU.small, fits_coF U hU.small, fits_frF U hU.small])
theorem e_tog {i j : Nat} (h : bit (plusM n (togF V n)) i j = true) : bit (plusM m (togF U m)) (f i) (f j) = true := by
 refine e_plus (fits_tog hU) (fun i j h => ?_) h
 refine e_orM E hV hU (fun x hx => ?_) h
 simp only [List.mem_cons, List.not_mem_nil, or_false] at hx
 rcases hx with rfl | rfl | rfl | rfl
 ·exact ⟨((m : Int), poF U m), by simp, fun i j h => e_rel E hV hU (p := poM V) (q := poM U) (fun i hi j hj h => by rw [e_po E hi hj]; exact h) h⟩
 ·exact ⟨((m : Int), rfF U m), by simp, fun i j h => e_rel E hV hU (fun i hi j hj h => e_rf E hi hj h) h⟩
 ·exact ⟨((m : Int), coF U m), by simp, fun i j h => e_rel E hV hU (fun i hi j hj h => e_co E hi hj h) h⟩
 ·exact ⟨((m : Int), frF U m), by simp, fun i j h => e_rel E hV hU (fun i hi j hj h => e_fr E hV hi hj h) h⟩
theorem e_circ {A B : List (BitVec 64)} (h : ∀ i j, bit A i j = true → bit B (f i) (f j) = true) (hb : (circF A).br = true) : (circF B).br = true := by
 have _E := E
 have _hV := hV
 have _hU := hU
 obtain ⟨i, _, h2⟩ := circ_br.1 hb
 have := h i i h2
 refine circ_br.2 ⟨f i, ?_, this⟩
 rcases Nat.lt_or_ge (f i) B.length with h3 | h3
 ·exact h3
 ·rw [bit_out h3] at this; cases this
theorem flt_emb (k : Int) (h : (fltM V n k).br = true) : (fltM U m k).br = true := by
 unfold fltM at *
 split at h
 ·rename_i e
  rw [if_pos e]
  obtain ⟨i, hi, hb⟩ := upd_br.1 h
  refine upd_br.2 ⟨f i, E.lt i hi, ?_⟩
  unfold updB at *
  rw [Bool.and_eq_true, decide_eq_true_eq, decide_eq_true_eq] at *
  exact ⟨by rw [E.ev i hi]; exact hb.1, fun h => hb.2 (E.upd i hi hb.1 h)⟩
 ·rename_i e1
  rw [if_neg e1]
  split at h
  ·rename_i e; rw [if_pos e]; exact e_circ E hV hU (fun i j => e_porf E hV hU) h
  ·rename_i e2
   rw [if_neg e2]
   split at h
   ·rename_i e; rw [if_pos e]; exact e_circ E hV hU (fun i j => e_hb E hV hU) h
   ·rename_i e3
    rw [if_neg e3]
    split at h
    ·rename_i e
     rw [if_pos e]
     obtain ⟨a, ha, b, hb, hc⟩ := coh_br.1 h
     unfold cohB at hc
     simp only [Bool.and_eq_true, decide_eq_true_eq] at hc
     have z1 := e_hb E hV hU hc.1.2
     have z2 := e_eco E hV hU hc.2
     have f1 := fits_bits (hb_fits V hV.small) hc.1.2
     have l1 : ((hbF V n).length : Int) = n := (hb_fits V hV.small).2.2.1
     refine coh_br.2 ⟨f a, (fits_bits (hb_fits U hU.small) z1).1, f b, (fits_bits (eco_fits U hU.small) z2).1, ?_⟩
     unfold cohB
     simp only [Bool.and_eq_true, decide_eq_true_eq]
     exact ⟨⟨fun e => hc.1.1 (E.inj a (by omega) b (by omega) e), z1⟩, z2⟩
    ·rename_i e4
     rw [if_neg e4]
     split at h
     ·rename_i e; rw [if_pos e]; exact e_circ E hV hU (fun i j => e_tog E hV hU) h
     ·cases h
end
end Go.AL.Rl

namespace Go.AL.Rl
open Go Go.AL Go.Proofs
set_option maxRecDepth 100000
set_option maxHeartbeats 3200000

theorem numOf_sub {L : List EId} (hn : L.Nodup) {x y : EId} (hx : x ∈ L) (hy : y ∈ L) : numOf L x < numOf L y ↔ [x, y].Sublist L := by
 have hp : L.Pairwise fun x y => numOf L x < numOf L y := by
  rw [List.pairwise_iff_getElem]
  intro i j hi hj hij
  have h1 := numOf_at hn hi
  have h2 := numOf_at hn hj
  rw [show L.getD i id0 = L[i] by simp [hi]] at h1
  rw [show L.getD j id0 = L[j] by simp [hj]] at h2
  omega
 have hs : ∀ {a b : EId}, [a, b].Sublist L → numOf L a < numOf L b := fun h => List.pairwise_iff_forall_sublist.1 hp h
 constructor
 ·intro h
  rcases sub_or hx hy (fun e => by rw [e] at h; omega) with h1 | h1
  ·exact h1
  ·have := hs h1; omega
 ·exact fun h => hs h
theorem numOf_filter {L : List EId} (hn : L.Nodup) (p : EId → Bool) {x y : EId} (hx : x ∈ L.filter p) (hy : y ∈ L.filter p) (h : numOf (L.filter p) x < numOf (L.filter p) y) : numOf L x < numOf L y :=
 (numOf_sub hn (List.mem_filter.1 hx).1 (List.mem_filter.1 hy).1).2 (((numOf_sub (hn.filter p) hx hy).1 h).trans List.filter_sublist)
/-- the place of a write, by its location's order -/
theorem pl_in {g : Gr} {d : EId} (h0 : d.t ≠ 0) (h : 0 ≤ plOf g d) : d ∈ g.ord.getD ((eventM g d).getD ev0).loc.toNat [] ∧ plOf g d = (numOf (g.ord.getD ((eventM g d).getD ev0).loc.toNat []) d : Nat) + 1 := by
 unfold plOf at *
 rw [if_neg h0] at *
 cases e : (g.ord.getD ((eventM g d).getD ev0).loc.toNat []).findIdx? fun x => decide (x = d) with
 | none => rw [e] at h; simp at h
 | some k =>
  have hm : d ∈ g.ord.getD ((eventM g d).getD ev0).loc.toNat [] := by
   rw [List.findIdx?_eq_some_iff_getElem] at e
   obtain ⟨h1, h2, _⟩ := e
   rw [decide_eq_true_eq] at h2
   have := List.getElem_mem h1
   rwa [h2] at this
  refine ⟨hm, ?_⟩
  unfold numOf
  rw [e]; rfl
theorem pl_has {g : Gr} {d : EId} (h0 : d.t ≠ 0) (h : d ∈ g.ord.getD ((eventM g d).getD ev0).loc.toNat []) : plOf g d = (numOf (g.ord.getD ((eventM g d).getD ev0).loc.toNat []) d : Nat) + 1 := by
 unfold plOf
 rw [if_neg h0, numOf_find h]
theorem ord_nodup {g : Gr} (hg : GOk g) (x : Nat) : (g.ord.getD x []).Nodup := by
 rcases Nat.lt_or_ge x g.init.length with h | h
 ·exact ((ordered_iff g x).1 (hg.orders x h)).1
 ·have : g.ord.getD x [] = [] := by
   rw [List.getD_eq_getElem?_getD, List.getElem?_eq_none (by have := hg.lord; omega)]; rfl
  rw [this]; exact List.nodup_nil
theorem adj_split {L : List EId} {k : Nat} (hk : k < L.length) : L = L.take k ++ L.getD k id0 :: L.drop (k + 1) := by
 rw [show L.getD k id0 = L[k] by simp [hk], ← List.drop_eq_getElem_cons hk, List.take_append_drop]
theorem adj_at {L : List EId} (hn : L.Nodup) {A B : List EId} {x : EId} (e : L = A ++ x :: B) : numOf L x = A.length := by
 have h1 : A.length < L.length := by rw [e]; simp
 have h2 : L.getD A.length id0 = x := by rw [e]; simp
 have := numOf_at hn h1
 rwa [h2] at this
theorem adj_first {L : List EId} (hn : L.Nodup) (l : List EId) {x : EId} (hx : x ∈ L) (hl : x ∈ l) (h0 : numOf L x = 0) : numOf (keepO l L) x = 0 := by
 have hk := numOf_lt hx
 have e := adj_split hk
 rw [numOf_get hx, h0, List.take_zero, List.nil_append] at e
 have e2 : keepO l L = [] ++ x :: keepO l (L.drop (0 + 1)) := by
  conv => lhs; rw [e]
  unfold keepO
  rw [List.filter_cons_of_pos (by simpa using hl)]; rfl
 exact adj_at (hn.filter _) e2
theorem adj_next {L : List EId} (hn : L.Nodup) (l : List EId) {s d : EId} (hs : s ∈ L) (hd : d ∈ L) (hsl : s ∈ l) (hdl : d ∈ l) (h : numOf L d = numOf L s + 1) : numOf (keepO l L) d = numOf (keepO l L) s + 1 := by
 have hk := numOf_lt hd
 have e := adj_split hk
 rw [numOf_get hd] at e
 have e1 : L.take (numOf L d) = L.take (numOf L s) ++ [s] := by
  rw [h, take_succ' _ _ id0 (numOf_lt hs), numOf_get hs]
 rw [e1] at e
 generalize L.take (numOf L s) = A at e
 generalize L.drop (numOf L d + 1) = B at e
 have f1 : keepO l L = keepO l A ++ s :: (d :: keepO l B) := by
  conv => lhs; rw [e]
  unfold keepO
  rw [List.filter_append, List.filter_append, List.filter_cons_of_pos (by simpa using hsl), List.filter_cons_of_pos (by simpa using hdl), List.filter_nil]
  simp
 have f2 : keepO l L = (keepO l A ++ [s]) ++ d :: keepO l B := by rw [f1]; simp
 rw [adj_at (L := keepO l L) (hn.filter _) f1, adj_at (L := keepO l L) (hn.filter _) f2]
 simp
section
variable {g : Gr} {l : List EId} (hg : GOk g) (hC : ClG g l)
include hg hC
theorem k_idsT (d : EId) : d ∈ idsT (keepM g l) (keepM g l).th.length ↔ d ∈ l := by
 rw [← evT_iff]; exact k_evT hg hC d
theorem k_idsG (d : EId) (h : d ∈ idsG (keepM g l)) : d ∈ idsG g ∧ (d.t = 0 ∨ d ∈ l) := by
 rw [idsG, List.mem_append, idsI_mem] at h
 rw [idsG, List.mem_append, idsI_mem]
 rcases h with h | h
 ·exact ⟨.inl h, .inl h.1⟩
 ·have := (k_idsT hg hC d).1 h
  exact ⟨.inr (evT_iff.1 (hC.2.1 d this)), .inr this⟩
theorem k_nG : nG (keepM g l) = g.init.length + l.length := by
 unfold nG idsG
 rw [List.length_append, idsI_len]
 have hp : (idsT (keepM g l) (keepM g l).th.length).Perm l := (List.perm_ext_iff_of_nodup (idsT_nodup _ _) hC.1).2 (k_idsT hg hC)
 rw [hp.length_eq]
 rfl
theorem k_ord (x : Nat) : (keepM g l).ord.getD x [] = keepO l (g.ord.getD x []) := by
 have _hg := hg
 have _hC := hC
 unfold keepM
 rcases Nat.lt_or_ge x g.ord.length with h | h
 ·simp [h]
 ·simp [List.getElem?_eq_none h, keepO]
theorem k_ev' (d : EId) (h : d ∈ idsG (keepM g l)) : eventM (keepM g l) d = eventM g d := by
 rcases (k_idsG hg hC d h).2 with h1 | h1
 ·exact k_event0 _ h1
 ·exact k_event hg hC d h1
theorem k_emb : Emb (viewG (keepM g l)) (viewG g) (nG (keepM g l)) (nG g) fun i => numOf (idsG g) ((idsG (keepM g l)).getD i id0) := by
 have hk := k_ok hg hC
 have hm : ∀ i < nG (keepM g l), (idsG (keepM g l)).getD i id0 ∈ idsG (keepM g l) := fun i hi => getD_mem hi
 have hmg : ∀ i < nG (keepM g l), (idsG (keepM g l)).getD i id0 ∈ idsG g := fun i hi => (k_idsG hg hC _ (hm i hi)).1
 have hlt : ∀ i < nG (keepM g l), numOf (idsG g) ((idsG (keepM g l)).getD i id0) < nG g := fun i hi => numOf_lt (hmg i hi)
 have hev : ∀ i < nG (keepM g l), eventM g ((idsG (keepM g l)).getD i id0) = some ((viewG (keepM g l)).ev.getD i ev0) := fun i hi => by
  rw [← k_ev' hg hC _ (hm i hi)]; exact evsG_get _ i hi
 have hfr : ∀ i < nG (keepM g l), (viewG (keepM g l)).fr.getD i 0 = frOf (keepM g l) ((idsG (keepM g l)).getD i id0) := fun i hi => by
  show (tabI _ _).getD i 0 = _
  rw [tabI_get _ _ _ hi]
 have hpl : ∀ i < nG (keepM g l), (viewG (keepM g l)).pl.getD i 0 = plOf (keepM g l) ((idsG (keepM g l)).getD i id0) := fun i hi => by
  show (tabI _ _).getD i 0 = _
  rw [tabI_get _ _ _ hi]
 have gfr : ∀ i < nG (keepM g l), (viewG g).fr.getD (numOf (idsG g) ((idsG (keepM g l)).getD i id0)) 0 = frOf g ((idsG (keepM g l)).getD i id0) := fun i hi => by
  show (tabI _ _).getD _ 0 = _
  rw [tabI_get _ _ _ (hlt i hi), numOf_get (hmg i hi)]
 have gpl : ∀ i < nG (keepM g l), (viewG g).pl.getD (numOf (idsG g) ((idsG (keepM g l)).getD i id0)) 0 = plOf g ((idsG (keepM g l)).getD i id0) := fun i hi => by
  show (tabI _ _).getD _ 0 = _
  rw [tabI_get _ _ _ (hlt i hi), numOf_get (hmg i hi)]
 have gev : ∀ i < nG (keepM g l), (viewG g).ev.getD (numOf (idsG g) ((idsG (keepM g l)).getD i id0)) ev0 = (viewG (keepM g l)).ev.getD i ev0 := fun i hi => by
  have h1 := evsG_get g _ (hlt i hi)
  rw [numOf_get (hmg i hi), hev i hi] at h1
  exact (Option.some.inj h1).symm
 -- a source, in both
 have hsrc : ∀ i < nG (keepM g l), ∀ j < nG (keepM g l), (viewG (keepM g l)).fr.getD i 0 = (j : Nat) → ((idsG (keepM g l)).getD i id0) ∈ l ∧ readsM ((eventM g ((idsG (keepM g l)).getD i id0)).getD ev0) = true ∧ srcOf g ((idsG (keepM g l)).getD i id0) = (idsG (keepM g l)).getD j id0 := fun i hi j hj h => by
  rw [hfr i hi] at h
  unfold frOf at h
  by_cases h0 : ((idsG (keepM g l)).getD i id0).t = 0
  ·rw [if_pos h0] at h; omega
  ·rw [if_neg h0] at h
   have hin : ((idsG (keepM g l)).getD i id0) ∈ l := (k_idsG hg hC _ (hm i hi)).2.resolve_left h0
   rw [k_event hg hC _ hin] at h
   by_cases hr : readsM ((eventM g ((idsG (keepM g l)).getD i id0)).getD ev0) = true
   ·rw [if_pos hr, k_src hg hC _ hin] at h
    refine ⟨hin, hr, ?_⟩
    obtain ⟨w, hw, _⟩ := source_mem (src_ok hg (hmg i hi) h0) hr
    have hs : srcOf g ((idsG (keepM g l)).getD i id0) ∈ idsG (keepM g l) := by
     rw [idsG_mem, k_source hg hC _ hin hr, hw]; rfl
    rw [← numOf_get hs]
    congr 1; omega
   ·rw [if_neg hr] at h; omega
 have hfr2 : ∀ i < nG (keepM g l), ∀ j < nG (keepM g l), (viewG (keepM g l)).fr.getD i 0 = (j : Nat) → (viewG g).fr.getD (numOf (idsG g) ((idsG (keepM g l)).getD i id0)) 0 = (numOf (idsG g) ((idsG (keepM g l)).getD j id0) : Nat) := fun i hi j hj h => by
  obtain ⟨h1, h2, h3⟩ := hsrc i hi j hj h
  rw [gfr i hi]
  unfold frOf
  rw [if_neg (evT_t (hC.2.1 _ h1)), if_pos h2, h3]
 refine ⟨hlt, fun i hi j hj h => ?_, fun i hi => numOf_get (hmg i hi), gev, hfr2, fun i hi j hj hn h0 h1 => ?_, fun i hi hk3 h => ?_⟩
 ·have e : (idsG (keepM g l)).getD i id0 = (idsG (keepM g l)).getD j id0 := by
   rw [← numOf_get (hmg i hi), ← numOf_get (hmg j hj), h]
  exact getD_inj (idsG_nodup _) hi hj e
 ·rw [gpl i hi, gpl j hj]
  rw [hpl i hi] at h0 h1
  rw [hpl j hj] at h1
  -- the locations are one
  have hloc : ((eventM g ((idsG (keepM g l)).getD i id0)).getD ev0).loc = ((eventM g ((idsG (keepM g l)).getD j id0)).getD ev0).loc := by
   unfold nearM at hn
   simp only [Bool.and_eq_true, decide_eq_true_eq] at hn
   rw [hev i hi, hev j hj]
   exact hn.2
  have hjt : ((idsG (keepM g l)).getD j id0).t ≠ 0 := fun e => by
   unfold plOf at h1
   rw [if_pos e] at h1
   unfold plOf at h0
   omega
  obtain ⟨j1, j2⟩ := pl_in (g := keepM g l) hjt (by omega)
  have hjin : ((idsG (keepM g l)).getD j id0) ∈ l := (k_idsG hg hC _ (hm j hj)).2.resolve_left hjt
  rw [k_event hg hC _ hjin, k_ord hg hC] at j1 j2
  have j1' : ((idsG (keepM g l)).getD j id0) ∈ g.ord.getD ((eventM g ((idsG (keepM g l)).getD j id0)).getD ev0).loc.toNat [] := (List.mem_filter.1 j1).1
  have j3 := pl_has hjt j1'
  by_cases hit : ((idsG (keepM g l)).getD i id0).t = 0
  ·have e : plOf g ((idsG (keepM g l)).getD i id0) = 0 := by unfold plOf; rw [if_pos hit]
   rw [e, j3]
   omega
  ·obtain ⟨i1, i2⟩ := pl_in (g := keepM g l) hit h0
   have hiin : ((idsG (keepM g l)).getD i id0) ∈ l := (k_idsG hg hC _ (hm i hi)).2.resolve_left hit
   rw [k_event hg hC _ hiin, k_ord hg hC] at i1 i2
   have i1' : ((idsG (keepM g l)).getD i id0) ∈ g.ord.getD ((eventM g ((idsG (keepM g l)).getD i id0)).getD ev0).loc.toNat [] := (List.mem_filter.1 i1).1
   have i3 := pl_has hit i1'
   rw [i2, j2, hloc] at h1
   rw [hloc] at i1
   have := numOf_filter (ord_nodup hg _) _ i1 j1 (by unfold keepO at h1; omega)
   rw [i3, j3, hloc]
   omega
 ·have hr3 : readsM ((viewG (keepM g l)).ev.getD i ev0) = true := by unfold readsM; rw [hk3]; rfl
  have hV := viewG_wf hk
  have f1 := hV.frg i hi hr3
  have f2 := hV.frl i hi
  obtain ⟨j, hj⟩ : ∃ j : Nat, (viewG (keepM g l)).fr.getD i 0 = (j : Nat) := ⟨((viewG (keepM g l)).fr.getD i 0).toNat, by omega⟩
  have hjn : j < nG (keepM g l) := by omega
  have e1 := hfr2 i hi j hjn hj
  rw [e1] at h
  have e2 : ((numOf (idsG g) ((idsG (keepM g l)).getD j id0) : Nat) : Int).toNat = numOf (idsG g) ((idsG (keepM g l)).getD j id0) := by omega
  rw [e2, gpl i hi, gpl j hjn] at h
  rw [hj]
  have e3 : ((j : Nat) : Int).toNat = j := by omega
  rw [e3, hpl i hi, hpl j hjn]
  obtain ⟨s1, s2, s3⟩ := hsrc i hi j hjn hj
  have hit := evT_t (hC.2.1 _ s1)
  have hw : writesM ((eventM g ((idsG (keepM g l)).getD i id0)).getD ev0) = true := by
   rw [hev i hi, Option.getD_some]; unfold writesM; rw [hk3]; rfl
  obtain ⟨w, hw1, hw2, hw3, hw4, _⟩ := source_mem (src_ok hg (hmg i hi) hit) s2
  rw [s3] at hw1 hw2
  -- the update is in its location's order
  have hisW : isW g (((eventM g ((idsG (keepM g l)).getD i id0)).getD ev0).loc.toNat : Nat) ((idsG (keepM g l)).getD i id0) = true := by
   unfold isW
   rw [hev i hi] at hw ⊢
   simp only [Option.getD_some] at hw ⊢
   have hfine := (hg.events (((idsG (keepM g l)).getD i id0).t - 1).toNat (by have := (hC.2.1 _ s1).2.1; have := (hC.2.1 _ s1).1; omega)).2 ((idsG (keepM g l)).getD i id0).i.toNat (by have := (hC.2.1 _ s1).2.2; omega)
   have hT := event_T (hC.2.1 _ s1)
   rw [hev i hi] at hT
   rw [← Option.some.inj hT] at hfine
   have hl0 : 0 ≤ ((viewG (keepM g l)).ev.getD i ev0).loc := by
    unfold fineM at hfine
    simp only [Bool.and_eq_true] at hfine
    have := hfine.2
    rw [if_neg (by rw [hk3]; omega), decide_eq_true_eq] at this
    exact this.1
   rw [hw, decide_eq_true hit]
   simp only [Bool.and_true, Bool.true_and, decide_eq_true_eq]
   omega
  have hin := ord_has hg hisW
  have p1 := pl_has hit hin
  have p1k : plOf (keepM g l) ((idsG (keepM g l)).getD i id0) = (numOf (keepO l (g.ord.getD ((eventM g ((idsG (keepM g l)).getD i id0)).getD ev0).loc.toNat [])) ((idsG (keepM g l)).getD i id0) : Nat) + 1 := by
   have := pl_has (g := keepM g l) hit (by rw [k_event hg hC _ s1, k_ord hg hC]; exact List.mem_filter.2 ⟨hin, by simpa using s1⟩)
   rw [k_event hg hC _ s1, k_ord hg hC] at this
   exact this
  have hno := ord_nodup hg ((eventM g ((idsG (keepM g l)).getD i id0)).getD ev0).loc.toNat
  by_cases hjt : ((idsG (keepM g l)).getD j id0).t = 0
  ·have e4 : plOf g ((idsG (keepM g l)).getD j id0) = 0 := by unfold plOf; rw [if_pos hjt]
   have e5 : plOf (keepM g l) ((idsG (keepM g l)).getD j id0) = 0 := by unfold plOf; rw [if_pos hjt]
   rw [e4, p1] at h
   rw [e5, p1k]
   -- the first of all is the first of the kept
   have hz : numOf (g.ord.getD ((eventM g ((idsG (keepM g l)).getD i id0)).getD ev0).loc.toNat []) ((idsG (keepM g l)).getD i id0) = 0 := by omega
   have := adj_first hno l hin s1 hz
   rw [this]; rfl
  ·have sjin : ((idsG (keepM g l)).getD j id0) ∈ l := (k_idsG hg hC _ (hm j hjn)).2.resolve_left hjt
   have hlocs : ((eventM g ((idsG (keepM g l)).getD j id0)).getD ev0).loc = ((eventM g ((idsG (keepM g l)).getD i id0)).getD ev0).loc := by
    rw [hw1, Option.getD_some]; exact hw4
   have hge : 0 ≤ plOf g ((idsG (keepM g l)).getD j id0) := by omega
   obtain ⟨q1, q2⟩ := pl_in hjt hge
   rw [hlocs] at q1 q2
   have q2k : plOf (keepM g l) ((idsG (keepM g l)).getD j id0) = (numOf (keepO l (g.ord.getD ((eventM g ((idsG (keepM g l)).getD i id0)).getD ev0).loc.toNat [])) ((idsG (keepM g l)).getD j id0) : Nat) + 1 := by
    have := pl_has (g := keepM g l) hjt (by rw [k_event hg hC _ sjin, k_ord hg hC, hlocs]; exact List.mem_filter.2 ⟨q1, by simpa using sjin⟩)
    rw [k_event hg hC _ sjin, k_ord hg hC, hlocs] at this
    exact this
   rw [p1, q2] at h
   rw [p1k, q2k]
   have := adj_next hno l q1 hin sjin s1 (by omega)
   omega
end
end Go.AL.Rl

namespace Go.AL
open Go Go.RowKit
section
variable {P : Program} {γ : Nat → Option AV}

theorem HeapR.grow {B : Nat} {S : Nat → Prop} {ρ : List Loc} {h : List Blk} {w : World} (hh : HeapR B S γ ρ h w) (K : Nat) (hK : K < w.heap.size) (hB : B ≤ K) (hno : ∀ (b : Nat) (loc : Loc), ρ[b]? = some loc → loc.k ≠ some K) :
  HeapR B (fun k => S k ∨ k = K) γ ρ h w ∧ Ext B S ρ w (fun k => S k ∨ k = K) ρ w := by
 refine ⟨⟨hh.len, fun b blk loc h1 h2 => (hh.blk b blk loc h1 h2).mono (fun k hk => .inl hk) (fun _ _ => rfl) (LocsUp.refl ρ) fun _ _ => rfl, fun b loc k h1 h2 => ?_, hh.inj, fun k hk => ?_, fun g x hg => ?_, hh.bsz⟩,
  Fr.refl w, fun _ _ => rfl, fun k hk => .inl hk, fun _ _ => rfl, LocsUp.refl ρ, fun k hk => ?_⟩
 ·obtain ⟨k1, k2, k3⟩ := hh.own b loc k h1 h2
  refine ⟨fun hs => ?_, k2, k3⟩
  rcases hs with hs | hs
  ·exact k1 hs
  ·exact hno b loc h1 (by rw [h2, hs])
 ·rcases hk with hk | hk
  ·exact hh.sle k hk
  ·rw [hk]; exact hK
 ·exact R.mono (S := S) (fun k hk => .inl hk) (fun _ _ => rfl) (ρ := none) (ρ' := none) trivial _ _ (hh.gok g x hg)
 ·rcases hk with hk | hk
  ·exact .inl hk
  ·rw [hk]; exact .inr hB
end
end Go.AL

namespace Go.AL
open Go Go.RowKit
section
variable {P : Program} {γ : Nat → Option AV} {τ : Nat → TI} {C : EC}

def vown (t : TK) (cs : List CK) (n : Nat) (parts : List (Nat × AV)) (h : List Blk) (k : AV → List Blk → Prop) : Prop :=
 match t with
 | .slice _ sz _ (some zero) => if parts.all (fun p => p.2.closed && p.2.flat && (p.2.cells.length == sz) && decide (p.1 < n)) then
   if zero.closed && zero.flat && (zero.cells.length == sz) && decide (0 < sz) && decide (n * sz ≤ 16777216) then
    (∀ _ : Unit, ∀ v ∈ (LV.of ((setAll (List.replicate n zero) parts).map (AV.nrm cs))).l, v.flat = true) ∧ k (.sl h.length 0 sz (fun _ => 0) fun _ => n) (h ++ [.run 0 sz fun _ => LV.of ((setAll (List.replicate n zero) parts).map (AV.nrm cs))]) else False
  else False
 | _ => False
theorem run_vown {t : TypeId} {cs : List CK} {n : Nat} {parts : List (Nat × AV)} {h : List Blk} {k : AV → List Blk → Prop} (hv : vown (tiOf P t).k cs n parts h k) :
  ∃ y h', k y h' ∧ ∀ B S ρ w (qs : Array (Nat × Value)), HeapR B S γ ρ h w → PartsR S w (some ρ) parts qs.toList → ∃ y' S' ρ' w', (Instr.buildSlice t n qs).run P w = .ok y' w' ∧ Ext B S ρ w S' ρ' w' ∧ HeapR B S' γ ρ' h' w' ∧ R S' w' (some ρ') y y' := by
 unfold vown at hv
 split at hv
 ·rename_i e sz by' zero hk
  obtain ⟨h1, i, h2, h3, _, h5⟩ := tk_slice hk
  split at hv
  ·rename_i hp0
   simp only [List.all_eq_true, Bool.and_eq_true, beq_iff_eq, decide_eq_true_eq] at hp0
   split at hv
   ·rename_i hz0
    simp only [Bool.and_eq_true, beq_iff_eq, decide_eq_true_eq] at hz0
    obtain ⟨⟨⟨⟨hz1, hz2⟩, hz3⟩, hz4⟩, hz5⟩ := hz0
    obtain ⟨zv, hzv, rfl⟩ : ∃ zv, i.zero = some zv ∧ zero = ofV zv := by
     cases hx : i.zero with
     | none => simp [hx] at h5
     | some zv => exact ⟨zv, rfl, by simpa [hx] using h5.symm⟩
    have hzc : zv.cells.size = sz := by
     have := Rs_len (Rs_ofV (S := fun _ => True) (w := default) (ρ := none) zv)
     simpa [hz3] using this
    obtain ⟨hfl, hv⟩ := hv
    have hfl := hfl ()
    refine ⟨_, _, hv, fun B S ρ w qs hh hp => ?_⟩
    have hrep : ∀ e ∈ List.replicate n zv, e.cells.size = sz := fun e he => by rw [List.eq_of_mem_replicate he]; exact hzc
    have hqs : ∀ q ∈ qs.toList, (q.2.cells.size = sz ∧ q.1 < (List.replicate n zv).length) := by
     intro q hq
     obtain ⟨j, hj, rfl⟩ := List.mem_iff_getElem.1 hq
     obtain ⟨k1, k2⟩ := hp
     have hjp : j < parts.length := by have := congrArg List.length k1; simp at this; simp at hj; omega
     have hfst : parts[j].1 = (qs.toList[j]).1 := by
      have := congrArg (fun l => l[j]?) k1
      simpa [List.getElem?_eq_getElem hjp, List.getElem?_eq_getElem hj] using this
     have hr : R S w (some ρ) parts[j].2 (qs.toList[j]).2 := (Rs_iff.1 k2).2 j _ _ (by simp [List.getElem?_eq_getElem hjp]) (by simp [List.getElem?_eq_getElem hj])
     have hpj := hp0 parts[j] (List.getElem_mem hjp)
     refine ⟨?_, by rw [← hfst]; simpa using hpj.2⟩
     have := Rs_len (R_cells hr hpj.1.1.2).1
     simpa [hpj.1.2] using this
    obtain ⟨f1, f2⟩ := run_fill_slice qs.toList (List.replicate n zv) hrep hqs
    have hnsz : ¬ n * i.size > 2 ^ 24 := by rw [h3]; omega
    have hlen : (setAllV (List.replicate n zv) qs.toList).length = n := by rw [setAllV_length]; simp
    have hrl : RL S w (LV.of ((setAll (List.replicate n (ofV zv)) parts).map (AV.nrm cs))) (setAllV (List.replicate n zv) qs.toList) := by
     rw [RL_iff, LV.l_of]
     refine Rs_nrm cs (Rs_setAll (ρ := none) ⟨hp.1, ?_⟩ (Rs_replicate (R_ofV zv) n))
     have hcl : ∀ (ps : List AV), (∀ p ∈ ps, p.closed = true) → AV.closed.closeds ps = true := by
      intro ps
      induction ps with
      | nil => intro _; rfl
      | cons p ps ih => intro hps; simp only [AV.closed.closeds, Bool.and_eq_true]; exact ⟨hps p (by simp), ih fun q hq => hps q (by simp [hq])⟩
     exact closed_Rs _ _ (hcl _ fun p hp' => by
      obtain ⟨q, hq, rfl⟩ := List.mem_map.1 hp'
      exact (hp0 q hq).1.1.1) hp.2
    have hS : SameOn S w (w.alloc (.cells (flat (setAllV (List.replicate n zv) qs.toList)).toArray e)) := fun k hk => Below.heap_alloc w _ k (hh.sle k hk)
    have hone := onecells_of hrl hfl
    have hsz : (flat (setAllV (List.replicate n zv) qs.toList)).toArray.size = n * sz := by rw [List.size_toArray, flat_length f2, hlen]
    obtain ⟨p1, p2⟩ := hh.push (.cells (flat (setAllV (List.replicate n zv) qs.toList)).toArray e) (by intro _ _ _ _ e; cases e; exact ⟨rfl, rfl⟩) ⟨false, 0, some w.heap.size, sz, n * sz⟩ (.inl rfl) (.run 0 sz fun _ => LV.of ((setAll (List.replicate n (ofV zv)) parts).map (AV.nrm cs)))
     ⟨rfl, rfl, rfl, _, RL.mono (fun _ h => h) hS _ _ hrl, hone, .inr ⟨w.heap.size, _, e, rfl, heap_alloc_new w _, hsz, by rw [hlen]; exact Nat.le_refl _, fun j ev hj => ⟨f2 ev (List.mem_of_getElem? hj), fun c x hx => by
      have := flat_get f2 hj hx
      simpa using this⟩⟩⟩
    refine ⟨.slice (some ⟨w.heap.size, 0, none⟩) n n, _, _, w.alloc (.cells (flat (setAllV (List.replicate n zv) qs.toList)).toArray e), ?_, p2, p1, _, _, some ⟨w.heap.size, 0, none⟩, n, rfl, by rw [← hh.len]; exact getElem?_concat _ _, rfl, rfl, Nat.le_refl _, rfl, Nat.le_refl _, .inr ⟨_, _, rfl⟩, fun _ => .inr ⟨w.heap.size, rfl, .inr (by simp), by simp⟩⟩
    ·simp only [Instr.buildSlice, Sem.run_bind, run_underlying h1, Result.andThen_ok, run_sizeOf h2, hnsz, if_false]
     by_cases hn0 : n * i.size = 0
     ·have hn : n = 0 := by rcases Nat.mul_eq_zero.1 hn0 with h | h <;> omega
      subst hn
      simp only [hn0, if_true]
      have hq0 : qs.toList = [] := by
       cases hq : qs.toList with
       | nil => rfl
       | cons q _ => have := (hqs q (by simp [hq])).2; simp at this
      rw [hq0] at f1 ⊢
      simp [Instr.fill, newRow, setAllV, flat, Array.range_zero']
     ·simp only [hn0, if_false, Sem.run_bind, run_zeroValue h2 hzv, Result.andThen_ok, Sem.run_pure]
      have hz : ((Array.range (n * i.size)).map fun x => zv.cells[x % zv.cells.size]!) = (flat (List.replicate n zv)).toArray := by
       rw [flat_replicate, ← range_mod zv.cells sz hzc n, h3]
       rw [← List.map_toArray]
       congr 1
       exact Array.ext (by simp) (by intro j h1 h2; simp)
      rw [hz, h3, f1]
      simp [newRow]
   ·exact hv.elim
  ·exact hv.elim
 ·exact hv.elim

def vopO (own : List Nat) (τ : Nat → TI) (γ : Nat → Option AV) (C : EC) (o : Oper) (A : St) (K : St → Prop) : Prop :=
 match o.op with
 | .buildSlice t n ps => match o.dst with
  | some d => match own.contains d with
   | true => vown (τ t).k (τ (τ t).k.elem).cs n (ps.toList.map fun p => (p.1, A.ev γ p.2)) A.h fun v h => K (St.put ⟨A.n, A.s, h⟩ o.dst v)
   | false => vop τ γ C o A K
  | none => vop τ γ C o A K
 | _ => vop τ γ C o A K
theorem vopO_sound {own : List Nat} (hτ : ∀ t, τ t = tiOf P t) (hC : ∀ f args h Q, C f args h Q → SCalls P γ f args h Q) {o : Oper} {A : St} {K : St → Prop} (hv : vopO own τ γ C o A K) : OpR P γ o A K := by
 unfold vopO at hv
 split at hv
 ·rename_i t n ps ho
  split at hv
  ·split at hv
   ·rw [hτ, hτ] at hv
    obtain ⟨v, h', h1, h2⟩ := run_vown (γ := γ) hv
    have hr : OpR P γ o A (fun A' => A' = St.put ⟨A.n, A.s, h'⟩ o.dst v) := OpR.of_e fun B S ρ w re hh hx => by
     have hp : PartsR S w (some ρ) (ps.toList.map fun p => (p.1, A.ev γ p.2)) (ps.map fun x => (x.1, re x.2)).toList := by
      rw [Array.toList_map]
      exact PartsR.of _ fun p hp => hx p.2
     obtain ⟨y', S', ρ', w', k1, k2, k3, k4⟩ := h2 B S ρ w _ hh hp
     refine ⟨y', S', ρ', w', .inl ?_, k2, k3, k4⟩
     obtain ⟨dd, op, ty, pos, af, gg⟩ := o
     simp only at ho
     subst ho
     simp only [execOp, Sem.run_bind]; rw [k1]; rfl
    exact hr.mono fun A' e => e ▸ h1
   ·exact vop_sound hτ hC hv
  ·exact vop_sound hτ hC hv
 ·exact vop_sound hτ hC hv
/-- Operations, one behind the other. -/
def vopsO (own : List Nat) (τ : Nat → TI) (γ : Nat → Option AV) (C : EC) (ops : List Oper) : List Oper → St → (St → Prop) → Prop
 | [], A, K => K A
 | o :: r, A, K =>
  match o.guard with
  | none => vopO own τ γ C o A fun A => vopsO own τ γ C ops r A K
  | some (j, want) => match ops[j]? with
   | some oj => match oj.dst with
    | some d => match A.s.get d with
     | .tt => match want with
      | true => vopO own τ γ C o A fun A => vopsO own τ γ C ops r A K
      | false => vopsO own τ γ C ops r (A.put o.dst .undef) K
     | .ff => match want with
      | false => vopO own τ γ C o A fun A => vopsO own τ γ C ops r A K
      | true => vopsO own τ γ C ops r (A.put o.dst .undef) K
     | .undef => vopsO own τ γ C ops r (A.put o.dst .undef) K
     | .b x => match want with
      | true => (∀ _ : Unit, x () = true → vopO own τ γ C o (A.put (some d) .tt) fun A => vopsO own τ γ C ops r A K) ∧ (∀ _ : Unit, x () = false → vopsO own τ γ C ops r ((A.put (some d) .ff).put o.dst .undef) K)
      | false => (∀ _ : Unit, x () = true → vopsO own τ γ C ops r ((A.put (some d) .tt).put o.dst .undef) K) ∧ (∀ _ : Unit, x () = false → vopO own τ γ C o (A.put (some d) .ff) fun A => vopsO own τ γ C ops r A K)
     | _ => False
    | none => False
   | none => False

theorem vopsO_sound {own : List Nat} (hτ : ∀ t, τ t = tiOf P t) (hC : ∀ f args h Q, C f args h Q → SCalls P γ f args h Q) {ops : Array Oper} {Q : Exit → Act → World → Prop} {K : St → Prop} : ∀ (l : List Oper) (A : St) (B : Nat) (S : Nat → Prop) (ρ : List Loc) (a : Act) (w : World),
  Sim B S γ ρ A a w → vopsO own τ γ C ops.toList l A K → (∀ S' ρ' A' a' w', K A' → Sim B S' γ ρ' A' a' w' → Ext B S ρ w S' ρ' w' → Q .normal a' w') → wpList P ops Q l a w
 | [], A, B, S, ρ, a, w, hs, hv, hK => hK S ρ A a w hv hs (Ext.refl B S ρ w)
 | o :: l, A, B, S, ρ, a, w, hs, hv, hK => by
  have go : ∀ A0, Sim B S γ ρ A0 a w → vopO own τ γ C o A0 (fun A => vopsO own τ γ C ops.toList l A K) → o.wp P a w (wpList P ops Q l) Q := fun A0 hs0 h0 =>
   vopO_sound hτ hC h0 B S ρ a w _ _ hs0 fun S' ρ' A' a' w' h1 h2 h3 => vopsO_sound hτ hC l A' B S' ρ' a' w' h2 h1 fun S'' ρ'' A'' a'' w'' k1 k2 k3 => hK S'' ρ'' A'' a'' w'' k1 k2 (h3.trans k3)
  have skip : ∀ A0, Sim B S γ ρ A0 a w → vopsO own τ γ C ops.toList l (A0.put o.dst .undef) K → wpList P ops Q l (a.put o.dst Go.undef) w := fun A0 hs0 h0 =>
   vopsO_sound hτ hC l _ B S ρ _ w (hs0.put o.dst (v := .undef) (v' := Go.undef) rfl) h0 hK
  simp only [wpList]
  simp only [vopsO] at hv
  split at hv
  ·rename_i hg
   rw [if_pos (by simp [Region.wanted, hg])]
   exact .inl (go A hs hv)
  ·rename_i j want hg
   split at hv
   ·rename_i oj hj
    split at hv
    ·rename_i d hd
     have hy := yielded_eq hj hd a.tmps
     have hslot := hs.slot d
     have yes : ∀ b : Bool, a.tmps.getD d Go.undef = .bool b → want = b → Region.wanted o (yielded ops a.tmps) = true := fun b h1 h2 => by
      simp only [Region.wanted, hg, hy, h1, h2]; simp
     have no : ∀ b : Bool, a.tmps.getD d Go.undef = .bool b → want ≠ b → ¬ Region.wanted o (yielded ops a.tmps) = true := fun b h1 h2 => by
      simp only [Region.wanted, hg, hy, h1]; simp; exact fun h => h2 h.symm
     split at hv
     ·rename_i hst; rw [hst] at hslot
      split at hv
      ·rw [if_pos (yes true hslot rfl)]; exact .inl (go A hs hv)
      ·rw [if_neg (no true hslot (by simp))]; exact skip A hs hv
     ·rename_i hst; rw [hst] at hslot
      split at hv
      ·rw [if_pos (yes false hslot rfl)]; exact .inl (go A hs hv)
      ·rw [if_neg (no false hslot (by simp))]; exact skip A hs hv
     ·rename_i hst; rw [hst] at hslot
      have : ¬ Region.wanted o (yielded ops a.tmps) = true := by
       have e : a.tmps.getD d Go.undef = Go.undef := hslot
       unfold Region.wanted
       rw [hg]
       simp only [hy]
       rw [e]
       simp [Go.undef]
      rw [if_neg this]; exact skip A hs hv
     ·rename_i x hst; rw [hst] at hslot
      have hslot : a.tmps.getD d Go.undef = .bool (x ()) := hslot
      split at hv
      ·cases hx : x () with
       | true =>
        rw [hx] at hslot
        rw [if_pos (yes true hslot rfl)]; exact .inl (go _ (hs.reput d (v := .tt) hslot) (hv.1 () hx))
       | false =>
        rw [hx] at hslot
        rw [if_neg (no false hslot (by simp))]; exact skip _ (hs.reput d (v := .ff) hslot) (hv.2 () hx)
      ·cases hx : x () with
       | true =>
        rw [hx] at hslot
        rw [if_neg (no true hslot (by simp))]; exact skip _ (hs.reput d (v := .tt) hslot) (hv.1 () hx)
       | false =>
        rw [hx] at hslot
        rw [if_pos (yes false hslot rfl)]; exact .inl (go _ (hs.reput d (v := .ff) hslot) (hv.2 () hx))
     ·exact hv.elim
    ·exact hv.elim
   ·exact hv.elim

theorem AWP.regionO (own : List Nat) {id : Nat} {ops : Array Oper} {Q : Exit → St → Prop} {A : St} (hτ : ∀ t, τ t = tiOf P t) (hC : ∀ f args h Q, C f args h Q → SCalls P γ f args h Q) (hv : vopsO own τ γ C ops.toList ops.toList A (Q .normal)) : AWP P γ (.region id ops false) Q A :=
 fun B S ρ a w hs => wp_region_list (vopsO_sound hτ hC _ A B S ρ a w hs hv fun S' ρ' A' _ _ h1 h2 h3 => ⟨S', ρ', A', h1, h2, h3⟩)

end
section
variable {P : Program} {γ : Nat → Option AV}
/-- a function's contract on data, walked item by item; regions may be gone through with slices that are built in memory of their own -/
theorem Pure.goO {ty : Program → Nat → TI} (hτ : ∀ t, ty P t = tiOf P t) (hm : P.follows .mixedOrders = true) {f : FuncId} {fn : Func} {n : Nat} {rs : Array ResultVar}
  (hf : P.funcs[f]? = some fn) (hb : fn.body = some (fn.body.getD .skip)) (hn : fn.ntmps = n) (hr : fn.results = rs) (he : Enters P f) {args : List AV} {y : AV} (hsz : args.length ≤ n ∧ n < 1000)
  (h : ∀ (P' : Program) (C : EC) (CQ : List Blk → QC) (D : Array Oper → (St → Prop) → St → Prop) (W : Code → (Exit → St → Prop) → St → Prop) (F : AV → List Blk → Prop), Env P γ C CQ (ty P') D W →
   (∀ (own : List Nat) {id : Nat} {ops : Array Oper} {n : Nat} {r : List Code} {Q : Exit → St → Prop} {A : St}, vopsO own (ty P') γ C ops.toList ops.toList A (fun A => vcl (ty P') γ C D W r Q A) → AWPl P γ n (.region id ops false :: r) Q A) →
   (∀ {v h}, fz h y v → F v h) → AWPl P γ 0 (citems (fn.body.getD .skip)) (bodyQ (ty P') rs.toList F) (start n args [])) : Pure P γ false f args y :=
 Pure.of_body hτ hf hb hn (by rw [hr]) he hsz (AWPr.to (AWPr.of_items _ (h P _ _ _ _ _ (Env.top hτ hm) (fun own {id ops n r Q A} hv =>
  AWPr.mono (AWPr.of (AWP.regionO own (Q := thenE (fun A => vcl (ty P) γ (SCalls P γ) (Dany P γ (ty P)) (fun c Q A => AWP P γ (.loop c) Q A) r Q A) Q) hτ (fun _ _ _ _ h => h) hv)) fun e A' h' => by
   cases e with
   | normal => exact (Env.top hτ hm).bl h'
   | _ => exact h') (fun h => h))))
end
end Go.AL

namespace Go.AL.Rl
open Go Go.AL Go.Proofs
set_option maxRecDepth 100000
set_option maxHeartbeats 3200000
variable {γ : Nat → Option AV}

theorem rEvent_ok (g : Gr) (hg : Rd g) (h : GOk g) (d : EId) : Pure Tryz.prog γ false 109 [aGr g, aId d] (.tup [aEv ((eventM g d).getD ev0), .b fun _ => (eventM g d).isSome]) := by
 have ke := revent_ok (γ := γ) g hg d
 have kc := check14_ok (γ := γ) g hg
 rw [gcheck0 h] at kc
 cases e : eventM g d with
 | some x =>
  rw [e] at ke
  simp only [Option.getD_some, Option.isSome_some] at ke ⊢
  refine Pure.go (ty := ty) ty_eq mo Tryz.func109 rfl Tryz.ntmps109 Tryz.results109 Tryz.call109 (by simp) fun P C CQ D W F E hF => ?_
  cbv
  repeat' (first
   | (refine E.c (SCalls.of_le (kc) ?_ ?_); (· (cbv; (try simp only [nc] at *); first | done | (simp; done) | (simp (disch := (first | omega | (simp only [lnS, zA, zM, zG, zP]; omega))) only [nc, nct, w64_of, zT, zZ, zM, rdS, at_agg, bofZ, bof1, bof0, zC, zS, implies_true, and_true, true_and, forall_const]; first | done | omega | (refine ⟨?_, ?_⟩ <;> omega)) | (simp (disch := (first | omega | (simp only [lnS, zA, zM, zG, zP]; omega))) [nc, nct, w64_of, zT, zZ, zM, rdS, at_agg, bofZ, bof1, bof0, zC, zS]; done))); cbv)
   | (refine E.c (SCalls.of_le (ke) ?_ ?_); (· (cbv; (try simp only [nc] at *); first | done | (simp; done) | (simp (disch := (first | omega | (simp only [lnS, zA, zM, zG, zP]; omega))) only [nc, nct, w64_of, zT, zZ, zM, rdS, at_agg, bofZ, bof1, bof0, zC, zS, implies_true, and_true, true_and, forall_const]; first | done | omega | (refine ⟨?_, ?_⟩ <;> omega)) | (simp (disch := (first | omega | (simp only [lnS, zA, zM, zG, zP]; omega))) [nc, nct, w64_of, zT, zZ, zM, rdS, at_agg, bofZ, bof1, bof0, zC, zS]; done))); cbv)
   | (refine ⟨fun _ h_s => ?_, fun _ h_s => ?_⟩ <;> (cbv; (try simp only [nc] at *); try simp (disch := (first | omega | (simp only [lnS, zA, zM, zG, zP]; omega))) only [nc, nct, w64_of, zT, zZ, zM, rdS, at_agg, bofZ, bof1, bof0, zC, zS, reduceCtorEq, Bool.not_true, Bool.not_false, zD, zE, zB, zF, zN, zO, ne_eq, zQ, zL, zR, beq_iff_eq] at h_s))
   | (refine hF ?_; intro _; clear hF)
   | (refine hF ?_; cbv; clear hF)
   | (refine ⟨fun _ => ?_, ?_⟩; (· ((try simp only [nc] at *); first | done | omega | exact ⟨by omega, rfl⟩ | (simp (disch := (first | omega | (simp only [lnS, zA, zM, zG, zP]; omega))) only [nc, nct, w64_of, zT, zZ, zM, rdS, at_agg, bofZ, bof1, bof0, zC, zS]; first | done | omega | rfl | exact ⟨by omega, rfl⟩ | (simp; done) | (simp; omega)) | (intros; trivial))); (try (simp only [nc] at *)); (try simp (disch := (first | omega | (simp only [lnS, zA, zM, zG, zP]; omega))) only [nc, nct, w64_of, zT, zZ, zM, rdS, at_agg, bofZ, bof1, bof0, zC, zS]); (try cbv))
   | fail
  )
  all_goals first
   | (simp; done)
   | (exfalso; revert h_s; simp; done)
 | none =>
  rw [e] at ke
  simp only [Option.getD_none, Option.isSome_none] at ke ⊢
  refine Pure.go (ty := ty) ty_eq mo Tryz.func109 rfl Tryz.ntmps109 Tryz.results109 Tryz.call109 (by simp) fun P C CQ D W F E hF => ?_
  cbv
  repeat' (first
   | (refine E.c (SCalls.of_le (kc) ?_ ?_); (· (cbv; (try simp only [nc] at *); first | done | (simp; done) | (simp (disch := (first | omega | (simp only [lnS, zA, zM, zG, zP]; omega))) only [nc, nct, w64_of, zT, zZ, zM, rdS, at_agg, bofZ, bof1, bof0, zC, zS, implies_true, and_true, true_and, forall_const]; first | done | omega | (refine ⟨?_, ?_⟩ <;> omega)) | (simp (disch := (first | omega | (simp only [lnS, zA, zM, zG, zP]; omega))) [nc, nct, w64_of, zT, zZ, zM, rdS, at_agg, bofZ, bof1, bof0, zC, zS]; done))); cbv)
   | (refine E.c (SCalls.of_le (ke) ?_ ?_); (· (cbv; (try simp only [nc] at *); first | done | (simp; done) | (simp (disch := (first | omega | (simp only [lnS, zA, zM, zG, zP]; omega))) only [nc, nct, w64_of, zT, zZ, zM, rdS, at_agg, bofZ, bof1, bof0, zC, zS, implies_true, and_true, true_and, forall_const]; first | done | omega | (refine ⟨?_, ?_⟩ <;> omega)) | (simp (disch := (first | omega | (simp only [lnS, zA, zM, zG, zP]; omega))) [nc, nct, w64_of, zT, zZ, zM, rdS, at_agg, bofZ, bof1, bof0, zC, zS]; done))); cbv)
   | (refine ⟨fun _ h_s => ?_, fun _ h_s => ?_⟩ <;> (cbv; (try simp only [nc] at *); try simp (disch := (first | omega | (simp only [lnS, zA, zM, zG, zP]; omega))) only [nc, nct, w64_of, zT, zZ, zM, rdS, at_agg, bofZ, bof1, bof0, zC, zS, reduceCtorEq, Bool.not_true, Bool.not_false, zD, zE, zB, zF, zN, zO, ne_eq, zQ, zL, zR, beq_iff_eq] at h_s))
   | (refine hF ?_; intro _; clear hF)
   | (refine hF ?_; cbv; clear hF)
   | (refine ⟨fun _ => ?_, ?_⟩; (· ((try simp only [nc] at *); first | done | omega | exact ⟨by omega, rfl⟩ | (simp (disch := (first | omega | (simp only [lnS, zA, zM, zG, zP]; omega))) only [nc, nct, w64_of, zT, zZ, zM, rdS, at_agg, bofZ, bof1, bof0, zC, zS]; first | done | omega | rfl | exact ⟨by omega, rfl⟩ | (simp; done) | (simp; omega)) | (intros; trivial))); (try (simp only [nc] at *)); (try simp (disch := (first | omega | (simp only [lnS, zA, zM, zG, zP]; omega))) only [nc, nct, w64_of, zT, zZ, zM, rdS, at_agg, bofZ, bof1, bof0, zC, zS]); (try cbv))
   | fail
  )
  all_goals first
   | (simp; done)
   | (exfalso; revert h_s; simp; done)
def wrsM (g : Gr) (x : Int) : List EId := if 0 ≤ x ∧ x < g.init.length then ⟨0, x⟩ :: g.ord.getD x.toNat [] else []
theorem ord_le {g : Gr} (h : GOk g) (x : Nat) : (g.ord.getD x []).length ≤ 56 := by
 rcases Nat.lt_or_ge x g.init.length with h1 | h1
 ·have h2 := ((ordered_iff g x).1 (h.orders x h1)).2.2
  have h3 := cntT_le (x : Int) h.short.ths
  have := h.short.th
  omega
 ·have : g.ord.getD x [] = [] := by
   rw [List.getD_eq_getElem?_getD, List.getElem?_eq_none (by have := h.lord; omega)]; rfl
  rw [this]; simp
theorem idsFlat (l : List EId) : ∀ v ∈ (ids l).l, v.flat = true := by
 intro v hv
 simp only [ids, LV.l_of, List.mem_map] at hv
 obtain ⟨x, _, rfl⟩ := hv
 rfl
theorem rWrites_ok (g : Gr) (hg : Rd g) (h : GOk g) (x : Int) : Pure Tryz.prog γ false 110 [aGr g, .i fun _ => x] (.vs 2 fun _ => ids (wrsM g x)) := by
 have kc := check14_ok (γ := γ) g hg
 rw [gcheck0 h] at kc
 have hlo := h.lord
 have hin := h.short.init
 by_cases hx : 0 ≤ x ∧ x < g.init.length
 ·have hol := ord_le h x.toNat
  unfold wrsM
  rw [if_pos hx]
  refine Pure.goO (ty := ty) ty_eq mo Tryz.func110 rfl Tryz.ntmps110 Tryz.results110 Tryz.call110 (by simp) fun P C CQ D W F E RO hF => ?_
  refine E.cut 3 (told 28 [(1, .i fun _ => x), (2, .ptr 0 0)] [.box (aGr g)]) (by kernel_rfl) (Nat.zero_le _) (fun I hI => ?_) ?_
  ·cbv
   repeat' (first
    | (refine E.c (SCalls.of_le (kc) ?_ ?_); (· (cbv; (try simp only [nc] at *); first | done | (simp; done) | (simp (disch := (first | omega | (simp only [lnS, zA, zM, zG, zP]; omega))) only [nc, nct, w64_of, zT, zZ, zM, rdS, at_agg, bofZ, bof1, bof0, zC, zS, implies_true, and_true, true_and, forall_const]; first | done | omega | (refine ⟨?_, ?_⟩ <;> omega)) | (simp (disch := (first | omega | (simp only [lnS, zA, zM, zG, zP]; omega))) [nc, nct, w64_of, zT, zZ, zM, rdS, at_agg, bofZ, bof1, bof0, zC, zS]; done))); cbv)
    | (refine ⟨fun _ h_s => ?_, fun _ h_s => ?_⟩ <;> (cbv; (try simp only [nc] at *); try simp (disch := (first | omega | (simp only [lnS, zA, zM, zG, zP]; omega))) only [nc, nct, w64_of, zT, zZ, zM, rdS, at_agg, bofZ, bof1, bof0, zC, zS, reduceCtorEq, Bool.not_true, Bool.not_false, zD, zE, zB, zF, zN, zO, ne_eq, zQ, zL, zR, beq_iff_eq] at h_s))
    | (refine hF ?_; intro _; clear hF)
    | (refine hF ?_; cbv; clear hF)
    | (refine ⟨fun _ => ?_, ?_⟩; (· ((try simp only [nc] at *); first | done | omega | exact ⟨by omega, rfl⟩ | (simp (disch := (first | omega | (simp only [lnS, zA, zM, zG, zP]; omega))) only [nc, nct, w64_of, zT, zZ, zM, rdS, at_agg, bofZ, bof1, bof0, zC, zS]; first | done | omega | rfl | exact ⟨by omega, rfl⟩ | (simp; done) | (simp; omega)) | (intros; trivial))); (try (simp only [nc] at *)); (try simp (disch := (first | omega | (simp only [lnS, zA, zM, zG, zP]; omega))) only [nc, nct, w64_of, zT, zZ, zM, rdS, at_agg, bofZ, bof1, bof0, zC, zS]); (try cbv))
    | fail
   )
   ·exact absurd h_s (by simp)
   ·exfalso; ((try simp only [nc] at *); omega)
   ·exfalso; ((try simp only [nc] at *); omega)
   ·refine hI ?_
    cbv; simp
  refine RO [21] ?_
  cbv
  skip
  skip
  repeat' (first
   | (refine ⟨fun _ h_s => ?_, fun _ h_s => ?_⟩ <;> (cbv; (try simp only [nc] at *); try simp (disch := (first | omega | (simp only [lnS, zA, zM, zG, zP]; omega))) only [nc, nct, w64_of, zT, zZ, zM, rdS, at_agg, bofZ, bof1, bof0, zC, zS, reduceCtorEq, Bool.not_true, Bool.not_false, zD, zE, zB, zF, zN, zO, ne_eq, zQ, zL, zR, beq_iff_eq] at h_s))
   | (refine hF ?_; intro _; clear hF)
   | (refine hF ?_; cbv; clear hF)
   | (refine ⟨fun _ => ?_, ?_⟩; (· ((try simp only [nc] at *); first | done | omega | exact ⟨by omega, rfl⟩ | (simp (disch := (first | omega | (simp only [lnS, zA, zM, zG, zP]; omega))) only [nc, nct, w64_of, zT, zZ, zM, rdS, at_agg, bofZ, bof1, bof0, zC, zS]; first | done | omega | rfl | exact ⟨by omega, rfl⟩ | (simp; done) | (simp; omega)) | (intros; trivial) | (intro v hv; simp [setAll, AV.nrm, nrms, nrm1] at hv; subst hv; rfl) | exact ⟨by first | trivial | rfl, by first | trivial | rfl, by first | trivial | (simp [setAll]; done), by first | omega | (simp [setAll]; omega), by first | omega | (simp [setAll]; omega), idsFlat _⟩)); (try (simp only [nc] at *)); (try simp (disch := (first | omega | (simp only [lnS, zA, zM, zG, zP]; omega))) only [nc, nct, w64_of, zT, zZ, zM, rdS, at_agg, bofZ, bof1, bof0, zC, zS]); (try cbv))
   | fail
  )
  intro _
  refine ⟨rfl, by simp [setAll]; omega, ?_⟩
  rw [List.drop_zero, List.take_of_length_le (by simp [setAll]; omega)]
  simp [ids, setAll, AV.nrm, nrms, nrm1]
  try rfl
 ·unfold wrsM
  rw [if_neg hx]
  refine Pure.go (ty := ty) ty_eq mo Tryz.func110 rfl Tryz.ntmps110 Tryz.results110 Tryz.call110 (by simp) fun P C CQ D W F E hF => ?_
  cbv
  repeat' (first
   | (refine E.c (SCalls.of_le (kc) ?_ ?_); (· (cbv; (try simp only [nc] at *); first | done | (simp; done) | (simp (disch := (first | omega | (simp only [lnS, zA, zM, zG, zP]; omega))) only [nc, nct, w64_of, zT, zZ, zM, rdS, at_agg, bofZ, bof1, bof0, zC, zS, implies_true, and_true, true_and, forall_const]; first | done | omega | (refine ⟨?_, ?_⟩ <;> omega)) | (simp (disch := (first | omega | (simp only [lnS, zA, zM, zG, zP]; omega))) [nc, nct, w64_of, zT, zZ, zM, rdS, at_agg, bofZ, bof1, bof0, zC, zS]; done))); cbv)
   | (refine ⟨fun _ h_s => ?_, fun _ h_s => ?_⟩ <;> (cbv; (try simp only [nc] at *); try simp (disch := (first | omega | (simp only [lnS, zA, zM, zG, zP]; omega))) only [nc, nct, w64_of, zT, zZ, zM, rdS, at_agg, bofZ, bof1, bof0, zC, zS, reduceCtorEq, Bool.not_true, Bool.not_false, zD, zE, zB, zF, zN, zO, ne_eq, zQ, zL, zR, beq_iff_eq] at h_s))
   | (refine hF ?_; intro _; clear hF)
   | (refine hF ?_; cbv; clear hF)
   | (refine ⟨fun _ => ?_, ?_⟩; (· ((try simp only [nc] at *); first | done | omega | exact ⟨by omega, rfl⟩ | (simp (disch := (first | omega | (simp only [lnS, zA, zM, zG, zP]; omega))) only [nc, nct, w64_of, zT, zZ, zM, rdS, at_agg, bofZ, bof1, bof0, zC, zS]; first | done | omega | rfl | exact ⟨by omega, rfl⟩ | (simp; done) | (simp; omega)) | (intros; trivial) | (intro v hv; simp [setAll, AV.nrm, nrms, nrm1] at hv; subst hv; rfl) | exact ⟨by first | trivial | rfl, by first | trivial | rfl, by first | trivial | (simp [setAll]; done), by first | omega | (simp [setAll]; omega), by first | omega | (simp [setAll]; omega), idsFlat _⟩)); (try (simp only [nc] at *)); (try simp (disch := (first | omega | (simp only [lnS, zA, zM, zG, zP]; omega))) only [nc, nct, w64_of, zT, zZ, zM, rdS, at_agg, bofZ, bof1, bof0, zC, zS]); (try cbv))
   | fail
  )
  all_goals first
   | (exfalso; ((try simp only [nc] at *); omega))
   | rfl
def plcM (g : Gr) (d : EId) : Int := match eventM g d with | some e => if writesM e = true then numI (wrsM g e.loc) d else -1 | none => -1
theorem rPlace_ok (g : Gr) (hg : Rd g) (h : GOk g) (d : EId) : Pure Tryz.prog γ false 100 [aGr g, aId d] (.i fun _ => plcM g d) := by
 have ke := rEvent_ok (γ := γ) g hg h d
 unfold plcM
 cases e : eventM g d with
 | none =>
  rw [e] at ke
  simp only [Option.getD_none, Option.isSome_none] at ke ⊢
  refine Pure.go (ty := ty) ty_eq mo Tryz.func100 rfl Tryz.ntmps100 Tryz.results100 Tryz.call100 (by simp) fun P C CQ D W F E hF => ?_
  cbv
  repeat' (first
   | (refine E.c (SCalls.of_le (ke) ?_ ?_); (· (cbv; (try simp only [nc] at *); first | done | (simp; done) | (simp (disch := (first | omega | (simp only [lnS, zA, zM, zG, zP]; omega))) only [nc, nct, w64_of, zT, zZ, zM, rdS, at_agg, bofZ, bof1, bof0, zC, zS, implies_true, and_true, true_and, forall_const]; first | done | omega | (refine ⟨?_, ?_⟩ <;> omega)) | (simp (disch := (first | omega | (simp only [lnS, zA, zM, zG, zP]; omega))) [nc, nct, w64_of, zT, zZ, zM, rdS, at_agg, bofZ, bof1, bof0, zC, zS]; done))); cbv)
   | (refine ⟨fun _ h_s => ?_, fun _ h_s => ?_⟩ <;> (cbv; (try simp only [nc] at *); try simp (disch := (first | omega | (simp only [lnS, zA, zM, zG, zP]; omega))) only [nc, nct, w64_of, zT, zZ, zM, rdS, at_agg, bofZ, bof1, bof0, zC, zS, reduceCtorEq, Bool.not_true, Bool.not_false, zD, zE, zB, zF, zN, zO, ne_eq, zQ, zL, zR, beq_iff_eq] at h_s))
   | (refine hF ?_; intro _; clear hF)
   | (refine hF ?_; cbv; clear hF)
   | (refine ⟨fun _ => ?_, ?_⟩; (· ((try simp only [nc] at *); first | done | omega | exact ⟨by omega, rfl⟩ | (simp (disch := (first | omega | (simp only [lnS, zA, zM, zG, zP]; omega))) only [nc, nct, w64_of, zT, zZ, zM, rdS, at_agg, bofZ, bof1, bof0, zC, zS]; first | done | omega | rfl | exact ⟨by omega, rfl⟩ | (simp; done) | (simp; omega)) | (intros; trivial) | (intro v hv; simp [setAll, AV.nrm, nrms, nrm1] at hv; subst hv; rfl) | exact ⟨by first | trivial | rfl, by first | trivial | rfl, by first | trivial | (simp [setAll]; done), by first | omega | (simp [setAll]; omega), by first | omega | (simp [setAll]; omega), idsFlat _⟩)); (try (simp only [nc] at *)); (try simp (disch := (first | omega | (simp only [lnS, zA, zM, zG, zP]; omega))) only [nc, nct, w64_of, zT, zZ, zM, rdS, at_agg, bofZ, bof1, bof0, zC, zS]); (try cbv))
   | (refine E.d 5 (by decide +kernel) ?_; cbv; (fail_if_success guard_target =~ False))
   | fail
  )
  all_goals first
   | rfl
   | (exfalso; revert h_s; simp; done)
 | some x =>
  rw [e] at ke
  simp only [Option.getD_some, Option.isSome_some] at ke ⊢
  have kw := rwrites_ok (γ := γ) x
  by_cases hw : writesM x = true
  ·rw [hw] at kw
   rw [if_pos hw]
   have kl := rWrites_ok (γ := γ) g hg h x.loc
   have hL : (wrsM g x.loc).length ≤ 57 := by
    unfold wrsM; split
    ·have := ord_le h x.loc.toNat; rw [List.length_cons]; omega
    ·simp
   generalize wrsM g x.loc = L at *
   refine Pure.go (ty := ty) ty_eq mo Tryz.func100 rfl Tryz.ntmps100 Tryz.results100 Tryz.call100 (by simp) fun P C CQ D W F E hF => ?_
   cbv
   repeat' (first
    | (refine E.c (SCalls.of_le (kl) ?_ ?_); (· (cbv; (try simp only [nc] at *); first | done | (simp; done) | (simp (disch := (first | omega | (simp only [lnS, zA, zM, zG, zP]; omega))) only [nc, nct, w64_of, zT, zZ, zM, rdS, at_agg, bofZ, bof1, bof0, zC, zS, implies_true, and_true, true_and, forall_const]; first | done | omega | (refine ⟨?_, ?_⟩ <;> omega)) | (simp (disch := (first | omega | (simp only [lnS, zA, zM, zG, zP]; omega))) [nc, nct, w64_of, zT, zZ, zM, rdS, at_agg, bofZ, bof1, bof0, zC, zS]; done))); cbv)
    | (refine E.c (SCalls.of_le (kw) ?_ ?_); (· (cbv; (try simp only [nc] at *); first | done | (simp; done) | (simp (disch := (first | omega | (simp only [lnS, zA, zM, zG, zP]; omega))) only [nc, nct, w64_of, zT, zZ, zM, rdS, at_agg, bofZ, bof1, bof0, zC, zS, implies_true, and_true, true_and, forall_const]; first | done | omega | (refine ⟨?_, ?_⟩ <;> omega)) | (simp (disch := (first | omega | (simp only [lnS, zA, zM, zG, zP]; omega))) [nc, nct, w64_of, zT, zZ, zM, rdS, at_agg, bofZ, bof1, bof0, zC, zS]; done))); cbv)
    | (refine E.c (SCalls.of_le (ke) ?_ ?_); (· (cbv; (try simp only [nc] at *); first | done | (simp; done) | (simp (disch := (first | omega | (simp only [lnS, zA, zM, zG, zP]; omega))) only [nc, nct, w64_of, zT, zZ, zM, rdS, at_agg, bofZ, bof1, bof0, zC, zS, implies_true, and_true, true_and, forall_const]; first | done | omega | (refine ⟨?_, ?_⟩ <;> omega)) | (simp (disch := (first | omega | (simp only [lnS, zA, zM, zG, zP]; omega))) [nc, nct, w64_of, zT, zZ, zM, rdS, at_agg, bofZ, bof1, bof0, zC, zS]; done))); cbv)
    | (refine ⟨fun _ h_s => ?_, fun _ h_s => ?_⟩ <;> (cbv; (try simp only [nc] at *); try simp (disch := (first | omega | (simp only [lnS, zA, zM, zG, zP]; omega))) only [nc, nct, w64_of, zT, zZ, zM, rdS, at_agg, bofZ, bof1, bof0, zC, zS, reduceCtorEq, Bool.not_true, Bool.not_false, zD, zE, zB, zF, zN, zO, ne_eq, zQ, zL, zR, beq_iff_eq] at h_s))
    | (refine hF ?_; intro _; clear hF)
    | (refine hF ?_; cbv; clear hF)
    | (refine ⟨fun _ => ?_, ?_⟩; (· ((try simp only [nc] at *); first | done | omega | exact ⟨by omega, rfl⟩ | (simp (disch := (first | omega | (simp only [lnS, zA, zM, zG, zP]; omega))) only [nc, nct, w64_of, zT, zZ, zM, rdS, at_agg, bofZ, bof1, bof0, zC, zS]; first | done | omega | rfl | exact ⟨by omega, rfl⟩ | (simp; done) | (simp; omega)) | (intros; trivial) | (intro v hv; simp [setAll, AV.nrm, nrms, nrm1] at hv; subst hv; rfl) | exact ⟨by first | trivial | rfl, by first | trivial | rfl, by first | trivial | (simp [setAll]; done), by first | omega | (simp [setAll]; omega), by first | omega | (simp [setAll]; omega), idsFlat _⟩)); (try (simp only [nc] at *)); (try simp (disch := (first | omega | (simp only [lnS, zA, zM, zG, zP]; omega))) only [nc, nct, w64_of, zT, zZ, zM, rdS, at_agg, bofZ, bof1, bof0, zC, zS]); (try cbv))
    | (refine E.d 5 (by decide +kernel) ?_; cbv; (fail_if_success guard_target =~ False))
    | fail
   )
   refine E.loopS (ι := Nat) (fun i => i ≤ L.length ∧ (∀ k < i, L.getD k id0 ≠ d)) (fun i => L.length - i) (fun i => [(8, .i fun _ => ((i : Nat) : Int))]) (fun i h => h) 0 (fun _ => by first | rfl | simp) ⟨Nat.zero_le _, ?_⟩ ?_ fun i hi I hI => ?_
   ·intro k hk; omega
   ·cbv; simp
   cbv
   obtain ⟨hi, hp⟩ := hi
   repeat' (first
    | (refine hI (i + 1) ?_ ?_ ?_; rotate_left 1; (· ((try simp only [nc] at *); omega)); (cbv; clear hI; (try clear hF); (try simp only [nc] at *); (try simp (disch := (first | omega | (simp only [lnS, zA, zM, zG, zP]; omega))) only [nc, nct, w64_of, zT, zZ, zM, rdS, at_agg, bofZ, bof1, bof0, zC, zS, implies_true, and_true, true_and, forall_const])); rotate_left 1; (try ((try simp only [nc] at *); omega)))
    | (refine ⟨fun _ h_s => ?_, fun _ h_s => ?_⟩ <;> (cbv; (try simp only [nc] at *); try simp (disch := (first | omega | (simp only [lnS, zA, zM, zG, zP]; omega))) only [nc, nct, w64_of, zT, zZ, zM, rdS, at_agg, bofZ, bof1, bof0, zC, zS, reduceCtorEq, Bool.not_true, Bool.not_false, zD, zE, zB, zF, zN, zO, ne_eq, zQ, zL, zR, beq_iff_eq] at h_s))
    | (refine hF ?_; intro _; clear hF)
    | (refine hF ?_; cbv; clear hF)
    | (refine ⟨fun _ => ?_, ?_⟩; (· ((try simp only [nc] at *); first | done | omega | exact ⟨by omega, rfl⟩ | (simp (disch := (first | omega | (simp only [lnS, zA, zM, zG, zP]; omega))) only [nc, nct, w64_of, zT, zZ, zM, rdS, at_agg, bofZ, bof1, bof0, zC, zS]; first | done | omega | rfl | exact ⟨by omega, rfl⟩ | (simp; done) | (simp; omega)) | (intros; trivial) | (intro v hv; simp [setAll, AV.nrm, nrms, nrm1] at hv; subst hv; rfl) | exact ⟨by first | trivial | rfl, by first | trivial | rfl, by first | trivial | (simp [setAll]; done), by first | omega | (simp [setAll]; omega), by first | omega | (simp [setAll]; omega), idsFlat _⟩)); (try (simp only [nc] at *)); (try simp (disch := (first | omega | (simp only [lnS, zA, zM, zG, zP]; omega))) only [nc, nct, w64_of, zT, zZ, zM, rdS, at_agg, bofZ, bof1, bof0, zC, zS]); (try cbv))
    | (refine E.d 5 (by decide +kernel) ?_; cbv; (fail_if_success guard_target =~ False))
    | fail
   )
   ·simp only [Bool.and_true, Bool.and_eq_true, decide_eq_true_eq] at h_s
    have he : L.getD i id0 = d := EId.ext' h_s.1 h_s.2
    exact (numI_at (by ((try simp only [nc] at *); omega)) he hp).symm
   ·refine ⟨by ((try simp only [nc] at *); omega), fun k hk => ?_⟩
    rcases Nat.lt_or_ge k i with h1 | h1
    ·exact hp k h1
    ·obtain rfl : k = i := by omega
     intro e
     rw [← e] at h_s
     simp at h_s
   ·push_cast; rfl
   ·have e : i = L.length := by ((try simp only [nc] at *); omega)
    subst e
    exact (numI_no hp).symm
  ·rw [show writesM x = false by simpa using hw] at kw
   rw [if_neg hw]
   refine Pure.go (ty := ty) ty_eq mo Tryz.func100 rfl Tryz.ntmps100 Tryz.results100 Tryz.call100 (by simp) fun P C CQ D W F E hF => ?_
   cbv
   repeat' (first
    | (refine E.c (SCalls.of_le (kw) ?_ ?_); (· (cbv; (try simp only [nc] at *); first | done | (simp; done) | (simp (disch := (first | omega | (simp only [lnS, zA, zM, zG, zP]; omega))) only [nc, nct, w64_of, zT, zZ, zM, rdS, at_agg, bofZ, bof1, bof0, zC, zS, implies_true, and_true, true_and, forall_const]; first | done | omega | (refine ⟨?_, ?_⟩ <;> omega)) | (simp (disch := (first | omega | (simp only [lnS, zA, zM, zG, zP]; omega))) [nc, nct, w64_of, zT, zZ, zM, rdS, at_agg, bofZ, bof1, bof0, zC, zS]; done))); cbv)
    | (refine E.c (SCalls.of_le (ke) ?_ ?_); (· (cbv; (try simp only [nc] at *); first | done | (simp; done) | (simp (disch := (first | omega | (simp only [lnS, zA, zM, zG, zP]; omega))) only [nc, nct, w64_of, zT, zZ, zM, rdS, at_agg, bofZ, bof1, bof0, zC, zS, implies_true, and_true, true_and, forall_const]; first | done | omega | (refine ⟨?_, ?_⟩ <;> omega)) | (simp (disch := (first | omega | (simp only [lnS, zA, zM, zG, zP]; omega))) [nc, nct, w64_of, zT, zZ, zM, rdS, at_agg, bofZ, bof1, bof0, zC, zS]; done))); cbv)
    | (refine ⟨fun _ h_s => ?_, fun _ h_s => ?_⟩ <;> (cbv; (try simp only [nc] at *); try simp (disch := (first | omega | (simp only [lnS, zA, zM, zG, zP]; omega))) only [nc, nct, w64_of, zT, zZ, zM, rdS, at_agg, bofZ, bof1, bof0, zC, zS, reduceCtorEq, Bool.not_true, Bool.not_false, zD, zE, zB, zF, zN, zO, ne_eq, zQ, zL, zR, beq_iff_eq] at h_s))
    | (refine hF ?_; intro _; clear hF)
    | (refine hF ?_; cbv; clear hF)
    | (refine ⟨fun _ => ?_, ?_⟩; (· ((try simp only [nc] at *); first | done | omega | exact ⟨by omega, rfl⟩ | (simp (disch := (first | omega | (simp only [lnS, zA, zM, zG, zP]; omega))) only [nc, nct, w64_of, zT, zZ, zM, rdS, at_agg, bofZ, bof1, bof0, zC, zS]; first | done | omega | rfl | exact ⟨by omega, rfl⟩ | (simp; done) | (simp; omega)) | (intros; trivial) | (intro v hv; simp [setAll, AV.nrm, nrms, nrm1] at hv; subst hv; rfl) | exact ⟨by first | trivial | rfl, by first | trivial | rfl, by first | trivial | (simp [setAll]; done), by first | omega | (simp [setAll]; omega), by first | omega | (simp [setAll]; omega), idsFlat _⟩)); (try (simp only [nc] at *)); (try simp (disch := (first | omega | (simp only [lnS, zA, zM, zG, zP]; omega))) only [nc, nct, w64_of, zT, zZ, zM, rdS, at_agg, bofZ, bof1, bof0, zC, zS]); (try cbv))
    | (refine E.d 5 (by decide +kernel) ?_; cbv; (fail_if_success guard_target =~ False))
    | fail
   )
   all_goals first
    | rfl
    | (exfalso; revert h_s; simp; done)
end Go.AL.Rl

namespace Go.AL.Rl
open Go Go.AL Go.Proofs
set_option maxRecDepth 100000
set_option maxHeartbeats 3200000
variable {γ : Nat → Option AV}

def fstI (o : Option Nat) : Int := match o with | some k => (k : Nat) | none => -1
theorem fstI_iff (o : Option Nat) : 0 ≤ fstI o ↔ o.isSome = true := by
 cases o with
 | none => simp [fstI]
 | some k => simp [fstI]
theorem fstI_at {p : Nat → Bool} {n i : Nat} (hi : i < n) (h : p i = true) (hb : ∀ k < i, p k = false) : fstI (leadM p n) = i := by rw [leadM_some h hb hi]; rfl
theorem fstI_no {p : Nat → Bool} {n : Nat} (hb : ∀ k < n, p k = false) : fstI (leadM p n) = -1 := by rw [leadM_none hb]; rfl
theorem hasM_in {n : Nat} {rows : List (BitVec 64)} (hf : Fits n rows) {i : Nat} (hi : i < n) : hasM n rows i i = bit rows i i := by
 unfold hasM
 rw [decide_eq_true ⟨hf, by omega, by omega, by omega, by omega⟩, Bool.true_and]
 simp
theorem rround_ok (n : Nat) (rows : List (BitVec 64)) (hf : Fits n rows) : Pure Tryz.prog γ false 63 [encRel n rows] (.i fun _ => fstI (leadM (fun i => bit (plusM n rows) i i) n)) := by
 have kp := rplus_yes (γ := γ) n rows hf
 have hfp := fits_plus hf
 have hn := hf.2.1
 generalize plusM n rows = q at *
 have kh := fun i : Nat => rhas_ok (γ := γ) n q i i
 refine Pure.go (ty := ty) ty_eq mo Tryz.func63 rfl Tryz.ntmps63 Tryz.results63 Tryz.call63 (by simp) fun P C CQ D W F E hF => ?_
 cbv
 repeat' (first
  | (refine E.c (SCalls.of_le (kp) ?_ ?_); (· (cbv; (try simp only [nc] at *); first | done | (simp; done) | (simp (disch := (first | omega | (simp only [lnS, zA, zM, zG, zP]; omega))) only [nc, nct, w64_of, zT, zZ, zM, rdS, at_agg, bofZ, bof1, bof0, zC, zS, implies_true, and_true, true_and, forall_const]; first | done | omega | (refine ⟨?_, ?_⟩ <;> omega)) | (simp (disch := (first | omega | (simp only [lnS, zA, zM, zG, zP]; omega))) [nc, nct, w64_of, zT, zZ, zM, rdS, at_agg, bofZ, bof1, bof0, zC, zS]; done))); cbv)
  | (refine ⟨fun _ h_s => ?_, fun _ h_s => ?_⟩ <;> (cbv; (try simp only [nc] at *); try simp (disch := (first | omega | (simp only [lnS, zA, zM, zG, zP]; omega))) only [nc, nct, w64_of, zT, zZ, zM, rdS, at_agg, bofZ, bof1, bof0, zC, zS, reduceCtorEq, Bool.not_true, Bool.not_false, zD, zE, zB, zF, zN, zO, ne_eq, zQ, zL, zR, beq_iff_eq] at h_s))
  | (refine hF ?_; intro _; clear hF)
  | (refine hF ?_; cbv; clear hF)
  | (refine ⟨fun _ => ?_, ?_⟩; (· ((try simp only [nc] at *); first | done | omega | exact ⟨by omega, rfl⟩ | (simp (disch := (first | omega | (simp only [lnS, zA, zM, zG, zP]; omega))) only [nc, nct, w64_of, zT, zZ, zM, rdS, at_agg, bofZ, bof1, bof0, zC, zS]; first | done | omega | rfl | exact ⟨by omega, rfl⟩ | (simp; done) | (simp; omega)) | (intros; trivial))); (try (simp only [nc] at *)); (try simp (disch := (first | omega | (simp only [lnS, zA, zM, zG, zP]; omega))) only [nc, nct, w64_of, zT, zZ, zM, rdS, at_agg, bofZ, bof1, bof0, zC, zS]); (try cbv))
  | fail
 )
 refine E.loopS (ι := Nat) (fun i => i ≤ n ∧ (∀ k < i, bit q k k = false)) (fun i => n - i) (fun i => [(4, .i fun _ => ((i : Nat) : Int))]) (fun i h => h) 0 (fun _ => by first | rfl | simp) ⟨Nat.zero_le _, ?_⟩ ?_ fun i hi I hI => ?_
 ·intro k hk; omega
 ·cbv; simp
 cbv
 obtain ⟨hi, hp⟩ := hi
 have khi := kh i
 repeat' (first
  | (refine hI (i + 1) ?_ ?_ ?_; rotate_left 1; (· ((try simp only [nc] at *); omega)); (cbv; clear hI; (try clear hF); (try simp only [nc] at *); (try simp (disch := (first | omega | (simp only [lnS, zA, zM, zG, zP]; omega))) only [nc, nct, w64_of, zT, zZ, zM, rdS, at_agg, bofZ, bof1, bof0, zC, zS, implies_true, and_true, true_and, forall_const])); rotate_left 1; (try ((try simp only [nc] at *); omega)))
  | (refine E.c (SCalls.of_le (khi) ?_ ?_); (· (cbv; (try simp only [nc] at *); first | done | (simp; done) | (simp (disch := (first | omega | (simp only [lnS, zA, zM, zG, zP]; omega))) only [nc, nct, w64_of, zT, zZ, zM, rdS, at_agg, bofZ, bof1, bof0, zC, zS, implies_true, and_true, true_and, forall_const]; first | done | omega | (refine ⟨?_, ?_⟩ <;> omega)) | (simp (disch := (first | omega | (simp only [lnS, zA, zM, zG, zP]; omega))) [nc, nct, w64_of, zT, zZ, zM, rdS, at_agg, bofZ, bof1, bof0, zC, zS]; done))); cbv)
  | (refine ⟨fun _ h_s => ?_, fun _ h_s => ?_⟩ <;> (cbv; (try simp only [nc] at *); try simp (disch := (first | omega | (simp only [lnS, zA, zM, zG, zP]; omega))) only [nc, nct, w64_of, zT, zZ, zM, rdS, at_agg, bofZ, bof1, bof0, zC, zS, reduceCtorEq, Bool.not_true, Bool.not_false, zD, zE, zB, zF, zN, zO, ne_eq, zQ, zL, zR, beq_iff_eq] at h_s))
  | (refine hF ?_; intro _; clear hF)
  | (refine hF ?_; cbv; clear hF)
  | (refine ⟨fun _ => ?_, ?_⟩; (· ((try simp only [nc] at *); first | done | omega | exact ⟨by omega, rfl⟩ | (simp (disch := (first | omega | (simp only [lnS, zA, zM, zG, zP]; omega))) only [nc, nct, w64_of, zT, zZ, zM, rdS, at_agg, bofZ, bof1, bof0, zC, zS]; first | done | omega | rfl | exact ⟨by omega, rfl⟩ | (simp; done) | (simp; omega)) | (intros; trivial))); (try (simp only [nc] at *)); (try simp (disch := (first | omega | (simp only [lnS, zA, zM, zG, zP]; omega))) only [nc, nct, w64_of, zT, zZ, zM, rdS, at_agg, bofZ, bof1, bof0, zC, zS]); (try cbv))
  | fail
 )
 ·rw [hasM_in hfp (by ((try simp only [nc] at *); omega))] at h_s
  exact (fstI_at (p := fun i => bit q i i) (by ((try simp only [nc] at *); omega)) h_s hp).symm
 ·rw [hasM_in hfp (by ((try simp only [nc] at *); omega))] at h_s
  refine ⟨by ((try simp only [nc] at *); omega), fun k hk => ?_⟩
  rcases Nat.lt_or_ge k i with h1 | h1
  ·exact hp k h1
  ·obtain rfl : k = i := by omega
   exact h_s
 ·push_cast; rfl
 ·have e : i = n := by ((try simp only [nc] at *); omega)
  subst e
  exact (fstI_no (p := fun i => bit q i i) hp).symm
theorem plc_pl {g : Gr} (h : GOk g) {d : EId} {e : Ev} (he : eventM g d = some e) (hw : writesM e = true) : plcM g d = plOf g d := by
 unfold plcM
 rw [he]
 simp only
 rw [if_pos hw]
 unfold plOf
 by_cases h0 : d.t = 0
 ·rw [if_pos h0]
  unfold eventM at he
  rw [if_pos h0] at he
  by_cases hi : 0 ≤ d.i ∧ d.i < g.init.length
  ·rw [if_pos hi] at he
   have := Option.some.inj he
   rw [← this]
   unfold wrsM
   simp only
   rw [if_pos hi]
   exact numI_at (k := 0) (by simp) (by show (⟨0, d.i⟩ : EId) = d; exact EId.ext' h0.symm rfl) fun j hj => by omega
  ·rw [if_neg hi] at he; cases he
 ·rw [if_neg h0, he, Option.getD_some]
  -- an event of a thread
  have hT : evT g d := by
   unfold eventM at he
   rw [if_neg h0] at he
   split at he
   ·rename_i h1; exact ⟨by omega, h1.2.1, h1.2.2.1, h1.2.2.2⟩
   ·cases he
  have hl : 0 ≤ e.loc ∧ e.loc < g.init.length := by
   have hf := (h.events (d.t - 1).toNat (by have := hT.1; have := hT.2.1; omega)).2 d.i.toNat (by have := hT.2.2; omega)
   rw [event_T hT] at he
   rw [Option.some.inj he] at hf
   unfold fineM at hf
   simp only [Bool.and_eq_true] at hf
   have := hf.2
   rw [if_neg (by intro e4; unfold writesM at hw; rw [e4] at hw; simp at hw), decide_eq_true_eq] at this
   exact this
  unfold wrsM
  rw [if_pos hl]
  cases ef : (g.ord.getD e.loc.toNat []).findIdx? fun x => decide (x = d) with
  | some k =>
   rw [List.findIdx?_eq_some_iff_getElem] at ef
   obtain ⟨h1, h2, h3⟩ := ef
   have h2 := of_decide_eq_true h2
   have := numI_at (l := ⟨0, e.loc⟩ :: g.ord.getD e.loc.toNat []) (d := d) (k := k + 1) (by rw [List.length_cons]; omega) (by rw [List.getD_cons_succ, List.getD_eq_getElem?_getD, List.getElem?_eq_getElem h1]; exact h2) fun j hj => by
    cases j with
    | zero => intro e2; have := congrArg EId.t e2; simp at this; omega
    | succ j =>
     rw [List.getD_cons_succ]
     have := h3 j (by omega)
     rw [decide_eq_true_eq] at this
     have hj' : j < (g.ord.getD e.loc.toNat []).length := by omega
     rw [show (g.ord.getD e.loc.toNat []).getD j id0 = (g.ord.getD e.loc.toNat [])[j] from by rw [List.getD_eq_getElem?_getD, List.getElem?_eq_getElem hj']; rfl]
     exact this
   rw [this]
   push_cast
   rfl
  | none =>
   rw [List.findIdx?_eq_none_iff] at ef
   exact numI_no fun j hj => by
    cases j with
    | zero => intro e2; have := congrArg EId.t e2; simp at this; omega
    | succ j =>
     rw [List.getD_cons_succ]
     rw [List.length_cons] at hj
     intro e2
     have hm : d ∈ g.ord.getD e.loc.toNat [] := by rw [← e2]; exact getD_mem (by omega)
     have := ef d hm
     simp at this
theorem wrs_len {g : Gr} (h : GOk g) (x : Int) : (wrsM g x).length ≤ 57 := by
 unfold wrsM; split
 ·have := ord_le h x.toNat; rw [List.length_cons]; omega
 ·simp
theorem plc_bd {g : Gr} (h : GOk g) (d : EId) : -1 ≤ plcM g d ∧ plcM g d ≤ 57 := by
 unfold plcM
 split
 ·rename_i e _
  split
  ·have := numI_lt (wrsM g e.loc) d
   have := wrs_len h e.loc
   omega
  ·omega
 ·omega
/-- what shows that an update does not stand behind its source -/
theorem updB_iff {g : Gr} (h : GOk g) {k : Nat} (hk : k < nG g) : updB (viewG g) k = (decide (((idsG g).getD k id0).t ≠ 0) && (decide (((g.th.getD (((idsG g).getD k id0).t - 1).toNat []).getD ((idsG g).getD k id0).i.toNat ev0).kind = 3) && decide (plcM g ((idsG g).getD k id0) ≠ plcM g (srcOf g ((idsG g).getD k id0)) + 1))) := by
 have he := evsG_get g k hk
 have hm : (idsG g).getD k id0 ∈ idsG g := getD_mem hk
 have hev : (viewG g).ev.getD k ev0 = (evsG g).getD k ev0 := rfl
 unfold updB
 rw [hev]
 by_cases h0 : ((idsG g).getD k id0).t = 0
 ·rw [decide_eq_false (p := ((idsG g).getD k id0).t ≠ 0) (fun x => x h0), Bool.false_and]
  unfold eventM at he
  rw [if_pos h0] at he
  split at he
  ·rw [← Option.some.inj he]; rfl
  ·cases he
 ·have hT : evT g ((idsG g).getD k id0) := by
   unfold eventM at he
   rw [if_neg h0] at he
   split at he
   ·rename_i h1; exact ⟨by omega, h1.2.1, h1.2.2.1, h1.2.2.2⟩
   ·cases he
  have e1 := event_T hT
  rw [he] at e1
  have e1 := Option.some.inj e1
  rw [decide_eq_true (p := ((idsG g).getD k id0).t ≠ 0) h0, Bool.true_and, ← e1]
  by_cases h3 : ((evsG g).getD k ev0).kind = 3
  ·rw [decide_eq_true h3, Bool.true_and, Bool.true_and]
   have hr : readsM ((eventM g ((idsG g).getD k id0)).getD ev0) = true := by rw [he, Option.getD_some]; unfold readsM; rw [h3]; rfl
   have hw : writesM ((evsG g).getD k ev0) = true := by unfold writesM; rw [h3]; rfl
   obtain ⟨w, hw1, _, hw2, _⟩ := source_mem (src_ok h hm h0) hr
   have hs : srcOf g ((idsG g).getD k id0) ∈ idsG g := idsG_mem.2 (by rw [hw1]; rfl)
   rw [plc_pl h he hw, plc_pl h hw1 hw2]
   have p1 : (viewG g).pl.getD k 0 = plOf g ((idsG g).getD k id0) := by
    show (tabI _ _).getD k 0 = _
    rw [tabI_get _ _ _ hk]
   have f1 : (viewG g).fr.getD k 0 = (numOf (idsG g) (srcOf g ((idsG g).getD k id0)) : Nat) := by
    show (tabI _ _).getD k 0 = _
    rw [tabI_get _ _ _ hk]
    unfold frOf
    rw [if_neg h0, if_pos hr]
   have hl : numOf (idsG g) (srcOf g ((idsG g).getD k id0)) < nG g := numOf_lt hs
   have p2 : (viewG g).pl.getD (numOf (idsG g) (srcOf g ((idsG g).getD k id0))) 0 = plOf g (srcOf g ((idsG g).getD k id0)) := by
    show (tabI _ _).getD _ 0 = _
    rw [tabI_get _ _ _ hl, numOf_get hs]
   rw [f1, p1]
   have : ((numOf (idsG g) (srcOf g ((idsG g).getD k id0)) : Nat) : Int).toNat = numOf (idsG g) (srcOf g ((idsG g).getD k id0)) := by omega
   rw [this, p2]
  ·rw [decide_eq_false h3]; rfl
theorem rupdate_ok (g : Gr) (hg : Rd g) (h : GOk g) : Pure Tryz.prog γ false 62 [aGr g] (.i fun _ => fstI (leadM (updB (viewG g)) (nG g))) := by
 have ki := ids14_ok (γ := γ) g h.short
 have kp := fun d => rPlace_ok (γ := γ) g hg h d
 have hn := (viewG_wf h).small
 have hu : ∀ k, k < nG g → _ := fun k hk => updB_iff h hk
 have hmem : ∀ k, k < nG g → (idsG g).getD k id0 ∈ idsG g := fun k hk => getD_mem hk
 have hin : ∀ k, k < nG g → ((idsG g).getD k id0).t ≠ 0 → evT g ((idsG g).getD k id0) := fun k hk h0 => by
  have := hmem k hk
  rw [idsG, List.mem_append, idsI_mem] at this
  rcases this with h1 | h1
  ·exact absurd h1.1 h0
  ·exact evT_iff.2 h1
 have hpos : ∀ k, k < nG g → 0 ≤ ((idsG g).getD k id0).t := fun k hk => by
  by_cases h0 : ((idsG g).getD k id0).t = 0
  ·omega
  ·have := (hin k hk h0).1; omega
 have hpb := fun d => plc_bd h d
 have hth := h.short.th
 have hfr := h.lfr
 have hfe : ∀ t, t < g.th.length → (g.fr.getD t []).length = (g.th.getD t []).length := fun t ht => (h.events t ht).1
 have hlen : (idsG g).length = nG g := rfl
 generalize updB (viewG g) = U at *
 generalize nG g = n at *
 generalize idsG g = L at *
 refine Pure.go (ty := ty) ty_eq mo Tryz.func62 rfl Tryz.ntmps62 Tryz.results62 Tryz.call62 (by simp) fun P C CQ D W F E hF => ?_
 cbv
 repeat' (first
  | (refine E.c (SCalls.of_le (ki) ?_ ?_); (· (cbv; (try simp only [nc] at *); first | done | (simp; done) | (simp (disch := (first | omega | (simp only [lnS, zA, zM, zG, zP]; omega))) only [nc, nct, w64_of, zT, zZ, zM, rdS, at_agg, bofZ, bof1, bof0, zC, zS, implies_true, and_true, true_and, forall_const]; first | done | omega | (refine ⟨?_, ?_⟩ <;> omega)) | (simp (disch := (first | omega | (simp only [lnS, zA, zM, zG, zP]; omega))) [nc, nct, w64_of, zT, zZ, zM, rdS, at_agg, bofZ, bof1, bof0, zC, zS]; done))); cbv)
  | (refine ⟨fun _ h_s => ?_, fun _ h_s => ?_⟩ <;> (cbv; (try simp only [nc] at *); try simp (disch := (first | omega | (simp only [lnS, zA, zM, zG, zP]; omega))) only [nc, nct, w64_of, zT, zZ, zM, rdS, at_agg, bofZ, bof1, bof0, zC, zS, reduceCtorEq, Bool.not_true, Bool.not_false, zD, zE, zB, zF, zN, zO, ne_eq, zQ, zL, zR, beq_iff_eq] at h_s))
  | (refine hF ?_; intro _; clear hF)
  | (refine hF ?_; cbv; clear hF)
  | (refine ⟨fun _ => ?_, ?_⟩; (· ((try simp only [nc] at *); first | done | omega | exact ⟨by omega, rfl⟩ | (simp (disch := (first | omega | (simp only [lnS, zA, zM, zG, zP]; omega))) only [nc, nct, w64_of, zT, zZ, zM, rdS, at_agg, bofZ, bof1, bof0, zC, zS]; first | done | omega | rfl | exact ⟨by omega, rfl⟩ | (simp; done) | (simp; omega)) | (intros; trivial))); (try (simp only [nc] at *)); (try simp (disch := (first | omega | (simp only [lnS, zA, zM, zG, zP]; omega))) only [nc, nct, w64_of, zT, zZ, zM, rdS, at_agg, bofZ, bof1, bof0, zC, zS]); (try cbv))
  | (refine E.d 13 (by decide +kernel) ?_; cbv; (fail_if_success guard_target =~ False))
  | (refine E.d 15 (by decide +kernel) ?_; cbv; (fail_if_success guard_target =~ False))
  | fail
 )
 refine E.loopS (ι := Nat) (fun k => k ≤ n ∧ (∀ j < k, U j = false)) (fun k => n - k) (fun k => [(4, .i fun _ => ((k : Nat) : Int))]) (fun k h => h) 0 (fun _ => by first | rfl | simp) ⟨Nat.zero_le _, ?_⟩ ?_ fun k hk I hI => ?_
 ·intro j hj; omega
 ·cbv; simp
 cbv
 obtain ⟨hk, hp⟩ := hk
 have k1 := kp (L.getD k id0)
 have k2 := kp ((g.fr.getD ((L.getD k id0).t - 1).toNat []).getD (L.getD k id0).i.toNat id0)
 have b1 := hpb (L.getD k id0)
 have b2 := hpb ((g.fr.getD ((L.getD k id0).t - 1).toNat []).getD (L.getD k id0).i.toNat id0)
 have huk := hu k
 have hik := hin k
 have hpk := hpos k
 have hfk := hfe ((L.getD k id0).t - 1).toNat
 unfold evT at hik
 repeat' (first
  | (refine hI (k + 1) ?_ ?_ ?_; rotate_left 1; (· ((try simp only [nc] at *); omega)); (cbv; clear hI; (try clear hF); (try simp only [nc] at *); (try simp (disch := (first | omega | (simp only [lnS, zA, zM, zG, zP]; omega))) only [nc, nct, w64_of, zT, zZ, zM, rdS, at_agg, bofZ, bof1, bof0, zC, zS, implies_true, and_true, true_and, forall_const])); rotate_left 1; (try ((try simp only [nc] at *); omega)))
  | (refine E.c (SCalls.of_le (k2) ?_ ?_); (· (cbv; (try simp only [nc] at *); first | done | (simp; done) | (simp (disch := (first | omega | (simp only [lnS, zA, zM, zG, zP]; omega))) only [nc, nct, w64_of, zT, zZ, zM, rdS, at_agg, bofZ, bof1, bof0, zC, zS, implies_true, and_true, true_and, forall_const]; first | done | omega | (refine ⟨?_, ?_⟩ <;> omega)) | (simp (disch := (first | omega | (simp only [lnS, zA, zM, zG, zP]; omega))) [nc, nct, w64_of, zT, zZ, zM, rdS, at_agg, bofZ, bof1, bof0, zC, zS]; done))); cbv)
  | (refine E.q (QCalls.of_le (k2) ?_ ?_); (· (cbv; (try simp only [nc] at *); first | done | (simp; done) | (simp (disch := (first | omega | (simp only [lnS, zA, zM, zG, zP]; omega))) only [nc, nct, w64_of, zT, zZ, zM, rdS, at_agg, bofZ, bof1, bof0, zC, zS, implies_true, and_true, true_and, forall_const]; first | done | omega | (refine ⟨?_, ?_⟩ <;> omega)) | (simp (disch := (first | omega | (simp only [lnS, zA, zM, zG, zP]; omega))) [nc, nct, w64_of, zT, zZ, zM, rdS, at_agg, bofZ, bof1, bof0, zC, zS]; done))); cbv)
  | (refine E.c (SCalls.of_le (k1) ?_ ?_); (· (cbv; (try simp only [nc] at *); first | done | (simp; done) | (simp (disch := (first | omega | (simp only [lnS, zA, zM, zG, zP]; omega))) only [nc, nct, w64_of, zT, zZ, zM, rdS, at_agg, bofZ, bof1, bof0, zC, zS, implies_true, and_true, true_and, forall_const]; first | done | omega | (refine ⟨?_, ?_⟩ <;> omega)) | (simp (disch := (first | omega | (simp only [lnS, zA, zM, zG, zP]; omega))) [nc, nct, w64_of, zT, zZ, zM, rdS, at_agg, bofZ, bof1, bof0, zC, zS]; done))); cbv)
  | (refine E.q (QCalls.of_le (k1) ?_ ?_); (· (cbv; (try simp only [nc] at *); first | done | (simp; done) | (simp (disch := (first | omega | (simp only [lnS, zA, zM, zG, zP]; omega))) only [nc, nct, w64_of, zT, zZ, zM, rdS, at_agg, bofZ, bof1, bof0, zC, zS, implies_true, and_true, true_and, forall_const]; first | done | omega | (refine ⟨?_, ?_⟩ <;> omega)) | (simp (disch := (first | omega | (simp only [lnS, zA, zM, zG, zP]; omega))) [nc, nct, w64_of, zT, zZ, zM, rdS, at_agg, bofZ, bof1, bof0, zC, zS]; done))); cbv)
  | (refine E.c (SCalls.of_le (k2) ?_ ?_); (· (cbv; (try simp only [nc] at *); first | done | (simp; done) | (simp (disch := (first | omega | (simp only [lnS, zA, zM, zG, zP]; omega))) only [nc, nct, w64_of, zT, zZ, zM, rdS, at_agg, bofZ, bof1, bof0, zC, zS, implies_true, and_true, true_and, forall_const]; first | done | omega | (refine ⟨?_, ?_⟩ <;> omega)) | (simp (disch := (first | omega | (simp only [lnS, zA, zM, zG, zP]; omega))) [nc, nct, w64_of, zT, zZ, zM, rdS, at_agg, bofZ, bof1, bof0, zC, zS]; done))); cbv)
  | (refine E.c (SCalls.of_le (k1) ?_ ?_); (· (cbv; (try simp only [nc] at *); first | done | (simp; done) | (simp (disch := (first | omega | (simp only [lnS, zA, zM, zG, zP]; omega))) only [nc, nct, w64_of, zT, zZ, zM, rdS, at_agg, bofZ, bof1, bof0, zC, zS, implies_true, and_true, true_and, forall_const]; first | done | omega | (refine ⟨?_, ?_⟩ <;> omega)) | (simp (disch := (first | omega | (simp only [lnS, zA, zM, zG, zP]; omega))) [nc, nct, w64_of, zT, zZ, zM, rdS, at_agg, bofZ, bof1, bof0, zC, zS]; done))); cbv)
  | (refine ⟨fun _ h_s => ?_, fun _ h_s => ?_⟩ <;> (cbv; (try simp only [nc] at *); try simp (disch := (first | omega | (simp only [lnS, zA, zM, zG, zP]; omega))) only [nc, nct, w64_of, zT, zZ, zM, rdS, at_agg, bofZ, bof1, bof0, zC, zS, reduceCtorEq, Bool.not_true, Bool.not_false, zD, zE, zB, zF, zN, zO, ne_eq, zQ, zL, zR, beq_iff_eq] at h_s))
  | (refine hF ?_; intro _; clear hF)
  | (refine hF ?_; cbv; clear hF)
  | (refine ⟨fun _ => ?_, ?_⟩; (· ((try simp only [nc] at *); first | done | omega | exact ⟨by omega, rfl⟩ | (simp (disch := (first | omega | (simp only [lnS, zA, zM, zG, zP]; omega))) only [nc, nct, w64_of, zT, zZ, zM, rdS, at_agg, bofZ, bof1, bof0, zC, zS]; first | done | omega | rfl | exact ⟨by omega, rfl⟩ | (simp; done) | (simp; omega)) | (intros; trivial))); (try (simp only [nc] at *)); (try simp (disch := (first | omega | (simp only [lnS, zA, zM, zG, zP]; omega))) only [nc, nct, w64_of, zT, zZ, zM, rdS, at_agg, bofZ, bof1, bof0, zC, zS]); (try cbv))
  | (refine E.d 13 (by decide +kernel) ?_; cbv; (fail_if_success guard_target =~ False))
  | (refine E.d 15 (by decide +kernel) ?_; cbv; (fail_if_success guard_target =~ False))
  | fail
 )
 ·rename_i h_e
  refine ⟨by ((try simp only [nc] at *); omega), fun j hj => ?_⟩
  rcases Nat.lt_or_ge j k with h1 | h1
  ·exact hp j h1
  ·obtain rfl : j = k := by omega
   rw [huk (by ((try simp only [nc] at *); omega))]
   have e0 : (L.getD j id0).t = 0 := h_s
   rw [e0]; rfl
 ·push_cast; rfl
 ·refine ⟨by ((try simp only [nc] at *); omega), fun j hj => ?_⟩
  rcases Nat.lt_or_ge j k with h1 | h1
  ·exact hp j h1
  ·obtain rfl : j = k := by omega
   rw [huk (by ((try simp only [nc] at *); omega)), decide_eq_false (p := _ = (3 : Int)) h_s]
   simp
 ·push_cast; rfl
 ·have e0 : (L.getD k id0).t ≠ 0 := by assumption
  have e3 : ((g.th.getD ((L.getD k id0).t - 1).toNat []).getD (L.getD k id0).i.toNat ev0).kind = 3 := by assumption
  refine (fstI_at (p := U) (by ((try simp only [nc] at *); omega)) ?_ hp).symm
  rw [huk (by ((try simp only [nc] at *); omega)), decide_eq_true e0, decide_eq_true e3]
  exact decide_eq_true h_s
 ·refine ⟨by ((try simp only [nc] at *); omega), fun j hj => ?_⟩
  rcases Nat.lt_or_ge j k with h1 | h1
  ·exact hp j h1
  ·obtain rfl : j = k := by omega
   rw [huk (by ((try simp only [nc] at *); omega))]
   have e9 : decide (plcM g (L.getD j id0) ≠ plcM g (srcOf g (L.getD j id0)) + 1) = false := decide_eq_false fun x => x h_s
   rw [e9]
   simp
 ·push_cast; rfl
 ·have e : k = n := by ((try simp only [nc] at *); omega)
  subst e
  exact (fstI_no (p := U) hp).symm
end Go.AL.Rl
