import Derived.Test.YtjoggeafcdfidaaRt6
import Derived.OpenShut
import Derived.ReadAgain
import Derived.Deep.DeepHandedRow
import Derived.Lib.LaidTab
import Derived.ProofKit
import Derived.Test.YtjoggeafcdfidaaRows
set_option linter.unusedVariables false
set_option linter.unusedSimpArgs false
namespace Go.AL.Rl
open Go Go.AL Go.Proofs
set_option maxRecDepth 100000
set_option maxHeartbeats 3200000

structure QEmb (V U : Vw) (n m : Nat) (f : Nat → Nat) : Prop where
 lt : ∀ i < n, f i < m
 po : ∀ i, i < n → ∀ j, j < n → poM U (f i) (f j) = poM V i j
 ev : ∀ i < n, U.ev.getD (f i) ev0 = V.ev.getD i ev0
 fr : ∀ i < n, ∀ j < n, V.fr.getD i 0 = (j : Nat) → U.fr.getD (f i) 0 = (f j : Nat)
section
variable {V U : Vw} {n m : Nat} {f : Nat → Nat} (E : QEmb V U n m f) (hV : Wf V n) (hU : Wf U m)
include E
include hV
theorem q_seq {w : Nat} (hw : w < n) {j : Nat} (h : InSeq V n w j) : InSeq U m (f w) (f j) := by
 induction h with
 | base => exact .base
 | @step i hi hk hs ih =>
  have hr : readsM (V.ev.getD i ev0) = true := by unfold readsM; rw [hk]; rfl
  have h1 := hV.frg i hi hr
  have h2 := hV.frl i hi
  have e := E.fr i hi (V.fr.getD i 0).toNat (by omega) (by omega)
  refine .step (E.lt i hi) (by rw [E.ev i hi]; exact hk) ?_
  rw [e]
  have : ((f (V.fr.getD i 0).toNat : Nat) : Int).toNat = f (V.fr.getD i 0).toNat := by omega
  rw [this]; exact ih
include hU
theorem q_sw {i j : Nat} (h : bit (swF V n) i j = true) : bit (swF U m) (f i) (f j) = true := by
 rw [sw_iffE hV.small] at h
 obtain ⟨hi, hj, w, hw, h1, b, hb, h2, h3⟩ := h
 rw [sw_iffE hU.small]
 refine ⟨E.lt i hi, E.lt j hj, f w, E.lt w hw, ?_, f b, E.lt b hb, ?_, ?_⟩
 ·unfold swR at *
  rw [E.ev w hw, E.ev i hi, E.po _ hi _ hw]
  simp only [Bool.and_eq_true, Bool.or_eq_true, decide_eq_true_eq] at *
  refine ⟨h1.1, h1.2.imp (fun h => by rw [h]) id⟩
 ·unfold rdrM at *
  rw [E.ev b hb]
  simp only [Bool.and_eq_true, decide_eq_true_eq] at *
  refine ⟨h2.1, ?_⟩
  have hlt := hV.frl b hb
  have hg := hV.frg b hb h2.1.1
  have e := E.fr b hb (V.fr.getD b 0).toNat (by omega) (by omega)
  rw [e]
  have : ((f (V.fr.getD b 0).toNat : Nat) : Int).toNat = f (V.fr.getD b 0).toNat := by omega
  rw [this]
  have hs := (seq_bit (by have := hV.small; omega) hw _).1 h2.2
  exact (seq_bit (by have := hU.small; omega) (E.lt w hw) _).2 (q_seq E hV hw hs)
 ·unfold caM at *
  rw [E.ev j hj, E.po _ hb _ hj]
  simp only [Bool.and_eq_true, Bool.or_eq_true, decide_eq_true_eq] at *
  refine ⟨h3.1, h3.2.imp (fun h => by rw [h]) id⟩
theorem q_rel {p q : Nat → Nat → Bool} (h : ∀ i < n, ∀ j < n, p i j = true → q (f i) (f j) = true) {i j : Nat} (hb : bit (relRows n p) i j = true) : bit (relRows m q) (f i) (f j) = true := by
 rw [bit_relI hV.small] at hb
 rw [bit_relI hU.small]
 exact ⟨E.lt i hb.1, E.lt j hb.2.1, h i hb.1 j hb.2.1 hb.2.2⟩
theorem q_orM {l k : List (Int × List (BitVec 64))} (h : ∀ x ∈ l, ∃ y ∈ k, ∀ i j, bit x.2 i j = true → bit y.2 (f i) (f j) = true) {i j : Nat} (hb : bit (orM n l) i j = true) : bit (orM m k) (f i) (f j) = true := by
 have _hV := hV
 have _hU := hU
 rw [bit_orM] at hb ⊢
 obtain ⟨hi, x, hx, hb⟩ := hb
 obtain ⟨y, hy, h2⟩ := h x hx
 exact ⟨E.lt i hi, y, hy, h2 i j hb⟩
theorem q_hb {i j : Nat} (h : bit (hbF V n) i j = true) : bit (hbF U m) (f i) (f j) = true := by
 have hf := fits_or2 (fits_poF U hU.small) (fits_swF U hU.small)
 refine e_plus hf (fun i j h => ?_) h
 refine q_orM E hV hU (fun x hx => ?_) h
 simp only [List.mem_cons, List.not_mem_nil, or_false] at hx
 rcases hx with rfl | rfl
 ·exact ⟨((m : Int), poF U m), by simp, fun i j h => q_rel E hV hU (p := poM V) (q := poM U) (fun i hi j hj h => by rw [E.po _ hi _ hj]; exact h) h⟩
 ·exact ⟨((m : Int), swF U m), by simp, fun i j h => q_sw E hV hU h⟩
end

def tau (n : Nat) (d : EId) : EId := if 0 < d.t then ⟨(n : Int) + 1 - d.t, d.i⟩ else d
theorem tau_t {n : Nat} {d : EId} (h : 0 < d.t) : (tau n d).t = (n : Int) + 1 - d.t := by unfold tau; rw [if_pos h]
theorem tau_i (n : Nat) (d : EId) : (tau n d).i = d.i := by unfold tau; split <;> rfl
theorem tau_0 {n : Nat} {d : EId} (h : ¬ 0 < d.t) : tau n d = d := by unfold tau; rw [if_neg h]
theorem tau_le {n : Nat} {d : EId} (h : d.t ≤ n) : (tau n d).t ≤ n := by
 by_cases h1 : 0 < d.t
 ·rw [tau_t h1]; omega
 ·rw [tau_0 h1]; exact h
theorem tau_tau {n : Nat} {d : EId} (h : d.t ≤ n) : tau n (tau n d) = d := by
 by_cases h1 : 0 < d.t
 ·have e := tau_t (n := n) h1
  exact EId.ext' (by rw [tau_t (by omega), e]; omega) (by rw [tau_i, tau_i])
 ·rw [tau_0 h1, tau_0 h1]
theorem tau_inj {n : Nat} {a b : EId} (ha : a.t ≤ n) (hb : b.t ≤ n) (h : tau n a = tau n b) : a = b := by
 rw [← tau_tau ha, ← tau_tau hb, h]
/-- two graphs, the one the other with its threads turned round -/
structure Tn (g h : Gr) : Prop where
 okg : GOk g
 okh : GOk h
 len : h.th.length = g.th.length
 init : h.init = g.init
 ev : ∀ d : EId, d.t ≤ g.th.length → eventM h (tau g.th.length d) = eventM g d
 src : ∀ d ∈ idsG g, readsM ((eventM g d).getD ev0) = true → srcOf h (tau g.th.length d) = tau g.th.length (srcOf g d)
theorem idsG_le {g : Gr} {d : EId} (h : d ∈ idsG g) : 0 ≤ d.t ∧ d.t ≤ g.th.length := by
 rw [idsG_mem] at h
 unfold eventM at h
 split at h
 ·omega
 ·split at h
  ·omega
  ·cases h
theorem src_mem {g : Gr} (hg : GOk g) {d : EId} (hd : d ∈ idsG g) (h0 : d.t ≠ 0) (hr : readsM ((eventM g d).getD ev0) = true) : srcOf g d ∈ idsG g := by
 obtain ⟨w, h1, _⟩ := source_mem (src_ok hg hd h0) hr
 rw [idsG_mem, h1]; rfl
section
variable {g h : Gr} (T : Tn g h)
include T
theorem tn_mem {d : EId} (hd : d ∈ idsG g) : tau g.th.length d ∈ idsG h := by
 rw [idsG_mem, T.ev d (idsG_le hd).2]
 exact idsG_mem.1 hd
theorem Tn.symm : Tn h g := by
 have e : ∀ d : EId, d.t ≤ g.th.length → eventM g (tau g.th.length d) = eventM h d := fun d hd => by
  rw [← T.ev _ (tau_le hd), tau_tau hd]
 refine ⟨T.okh, T.okg, T.len.symm, T.init.symm, fun d hd => by rw [T.len] at hd ⊢; exact e d hd, fun d hd hr => ?_⟩
 rw [T.len]
 have hl := (idsG_le hd).2
 rw [T.len] at hl
 have hm : tau g.th.length d ∈ idsG g := by
  rw [idsG_mem, e d hl]; exact idsG_mem.1 hd
 have hr2 : readsM ((eventM g (tau g.th.length d)).getD ev0) = true := by rw [e d hl]; exact hr
 have h1 := T.src _ hm hr2
 rw [tau_tau hl] at h1
 have h0 : (tau g.th.length d).t ≠ 0 := by
  intro h0
  unfold eventM at hr2
  rw [if_pos h0] at hr2
  split at hr2 <;> simp [readsM] at hr2
 rw [h1, tau_tau (idsG_le (src_mem T.okg hm h0 hr2)).2]
noncomputable def tnF (g h : Gr) (i : Nat) : Nat := numOf (idsG h) (tau g.th.length ((idsG g).getD i id0))
theorem tn_lt {i : Nat} (hi : i < nG g) : tnF g h i < nG h := numOf_lt (tn_mem T (getD_mem hi))
theorem tn_get {i : Nat} (hi : i < nG g) : (idsG h).getD (tnF g h i) id0 = tau g.th.length ((idsG g).getD i id0) := numOf_get (tn_mem T (getD_mem hi))
theorem tn_back {i : Nat} (hi : i < nG g) : tnF h g (tnF g h i) = i := by
 unfold tnF
 rw [show (idsG h).getD (numOf (idsG h) (tau g.th.length ((idsG g).getD i id0))) id0 = tau g.th.length ((idsG g).getD i id0) from tn_get T hi, T.len, tau_tau (idsG_le (getD_mem hi)).2]
 exact numOf_at (idsG_nodup g) hi
theorem tn_emb : QEmb (viewG g) (viewG h) (nG g) (nG h) (tnF g h) where
 lt := fun i hi => tn_lt T hi
 po := fun i hi j hj => by
  have d1 := tn_get T hi
  have d2 := tn_get T hj
  have m1 := idsG_le (g := g) (d := (idsG g).getD i id0) (getD_mem hi)
  have m2 := idsG_le (g := g) (d := (idsG g).getD j id0) (getD_mem hj)
  unfold poM
  show (decide (((idsG h).getD (tnF g h j) id0).t ≠ 0) && (decide (((idsG h).getD (tnF g h i) id0).t = 0) || decide (((idsG h).getD (tnF g h i) id0).t = ((idsG h).getD (tnF g h j) id0).t) && decide (((idsG h).getD (tnF g h i) id0).i < ((idsG h).getD (tnF g h j) id0).i))) = (decide (((idsG g).getD j id0).t ≠ 0) && (decide (((idsG g).getD i id0).t = 0) || decide (((idsG g).getD i id0).t = ((idsG g).getD j id0).t) && decide (((idsG g).getD i id0).i < ((idsG g).getD j id0).i)))
  rw [d1, d2, tau_i, tau_i]
  have z : ∀ d : EId, 0 ≤ d.t → d.t ≤ g.th.length → ((tau g.th.length d).t = 0 ↔ d.t = 0) := fun d h1 h2 => by
   by_cases h3 : 0 < d.t
   ·rw [tau_t h3]; omega
   ·rw [tau_0 h3]
  have q : ((tau g.th.length ((idsG g).getD i id0)).t = (tau g.th.length ((idsG g).getD j id0)).t) ↔ ((idsG g).getD i id0).t = ((idsG g).getD j id0).t := by
   by_cases h3 : 0 < ((idsG g).getD i id0).t
   ·by_cases h4 : 0 < ((idsG g).getD j id0).t
    ·rw [tau_t h3, tau_t h4]; omega
    ·rw [tau_t h3, tau_0 h4]; omega
   ·by_cases h4 : 0 < ((idsG g).getD j id0).t
    ·rw [tau_0 h3, tau_t h4]; omega
    ·rw [tau_0 h3, tau_0 h4]
  simp only [ne_eq, z _ m1.1 m1.2, z _ m2.1 m2.2, q]
 ev := fun i hi => by
  have h1 := evsG_get g i hi
  have h2 := evsG_get h (tnF g h i) (tn_lt T hi)
  rw [tn_get T hi, T.ev _ (idsG_le (getD_mem hi)).2, h1] at h2
  exact (Option.some.inj h2).symm
 fr := fun i hi j hj hf => by
  have e1 : (viewG g).fr.getD i 0 = frOf g ((idsG g).getD i id0) := tabI_get _ _ _ hi
  have e2 : (viewG h).fr.getD (tnF g h i) 0 = frOf h ((idsG h).getD (tnF g h i) id0) := tabI_get _ _ _ (tn_lt T hi)
  rw [e1] at hf
  rw [e2, tn_get T hi]
  have hm : (idsG g).getD i id0 ∈ idsG g := getD_mem hi
  have hle := idsG_le hm
  have hsrc := T.src _ hm
  have hev := T.ev _ hle.2
  unfold tnF
  generalize (idsG g).getD i id0 = d at *
  unfold frOf at hf ⊢
  by_cases h0 : d.t = 0
  ·rw [if_pos h0] at hf; omega
  ·rw [if_neg h0] at hf
   have h0' : (tau g.th.length d).t ≠ 0 := by rw [tau_t (by omega)]; omega
   rw [if_neg h0', hev]
   split at hf
   ·rename_i hr
    rw [if_pos hr, hsrc hr]
    have hs := src_mem T.okg hm h0 hr
    have e3 : srcOf g d = (idsG g).getD j id0 := by
     rw [← numOf_get hs]
     congr 1
     omega
    rw [e3]
   ·omega
theorem tn_hb {i j : Nat} (hi : i < nG g) (hj : j < nG g) : bit (hbF (viewG h) (nG h)) (tnF g h i) (tnF g h j) = bit (hbF (viewG g) (nG g)) i j := by
 have w1 := viewG_wf T.okg
 have w2 := viewG_wf T.okh
 rw [Bool.eq_iff_iff]
 constructor
 ·intro hb
  have := q_hb (tn_emb T.symm) w2 w1 hb
  rwa [tn_back T hi, tn_back T hj] at this
 ·exact q_hb (tn_emb T) w1 w2
end
end Go.AL.Rl

namespace Go.AL.Rl
open Go Go.AL Go.Proofs
set_option maxRecDepth 100000
set_option maxHeartbeats 3200000

def turnF (g : Gr) (k : Nat) : List EId := (List.range (g.fr.getD k []).length).map fun i => if readsM ((g.th.getD k []).getD i ev0) = true then tau g.th.length ((g.fr.getD k []).getD i id0) else (g.fr.getD k []).getD i id0
def turnG (g : Gr) : Gr := ⟨g.init, (List.range g.th.length).map fun t => g.th.getD (g.th.length - 1 - t) [], (List.range g.th.length).map fun t => turnF g (g.th.length - 1 - t), g.ord.map fun l => l.map (tau g.th.length)⟩
theorem turnF_len (g : Gr) (k : Nat) : (turnF g k).length = (g.fr.getD k []).length := by simp [turnF]
theorem turnF_get (g : Gr) (k : Nat) {i : Nat} (hi : i < (g.fr.getD k []).length) : (turnF g k).getD i id0 = if readsM ((g.th.getD k []).getD i ev0) = true then tau g.th.length ((g.fr.getD k []).getD i id0) else (g.fr.getD k []).getD i id0 := by
 rw [gD' (by rw [turnF_len]; exact hi)]
 simp [turnF]
theorem turn_len (g : Gr) : (turnG g).th.length = g.th.length := by simp [turnG]
theorem turn_th (g : Gr) {t : Nat} (ht : t < g.th.length) : (turnG g).th.getD t [] = g.th.getD (g.th.length - 1 - t) [] := by simp [turnG, ht]
theorem turn_fr (g : Gr) {t : Nat} (ht : t < g.th.length) : (turnG g).fr.getD t [] = turnF g (g.th.length - 1 - t) := by simp [turnG, ht]
theorem turn_ord (g : Gr) (x : Nat) : (turnG g).ord.getD x [] = (g.ord.getD x []).map (tau g.th.length) := by
 show (g.ord.map fun l => l.map (tau g.th.length)).getD x [] = _
 rcases Nat.lt_or_ge x g.ord.length with h | h
 ·simp [h]
 ·simp [List.getElem?_eq_none h]
theorem turn_ev (g : Gr) (d : EId) (hd : d.t ≤ g.th.length) : eventM (turnG g) (tau g.th.length d) = eventM g d := by
 unfold eventM
 rw [turn_len, show (turnG g).init = g.init from rfl]
 by_cases h1 : 0 < d.t
 ·have e1 := tau_t (n := g.th.length) h1
  rw [if_neg (show ¬ (tau g.th.length d).t = 0 by omega), if_neg (show ¬ d.t = 0 by omega), tau_i, e1]
  have e2 : ((g.th.length : Int) + 1 - d.t - 1).toNat < g.th.length := by omega
  rw [turn_th g e2, show g.th.length - 1 - ((g.th.length : Int) + 1 - d.t - 1).toNat = (d.t - 1).toNat by omega]
  by_cases h2 : 0 ≤ d.i ∧ d.i < (g.th.getD (d.t - 1).toNat []).length
  ·rw [if_pos ⟨by omega, by omega, h2⟩, if_pos ⟨h1, hd, h2⟩]
  ·rw [if_neg (fun h => h2 h.2.2), if_neg (fun h => h2 h.2.2)]
 ·rw [tau_0 h1]
  by_cases h0 : d.t = 0
  ·rw [if_pos h0, if_pos h0]
  ·rw [if_neg h0, if_neg h0, if_neg (fun h => h1 h.1), if_neg (fun h => h1 h.1)]
theorem turn_rev (g : Gr) : (turnG g).th = g.th.reverse := by
 apply List.ext_getElem (by simp [turnG])
 intro i h1 h2
 have hi : i < g.th.length := by simpa using h2
 have := turn_th g hi
 rw [gD' h1, gD' (by omega)] at this
 rw [this, List.getElem_reverse]
theorem cntT_rev (x : Int) (l : List (List Ev)) : cntT x l.reverse = cntT x l := by
 unfold cntT
 rw [List.map_reverse]
 induction l with
 | nil => rfl
 | cons a l ih => simp at ih ⊢; omega
theorem turn_isW (g : Gr) (x : Int) (d : EId) (hd : d.t ≤ g.th.length) : isW (turnG g) x (tau g.th.length d) = isW g x d := by
 unfold isW
 rw [turn_ev g d hd]
 cases eventM g d with
 | none => rfl
 | some e =>
  have z : (tau g.th.length d).t ≠ 0 ↔ d.t ≠ 0 := by
   by_cases h3 : 0 < d.t
   ·rw [tau_t h3]; omega
   ·rw [tau_0 h3]
  simp only [z]
theorem ord_leW {g : Gr} {x : Nat} {d : EId} (hd : isW g x d = true) : d.t ≤ g.th.length := by
 have : (eventM g d).isSome = true := by
  unfold isW at hd
  cases e : eventM g d with
  | none => rw [e] at hd; cases hd
  | some _ => rfl
 exact (idsG_le (idsG_mem.2 this)).2
theorem turnG_ok {g : Gr} (hg : GOk g) : GOk (turnG g) where
 short := by
  refine ⟨by rw [turn_len]; exact hg.short.th, hg.short.init, fun l hl => ?_⟩
  rw [turn_rev, List.mem_reverse] at hl
  exact hg.short.ths l hl
 lfr := by simp [turnG]
 lord := by
  show (g.ord.map _).length = g.init.length
  rw [List.length_map]; exact hg.lord
 events := fun t ht => by
  rw [turn_len] at ht
  obtain ⟨h1, h2⟩ := hg.events (g.th.length - 1 - t) (by omega)
  rw [turn_th g ht, turn_fr g ht, turnF_len]
  exact ⟨h1, h2⟩
 sources := fun t ht i hi => by
  rw [turn_len] at ht
  rw [turn_th g ht] at hi
  have hk : g.th.length - 1 - t < g.th.length := by omega
  have h1 := hg.sources _ hk i hi
  have hfl := (hg.events _ hk).1
  rw [turn_fr g ht, turnF_get g _ (by omega)]
  have hd : (⟨(t : Int) + 1, (i : Int)⟩ : EId) = tau g.th.length ⟨((g.th.length - 1 - t : Nat) : Int) + 1, (i : Int)⟩ := by
   refine EId.ext' ?_ ?_
   ·rw [tau_t (by show (0 : Int) < ((g.th.length - 1 - t : Nat) : Int) + 1; omega)]; show (t : Int) + 1 = (g.th.length : Int) + 1 - (((g.th.length - 1 - t : Nat) : Int) + 1); omega
   ·rw [tau_i]
  have hdl : (⟨((g.th.length - 1 - t : Nat) : Int) + 1, (i : Int)⟩ : EId).t ≤ g.th.length := by show ((g.th.length - 1 - t : Nat) : Int) + 1 ≤ _; omega
  have hev0 : (eventM g ⟨((g.th.length - 1 - t : Nat) : Int) + 1, (i : Int)⟩).getD ev0 = (g.th.getD (g.th.length - 1 - t) []).getD i ev0 := by
   unfold eventM
   rw [if_neg (show ¬ (((g.th.length - 1 - t : Nat) : Int) + 1 = 0) by omega), if_pos ⟨by show (0 : Int) < ((g.th.length - 1 - t : Nat) : Int) + 1; omega, hdl, by show (0 : Int) ≤ (i : Int); omega, by show (i : Int) < ((g.th.getD (((g.th.length - 1 - t : Nat) : Int) + 1 - 1).toNat []).length : Nat); rw [show (((g.th.length - 1 - t : Nat) : Int) + 1 - 1).toNat = g.th.length - 1 - t by omega]; omega⟩]
   show (g.th.getD (((g.th.length - 1 - t : Nat) : Int) + 1 - 1).toNat []).getD (i : Int).toNat ev0 = _
   rw [show (((g.th.length - 1 - t : Nat) : Int) + 1 - 1).toNat = g.th.length - 1 - t by omega, Int.toNat_natCast]
  rw [hd]
  unfold sourceM at h1 ⊢
  rw [turn_ev g _ hdl, hev0]
  rw [hev0] at h1
  generalize (g.fr.getD (g.th.length - 1 - t) []).getD i id0 = f at *
  generalize (⟨((g.th.length - 1 - t : Nat) : Int) + 1, (i : Int)⟩ : EId) = d at *
  split at h1
  ·rename_i hr
   rw [if_pos hr, if_pos hr]
   cases he : eventM g f with
   | none => rw [he] at h1; cases h1
   | some w =>
    have hfl : f.t ≤ g.th.length := (idsG_le (idsG_mem.2 (by rw [he]; rfl))).2
    rw [turn_ev g f hfl, he]
    rw [he] at h1
    simp only [Bool.and_eq_true, decide_eq_true_eq] at h1 ⊢
    exact ⟨⟨⟨fun e => h1.1.1.1 (tau_inj hfl hdl e), h1.1.1.2⟩, h1.1.2⟩, h1.2⟩
  ·rename_i hr
   rw [if_neg hr, if_neg hr]; exact h1
 orders := fun x hx => by
  obtain ⟨h1, h2, h3⟩ := (ordered_iff g x).1 (hg.orders x hx)
  rw [ordered_iff, turn_ord]
  refine ⟨?_, fun d hd => ?_, ?_⟩
  ·rw [List.Nodup, List.pairwise_map]
   exact List.Pairwise.imp_of_mem (fun {a b} ha hb hne he => hne (tau_inj (ord_leW (h2 a ha)) (ord_leW (h2 b hb)) he)) h1
  ·rw [List.mem_map] at hd
   obtain ⟨e, he, rfl⟩ := hd
   rw [turn_isW g x e (ord_leW (h2 e he))]
   exact h2 e he
  ·rw [List.length_map, turn_rev, cntT_rev]; exact h3
theorem turn_tn {g : Gr} (hg : GOk g) : Tn g (turnG g) where
 okg := hg
 okh := turnG_ok hg
 len := turn_len g
 init := rfl
 ev := turn_ev g
 src := fun d hd hr => by
  have h1 := idsG_mem.1 hd
  have h0 : d.t ≠ 0 := by
   intro h0
   unfold eventM at hr
   rw [if_pos h0] at hr
   split at hr <;> simp [readsM] at hr
  unfold eventM at h1 hr
  rw [if_neg h0] at h1 hr
  split at h1
  ·rename_i hc
   rw [if_pos hc] at hr
   change readsM ((g.th.getD (d.t - 1).toNat []).getD d.i.toNat ev0) = true at hr
   have ht : ((tau g.th.length d).t - 1).toNat < g.th.length := by rw [tau_t hc.1]; omega
   unfold srcOf
   rw [turn_fr g ht, show g.th.length - 1 - ((tau g.th.length d).t - 1).toNat = (d.t - 1).toNat by rw [tau_t hc.1]; omega, tau_i]
   have hfl := (hg.events (d.t - 1).toNat (by omega)).1
   rw [turnF_get g _ (by omega), if_pos hr]
  ·cases h1

section
variable {g h : Gr} (T : Tn g h)
include T
theorem tn_T {a : Nat} (ha : a < (idsT g g.th.length).length) : ∃ x, x < (idsT h h.th.length).length ∧ (idsT h h.th.length).getD x id0 = tau g.th.length ((idsT g g.th.length).getD a id0) ∧ rAt (rvG h) x = rAt (rvG g) a ∧ tnF g h (g.init.length + a) = g.init.length + x := by
 have hm : (idsT g g.th.length).getD a id0 ∈ idsT g g.th.length := getD_mem ha
 have hmg := idsT_inG hm
 rw [idsT_mem] at hm
 have hn : g.init.length + a < nG g := by unfold nG idsG; rw [List.length_append, idsI_len]; omega
 have d1 := tn_get T hn
 rw [idsG_getT] at d1
 have hx := tn_lt T hn
 have hge : h.init.length ≤ tnF g h (g.init.length + a) := by
  rcases Nat.lt_or_ge (tnF g h (g.init.length + a)) h.init.length with h1 | h1
  ·have e : (idsG h).getD (tnF g h (g.init.length + a)) id0 = ⟨0, (tnF g h (g.init.length + a) : Nat)⟩ := by
    unfold idsG
    rw [List.getD_eq_getElem?_getD, List.getElem?_append_left (by rw [idsI_len]; exact h1)]
    simp [idsI, h1]
   rw [d1] at e
   have := congrArg EId.t e
   rw [tau_t (by omega)] at this
   have h2 : (g.th.length : Int) + 1 - ((idsT g g.th.length).getD a id0).t = 0 := this
   omega
  ·exact h1
 have hl : (idsG h).length = h.init.length + (idsT h h.th.length).length := by unfold idsG; rw [List.length_append, idsI_len]
 have hx2 : tnF g h (g.init.length + a) - h.init.length < (idsT h h.th.length).length := by unfold nG at hx; omega
 refine ⟨tnF g h (g.init.length + a) - h.init.length, hx2, ?_, ?_, ?_⟩
 ·rw [← idsG_getT (g := h), show h.init.length + (tnF g h (g.init.length + a) - h.init.length) = tnF g h (g.init.length + a) by omega]
  exact d1
 ·have e1 := evsT_get g g.th.length a (Nat.le_refl _) ha
  have e2 := evsT_get h h.th.length _ (Nat.le_refl _) hx2
  rw [← idsG_getT (g := h), show h.init.length + (tnF g h (g.init.length + a) - h.init.length) = tnF g h (g.init.length + a) by omega, d1, T.ev _ (idsG_le hmg).2, e1] at e2
  exact (Option.some.inj e2).symm
 ·have e : h.init.length = g.init.length := by rw [T.init]
  omega
theorem tn_one {a b : Nat} (ha : a < (idsT g g.th.length).length) (hb : b < (idsT g g.th.length).length) (h1 : oneM (rvG g) a b = true) {x y : Nat}
  (hx : (idsT h h.th.length).getD x id0 = tau g.th.length ((idsT g g.th.length).getD a id0)) (vx : rAt (rvG h) x = rAt (rvG g) a) (nx : tnF g h (g.init.length + a) = g.init.length + x)
  (hy : (idsT h h.th.length).getD y id0 = tau g.th.length ((idsT g g.th.length).getD b id0)) (vy : rAt (rvG h) y = rAt (rvG g) b) (ny : tnF g h (g.init.length + b) = g.init.length + y) : oneM (rvG h) x y = true := by
 obtain ⟨c1, c2, c3, c4, c5, c6, c7, c8⟩ := oneM_iff.1 h1
 have m1 := (idsT_mem (g := g)).1 (getD_mem (d := id0) ha)
 have m2 := (idsT_mem (g := g)).1 (getD_mem (d := id0) hb)
 have na : g.init.length + a < nG g := by unfold nG idsG; rw [List.length_append, idsI_len]; omega
 have nb : g.init.length + b < nG g := by unfold nG idsG; rw [List.length_append, idsI_len]; omega
 have sh : ∀ g : Gr, (rvG g).sh.toNat = g.init.length := fun g => Int.toNat_natCast _
 have b1 := tn_hb T na nb
 have b2 := tn_hb T nb na
 rw [nx, ny] at b1 b2
 refine oneM_iff.2 ⟨?_, by rw [vx]; exact c2, by rw [vy]; exact c3, by rw [vx, vy]; exact c4, by rw [vx, vy]; exact c5, by rw [vx, vy]; exact c6, ?_, ?_⟩
 ·show ((idsT h h.th.length).getD x id0).t ≠ ((idsT h h.th.length).getD y id0).t
  rw [hx, hy, tau_t (by omega), tau_t (by omega)]
  change ((idsT g g.th.length).getD a id0).t ≠ ((idsT g g.th.length).getD b id0).t at c1
  omega
 ·unfold rAhead at c7 ⊢
  rw [sh] at c7 ⊢
  show bit (hbF (viewG h) (nG h)) _ _ = false
  change bit (hbF (viewG g) (nG g)) _ _ = false at c7
  rw [T.init, Nat.add_comm x, Nat.add_comm y, b1, Nat.add_comm _ a, Nat.add_comm _ b]
  exact c7
 ·unfold rAhead at c8 ⊢
  rw [sh] at c8 ⊢
  show bit (hbF (viewG h) (nG h)) _ _ = false
  change bit (hbF (viewG g) (nG g)) _ _ = false at c8
  rw [T.init, Nat.add_comm x, Nat.add_comm y, b2, Nat.add_comm _ a, Nat.add_comm _ b]
  exact c8
end
end Go.AL.Rl

namespace Go.AL.Rl
open Go Go.AL Go.Proofs
set_option maxRecDepth 100000
set_option maxHeartbeats 3200000

theorem oneM_turn (v : RV) (a b : Nat) (h : oneM v a b = true) : oneM v b a = true := by
 obtain ⟨h1, h2, h3, h4, h5, h6, h7, h8⟩ := oneM_iff.1 h
 exact oneM_iff.2 ⟨fun e => h1 e.symm, h3, h2, h4.symm, h5.symm, h6.symm, h8, h7⟩
theorem sub_len {α : Type} [DecidableEq α] : ∀ {l k : List α}, l.Nodup → (∀ x ∈ l, x ∈ k) → l.length ≤ k.length
 | [], _, _, _ => Nat.zero_le _
 | x :: l, k, hn, hs => by
  rw [List.nodup_cons] at hn
  have hx : x ∈ k := hs x (by simp)
  have h1 : ∀ y ∈ l, y ∈ k.erase x := fun y hy => by
   have hne : y ≠ x := fun e => hn.1 (e ▸ hy)
   exact (List.mem_erase_of_ne hne).2 (hs y (by simp [hy]))
  have h2 := sub_len hn.2 h1
  rw [List.length_erase_of_mem hx] at h2
  have h3 : 0 < k.length := List.length_pos_of_mem hx
  simp only [List.length_cons]
  omega
theorem rpA_fst {v : RV} {m : Nat} {p : Nat × Nat} : ∀ a, p ∈ rpA v m a → p.1 < a
 | 0, h => by simp [rpA] at h
 | a + 1, h => by
  rw [rpA, List.mem_append] at h
  rcases h with h | h
  ·have := rpA_fst a h; omega
  ·have := (rpB_mem m h).1; omega
theorem rpB_nodup (v : RV) (a : Nat) : ∀ b, (rpB v a b).Nodup
 | 0 => List.nodup_nil
 | b + 1 => by
  rw [rpB, List.nodup_append]
  refine ⟨rpB_nodup v a b, by split <;> simp, fun x hx y hy => ?_⟩
  have h1 := (rpB_mem b hx).2.2.1
  split at hy
  ·have e : y = (a, b) := by simpa using hy
   intro h; rw [h, e] at h1; exact absurd h1 (Nat.lt_irrefl b)
  ·cases hy
theorem rpA_nodup (v : RV) (m : Nat) : ∀ a, (rpA v m a).Nodup
 | 0 => List.nodup_nil
 | a + 1 => by
  rw [rpA, List.nodup_append]
  refine ⟨rpA_nodup v m a, rpB_nodup v a m, fun x hx y hy => ?_⟩
  have h1 := rpA_fst a hx
  have h2 := (rpB_mem m hy).1
  intro h; rw [h] at h1; omega
section
variable {g h : Gr} (T : Tn g h)
include T
/-- the place of a turned event -/
noncomputable def tnX (g h : Gr) (a : Nat) : Nat := tnF g h (g.init.length + a) - g.init.length
theorem tn_X {a : Nat} (ha : a < (idsT g g.th.length).length) : tnX g h a < (idsT h h.th.length).length ∧ (idsT h h.th.length).getD (tnX g h a) id0 = tau g.th.length ((idsT g g.th.length).getD a id0) ∧ rAt (rvG h) (tnX g h a) = rAt (rvG g) a ∧ tnF g h (g.init.length + a) = g.init.length + tnX g h a := by
 obtain ⟨x, h1, h2, h3, h4⟩ := tn_T T ha
 have e : tnX g h a = x := by unfold tnX; omega
 rw [e]; exact ⟨h1, h2, h3, h4⟩
theorem tn_X1 {a b : Nat} (ha : a < (idsT g g.th.length).length) (hb : b < (idsT g g.th.length).length) (h1 : oneM (rvG g) a b = true) : oneM (rvG h) (tnX g h a) (tnX g h b) = true := by
 obtain ⟨_, x2, x3, x4⟩ := tn_X T ha
 obtain ⟨_, y2, y3, y4⟩ := tn_X T hb
 exact tn_one T ha hb h1 x2 x3 x4 y2 y3 y4
theorem tn_Xinj {a b : Nat} (ha : a < (idsT g g.th.length).length) (hb : b < (idsT g g.th.length).length) (h1 : tnX g h a = tnX g h b) : a = b := by
 obtain ⟨_, x2, _⟩ := tn_X T ha
 obtain ⟨_, y2, _⟩ := tn_X T hb
 rw [h1, y2] at x2
 have m1 := (idsT_mem (g := g)).1 (getD_mem (d := id0) ha)
 have m2 := (idsT_mem (g := g)).1 (getD_mem (d := id0) hb)
 exact getD_inj (idsT_nodup g _) ha hb (tau_inj m2.2.1 m1.2.1 x2).symm
theorem tn_numI {a : Nat} (ha : a < (idsT g g.th.length).length) : numI (idsT h h.th.length) (tau g.th.length ((idsT g g.th.length).getD a id0)) = (tnX g h a : Nat) := by
 obtain ⟨x1, x2, _⟩ := tn_X T ha
 refine numI_at x1 x2 fun j hj he => ?_
 have := getD_inj (idsT_nodup h _) (by omega) x1 (he.trans x2.symm)
 omega
theorem tn_bet1 {a b : Nat} (ha : a < (idsT g g.th.length).length) (hb : b < (idsT g g.th.length).length) (h1 : oneM (rvG g) a b = true) : btM (rvG h) (tau g.th.length ((idsT g g.th.length).getD a id0)) (tau g.th.length ((idsT g g.th.length).getD b id0)) = true := by
 unfold btM
 show (decide (0 ≤ numI (idsT h h.th.length) _) && decide (0 ≤ numI (idsT h h.th.length) _) && oneM (rvG h) (numI (idsT h h.th.length) _).toNat (numI (idsT h h.th.length) _).toNat) = true
 rw [tn_numI T ha, tn_numI T hb, Int.toNat_natCast, Int.toNat_natCast, tn_X1 T ha hb h1]
 simp
theorem tn_bet {i : Nat} (hi : i < (racesV (rvG g)).length) : btM (rvG h) (tau g.th.length ((racesV (rvG g)).getD i rc0).a) (tau g.th.length ((racesV (rvG g)).getD i rc0).b) = true ∧ btM (rvG h) (tau g.th.length ((racesV (rvG g)).getD i rc0).b) (tau g.th.length ((racesV (rvG g)).getD i rc0).a) = true ∧
  0 < ((racesV (rvG g)).getD i rc0).a.t ∧ ((racesV (rvG g)).getD i rc0).a.t ≤ g.th.length ∧ 0 < ((racesV (rvG g)).getD i rc0).b.t ∧ ((racesV (rvG g)).getD i rc0).b.t ≤ g.th.length := by
 obtain ⟨a, b, hab, hb, ho, e⟩ := races_mem hi
 rw [e]
 have ha : a < (idsT g g.th.length).length := Nat.lt_trans hab hb
 have m1 := (idsT_mem (g := g)).1 (getD_mem (d := id0) ha)
 have m2 := (idsT_mem (g := g)).1 (getD_mem (d := id0) hb)
 exact ⟨tn_bet1 T ha hb ho, tn_bet1 T hb ha (oneM_turn _ _ _ ho), by show 0 < ((idsT g g.th.length).getD a id0).t; omega, m1.2.1, by show 0 < ((idsT g g.th.length).getD b id0).t; omega, m2.2.1⟩
/-- a race's pair, turned -/
noncomputable def tnP (g h : Gr) (p : Nat × Nat) : Nat × Nat := if tnX g h p.1 < tnX g h p.2 then (tnX g h p.1, tnX g h p.2) else (tnX g h p.2, tnX g h p.1)
theorem tn_P {p : Nat × Nat} (hp : p ∈ rpA (rvG g) (idsT g g.th.length).length (idsT g g.th.length).length) : tnP g h p ∈ rpA (rvG h) (idsT h h.th.length).length (idsT h h.th.length).length := by
 obtain ⟨h1, h2, h3⟩ := rpA_mem _ hp
 have ha : p.1 < (idsT g g.th.length).length := Nat.lt_trans h1 h2
 have ho := tn_X1 T ha h2 h3
 have x1 := (tn_X T ha).1
 have y1 := (tn_X T h2).1
 unfold tnP
 split
 ·rename_i hlt; exact rpA_has hlt y1 ho _ (by omega)
 ·rename_i hlt
  have hne : tnX g h p.1 ≠ tnX g h p.2 := fun e => by have := tn_Xinj T ha h2 e; omega
  exact rpA_has (by omega) x1 (oneM_turn _ _ _ ho) _ y1
theorem tn_Pinj {p q : Nat × Nat} (hp : p ∈ rpA (rvG g) (idsT g g.th.length).length (idsT g g.th.length).length) (hq : q ∈ rpA (rvG g) (idsT g g.th.length).length (idsT g g.th.length).length) (he : tnP g h p = tnP g h q) : p = q := by
 obtain ⟨h1, h2, _⟩ := rpA_mem _ hp
 obtain ⟨k1, k2, _⟩ := rpA_mem _ hq
 have hp1 := Nat.lt_trans h1 h2
 have hq1 := Nat.lt_trans k1 k2
 have I := fun {a b} => tn_Xinj T (a := a) (b := b)
 unfold tnP at he
 split at he <;> split at he
 ·rw [Prod.mk.injEq] at he
  exact Prod.ext (I hp1 hq1 he.1) (I h2 k2 he.2)
 ·rw [Prod.mk.injEq] at he
  have e1 := I hp1 k2 he.1
  have e2 := I h2 hq1 he.2
  omega
 ·rw [Prod.mk.injEq] at he
  have e1 := I h2 hq1 he.1
  have e2 := I hp1 k2 he.2
  omega
 ·rw [Prod.mk.injEq] at he
  exact Prod.ext (I hp1 hq1 he.2) (I h2 k2 he.1)
theorem tn_len : (racesV (rvG g)).length ≤ (racesV (rvG h)).length := by
 unfold racesV
 rw [List.length_map, List.length_map]
 show (rpA (rvG g) (idsT g g.th.length).length (idsT g g.th.length).length).length ≤ (rpA (rvG h) (idsT h h.th.length).length (idsT h h.th.length).length).length
 rw [← List.length_map (f := tnP g h)]
 refine sub_len ?_ fun x hx => ?_
 ·rw [List.Nodup, List.pairwise_map]
  exact List.Pairwise.imp_of_mem (fun {a b} ha hb hne he => hne (tn_Pinj T ha hb he)) (rpA_nodup _ _ _)
 ·rw [List.mem_map] at hx
  obtain ⟨p, hp, rfl⟩ := hx
  exact tn_P T hp
theorem tn_loc1 {x : Int} (hx : ∃ r ∈ racesV (rvG g), r.loc = x) : ∃ r ∈ racesV (rvG h), r.loc = x := by
 obtain ⟨r, hr, rfl⟩ := hx
 unfold racesV at hr
 rw [List.mem_map] at hr
 obtain ⟨p, hp, rfl⟩ := hr
 obtain ⟨h1, h2, h3⟩ := rpA_mem _ hp
 have ha : p.1 < (idsT g g.th.length).length := Nat.lt_trans h1 h2
 have c4 := (oneM_iff.1 h3).2.2.2.1
 refine ⟨rcOf (rvG h) (tnP g h p), List.mem_map_of_mem (tn_P T hp), ?_⟩
 show (rAt (rvG h) (tnP g h p).1).loc = (rAt (rvG g) p.1).loc
 unfold tnP
 split
 ·show (rAt (rvG h) (tnX g h p.1)).loc = _
  rw [(tn_X T ha).2.2.1]
 ·show (rAt (rvG h) (tnX g h p.2)).loc = _
  rw [(tn_X T h2).2.2.1, c4]
end
theorem turn_len_eq {g : Gr} (hg : GOk g) : (racesV (rvG g)).length = (racesV (rvG (turnG g))).length := Nat.le_antisymm (tn_len (turn_tn hg)) (tn_len (turn_tn hg).symm)
theorem turn_locs {g : Gr} (hg : GOk g) : locsV (rvG (turnG g)) = locsV (rvG g) := locsV_eq fun x => ⟨tn_loc1 (turn_tn hg).symm, tn_loc1 (turn_tn hg)⟩
end Go.AL.Rl

namespace Go.AL.Rl
open Go Go.AL Go.Proofs
set_option maxRecDepth 100000
set_option maxHeartbeats 3200000
variable {γ : Nat → Option AV}

theorem tau_ok (n : Nat) (hn : n ≤ 4) (d : EId) (hd : d.t ≤ n) : Pure Try.prog γ false 37 [aId d, .vp (fun _ => .i fun _ => (n : Int)) 0] (aId (tau n d)) := by
 refine Pure.go (ty := ty) ty_eq mo Try.func37 rfl Try.ntmps37 Try.results37 Try.call37 (by simp) fun P C CQ D W F E hF => ?_
 cbv
 repeat' (first
  |(refine ⟨fun _ h_s=>?_,fun _ h_s=>?_⟩<;>(cbv;(try simp only [nc] at *);try simp (disch:=(first|omega|(simp only [lnS];omega))) only [rdT,rdS,reduceCtorEq,trT] at h_s))
  |(refine hF ?_;intro _;clear hF)
  |(refine hF ?_;cbv;clear hF)
  |(refine ⟨fun _=>?_,?_⟩;(· ((try simp only [nc] at *);first|done|omega|exact ⟨by omega,rfl⟩|(simp (disch:=(first|omega|(simp only [lnS];omega))) only [rdT,rdS];first|done|omega|rfl|exact ⟨by omega,rfl⟩|(simp;done)|(simp;omega))|(intros;trivial)));(try (simp only [nc] at *));(try simp (disch:=(first|omega|(simp only [lnS];omega))) only [rdT,rdS]);(try cbv))
  | fail
 )
 ·rw [tau_t (by ((try simp only [nc] at *); omega)), tau_i]; simp
 ·rw [tau_0 (by ((try simp only [nc] at *); omega))]; simp
/-- threads turned so far -/
def tT (g : Gr) (t : Nat) : List (List Ev) := (List.range g.th.length).map fun s => if s < t then g.th.getD (g.th.length - 1 - s) [] else g.th.getD s []
def tF (g : Gr) (t : Nat) : List (List EId) := (List.range g.th.length).map fun s => if s < t then turnF g (g.th.length - 1 - s) else g.fr.getD s []
def xF (g : Gr) (k i : Nat) : List EId := (turnF g k).take i ++ (g.fr.getD k []).drop i
theorem list_ext2 {α : Type} {n : Nat} {a b : List (List α)} (ha : a.length = n) (hb : b.length = n) (h : ∀ s < n, a.getD s [] = b.getD s []) : a = b := by
 apply List.ext_getElem (by omega)
 intro s h1 h2
 have := h s (by omega)
 rwa [gD' h1, gD' h2] at this
theorem tT_len (g : Gr) (t : Nat) : (tT g t).length = g.th.length := by simp [tT]
theorem tF_len (g : Gr) (t : Nat) : (tF g t).length = g.th.length := by simp [tF]
theorem tT_get (g : Gr) (t : Nat) {s : Nat} (hs : s < g.th.length) : (tT g t).getD s [] = if s < t then g.th.getD (g.th.length - 1 - s) [] else g.th.getD s [] := by simp [tT, hs]
theorem tF_get (g : Gr) (t : Nat) {s : Nat} (hs : s < g.th.length) : (tF g t).getD s [] = if s < t then turnF g (g.th.length - 1 - s) else g.fr.getD s [] := by simp [tF, hs]
theorem tT_zero (g : Gr) : tT g 0 = g.th := list_ext2 (tT_len g 0) rfl fun s hs => by rw [tT_get g 0 hs, if_neg (Nat.not_lt_zero s)]
theorem tF_zero (g : Gr) (h : g.fr.length = g.th.length) : tF g 0 = g.fr := list_ext2 (tF_len g 0) h fun s hs => by rw [tF_get g 0 hs, if_neg (Nat.not_lt_zero s)]
theorem tT_end (g : Gr) : tT g g.th.length = (turnG g).th := list_ext2 (tT_len g _) (turn_len g) fun s hs => by rw [tT_get g _ hs, if_pos hs, turn_th g hs]
theorem tF_end (g : Gr) : tF g g.th.length = (turnG g).fr := list_ext2 (tF_len g _) (by simp [turnG]) fun s hs => by rw [tF_get g _ hs, if_pos hs, turn_fr g hs]
theorem tT_set (g : Gr) (t : Nat) (ht : t < g.th.length) : (tT g t).set t (g.th.getD (g.th.length - 1 - t) []) = tT g (t + 1) := list_ext2 (by simp [tT_len]) (tT_len g _) fun s hs => by
 rw [getD_set' _ _ _ _ _ (by rw [tT_len]; exact ht), tT_get g _ hs, tT_get g _ hs]
 by_cases e : s = t
 ·subst e; rw [if_pos rfl, if_pos (by omega)]
 ·rw [if_neg e]
  by_cases h1 : s < t
  ·rw [if_pos h1, if_pos (by omega)]
  ·rw [if_neg h1, if_neg (by omega)]
theorem tF_set (g : Gr) (t : Nat) (ht : t < g.th.length) : (tF g t).set t (turnF g (g.th.length - 1 - t)) = tF g (t + 1) := list_ext2 (by simp [tF_len]) (tF_len g _) fun s hs => by
 rw [getD_set' _ _ _ _ _ (by rw [tF_len]; exact ht), tF_get g _ hs, tF_get g _ hs]
 by_cases e : s = t
 ·subst e; rw [if_pos rfl, if_pos (by omega)]
 ·rw [if_neg e]
  by_cases h1 : s < t
  ·rw [if_pos h1, if_pos (by omega)]
  ·rw [if_neg h1, if_neg (by omega)]
theorem xF_zero (g : Gr) (k : Nat) : xF g k 0 = g.fr.getD k [] := by simp [xF]
theorem xF_end (g : Gr) (k : Nat) : xF g k (g.fr.getD k []).length = turnF g k := by
 unfold xF; rw [List.drop_length, List.append_nil, List.take_of_length_le (by rw [turnF_len]; exact Nat.le_refl _)]
theorem xF_len (g : Gr) (k i : Nat) (hi : i ≤ (g.fr.getD k []).length) : (xF g k i).length = (g.fr.getD k []).length := by
 unfold xF; rw [List.length_append, List.length_take, List.length_drop, turnF_len]; omega
theorem xF_at (g : Gr) (k i : Nat) (hi : i < (g.fr.getD k []).length) : (xF g k i).getD i id0 = (g.fr.getD k []).getD i id0 := by
 have h1 := turnF_len g k
 unfold xF
 rw [List.getD_eq_getElem?_getD, List.getElem?_append_right (by rw [List.length_take]; omega), List.length_take, Nat.min_eq_left (by omega), List.getElem?_drop, Nat.sub_self, Nat.add_zero, ← List.getD_eq_getElem?_getD]
theorem xF_set (g : Gr) (k i : Nat) (hi : i < (g.fr.getD k []).length) (y : EId) (hy : y = (turnF g k).getD i id0) : (xF g k i).set i y = xF g k (i + 1) := by
 have h1 := turnF_len g k
 subst hy
 unfold xF
 rw [List.set_append, if_neg (by rw [List.length_take]; omega), List.length_take, Nat.min_eq_left (by omega), Nat.sub_self, take_succ' (turnF g k) i id0 (by omega), List.append_assoc]
 congr 1
 rw [List.drop_eq_getElem_cons hi]
 rfl
/-- the orders turned so far -/
def tO (g : Gr) (x : Nat) : List (List EId) := (g.ord.take x).map (fun l => l.map (tau g.th.length)) ++ g.ord.drop x
def xO (g : Gr) (x i : Nat) : List EId := ((g.ord.getD x []).take i).map (tau g.th.length) ++ (g.ord.getD x []).drop i
theorem tO_len (g : Gr) (x : Nat) : (tO g x).length = g.ord.length := by unfold tO; simp; omega
theorem tO_zero (g : Gr) : tO g 0 = g.ord := by simp [tO]
theorem tO_end (g : Gr) : tO g g.ord.length = (turnG g).ord := by simp [tO, turnG]
theorem tO_at (g : Gr) (x : Nat) (hx : x < g.ord.length) : (tO g x).getD x [] = g.ord.getD x [] := by
 unfold tO
 rw [List.getD_eq_getElem?_getD, List.getElem?_append_right (by simp; omega)]
 simp [Nat.min_eq_left (Nat.le_of_lt hx), List.getElem?_drop]
theorem tO_set (g : Gr) (x : Nat) (hx : x < g.ord.length) : (tO g x).set x ((g.ord.getD x []).map (tau g.th.length)) = tO g (x + 1) := by
 unfold tO
 rw [List.set_append, if_neg (by simp; omega), take_succ' g.ord x [] hx, List.map_append, List.append_assoc]
 congr 1
 rw [show x - (List.map (fun l => List.map (tau g.th.length) l) (List.take x g.ord)).length = 0 by simp; omega, List.drop_eq_getElem_cons hx]
 rfl
theorem xO_zero (g : Gr) (x : Nat) : xO g x 0 = g.ord.getD x [] := by simp [xO]
theorem xO_end (g : Gr) (x : Nat) : xO g x (g.ord.getD x []).length = (g.ord.getD x []).map (tau g.th.length) := by simp [xO]
theorem xO_len (g : Gr) (x i : Nat) : (xO g x i).length = (g.ord.getD x []).length := by unfold xO; simp; omega
theorem xO_at (g : Gr) (x i : Nat) (hi : i < (g.ord.getD x []).length) : (xO g x i).getD i id0 = (g.ord.getD x []).getD i id0 := by
 generalize hl : g.ord.getD x [] = l at *
 unfold xO
 rw [hl, List.getD_eq_getElem?_getD, List.getElem?_append_right (by simp; omega)]
 simp [Nat.min_eq_left (Nat.le_of_lt hi), List.getElem?_drop]
theorem xO_set (g : Gr) (x i : Nat) (hi : i < (g.ord.getD x []).length) : (xO g x i).set i (tau g.th.length ((g.ord.getD x []).getD i id0)) = xO g x (i + 1) := by
 generalize hl : g.ord.getD x [] = l at *
 unfold xO
 rw [hl, List.set_append, if_neg (by simp; omega), take_succ' l i id0 hi, List.map_append, List.append_assoc]
 congr 1
 rw [show i - (List.map (tau g.th.length) (List.take i l)).length = 0 by simp; omega, List.drop_eq_getElem_cons hi]
 rfl
end Go.AL.Rl

namespace Go.AL.Rl
open Go Go.AL Go.Proofs
set_option maxRecDepth 100000
set_option maxHeartbeats 3200000
variable {γ : Nat → Option AV}

theorem ids_put2 (b : List EId) (k : Nat) (x y : Unit → Int) (z w : Int) : LV.of ((ids b).l.set k ((AV.agg [.i x, .i y]).upd 0 (.agg [.i fun _ => z, .i fun _ => w]))) = ids (b.set k ⟨z, w⟩) := by
 unfold ids; rw [LV.l_of, List.map_set]; rfl
theorem set_self {α : Type} {l : List α} {i : Nat} {d : α} (hi : i < l.length) : l.set i (l.getD i d) = l := by
 apply List.ext_getElem (by simp)
 intro j h1 h2
 rw [List.getElem_set]
 split
 ·rename_i e; subst e; rw [gD' hi]
 ·rfl
theorem turned_ok (g : Gr) (hg : GOk g) : Pure Try.prog γ false 20 [aGr g] (aGr (turnG g)) := by
 have hR := rd_short hg
 have hs := hg.short
 have hth := hs.th
 have hin := hs.init
 have hle := hs.at
 have hlf := hg.lfr
 have hlo := hg.lord
 obtain ⟨n1, n2, n3, ko⟩ := rcopy_own (γ := γ) g (rdb_ok hg) hR
 have kt := tau_ok (γ := γ) g.th.length hth
 obtain ⟨n, hn⟩ : ∃ n, n = g.th.length := ⟨_, rfl⟩
 refine Pure.go (ty := ty) ty_eq mo Try.func20 rfl Try.ntmps20 Try.results20 Try.call20 (by simp) fun P C CQ D W F E hF => ?_
 cbv
 repeat' (first
  |(refine E.c (SCalls.of_owns (ko) ?_ ?_);(· (cbv;(try simp only [nc] at *);first|done|(simp;done)|(simp (disch:=(first|omega|(simp only [lnS];omega))) only [rdT,rdS,anT];first|done|omega|(refine ⟨?_,?_⟩<;>omega))|(simp (disch:=(first|omega|(simp only [lnS];omega))) [rdT,rdS];done)));cbv)
  |(refine ⟨fun _ h_s=>?_,fun _ h_s=>?_⟩<;>(cbv;(try simp only [nc] at *);try simp (disch:=(first|omega|(simp only [lnS];omega))) only [rdT,rdS,reduceCtorEq,trT] at h_s))
  |(refine hF ?_;intro _;clear hF)
  |(refine hF ?_;cbv;clear hF)
  |(refine ⟨fun _=>?_,?_⟩;(· ((try simp only [nc] at *);first|done|omega|exact ⟨by omega,rfl⟩|(simp (disch:=(first|omega|(simp only [lnS];omega))) only [rdT,rdS];first|done|omega|rfl|exact ⟨by omega,rfl⟩|(simp;done)|(simp;omega))|(intros;trivial)));(try (simp only [nc] at *));(try simp (disch:=(first|omega|(simp only [lnS];omega))) only [rdT,rdS]);(try cbv))
  |(refine E.d 16 (by decide +kernel) ?_;cbv;(fail_if_success guard_target =~ False))
  | fail
 )
 refine E.loopC (ι := Nat) (fun t => t ≤ g.th.length) (fun t => g.th.length - t) (fun t => [(6, .i fun _ => ((t : Nat) : Int))]) (fun t => [.box (aGr g), .box (.agg [.nils, .nils, .nils, .nils]), .box (.i fun _ => (g.th.length : Int)), .any, .any, .run 0 1 fun _ => is g.init, .any, .nest n1 5 (fun _ => evL (tT g t)) none, .nest n2 2 (fun _ => idL (tF g t)) none, .nest n3 2 (fun _ => idL g.ord) none, .box (cpV g n1 n2 n3 5 7 8 9)]) 0 rfl (fun _ => rfl) (Nat.zero_le _) ?_ fun t ht I1 hI1 => ?_
 ·cbv; simp [tT_zero, tF_zero g hlf]
 refine E.at 2 fun J1 hJ1 => ?_
 cbv
 repeat' (first
  |(refine ⟨fun _ h_s=>?_,fun _ h_s=>?_⟩<;>(cbv;(try simp only [nc] at *);try simp (disch:=(first|omega|(simp only [lnS];omega))) only [rdT,rdS,reduceCtorEq,trT] at h_s))
  |(refine hF ?_;intro _;clear hF)
  |(refine hF ?_;cbv;clear hF)
  |(refine ⟨fun _=>?_,?_⟩;(· ((try simp only [nc] at *);first|done|omega|exact ⟨by omega,rfl⟩|(simp (disch:=(first|omega|(simp only [lnS];omega))) only [rdT,rdS];first|done|omega|rfl|exact ⟨by omega,rfl⟩|(simp;done)|(simp;omega))|(intros;trivial)));(try (simp only [nc] at *));(try simp (disch:=(first|omega|(simp only [lnS];omega))) only [rdT,rdS]);(try cbv))
  |(refine E.d 16 (by decide +kernel) ?_;cbv;(fail_if_success guard_target =~ False))
  | fail
 )
 ·have htt : t < g.th.length := by ((try simp only [nc] at *); omega)
  have hkk : g.th.length - 1 - t < g.th.length := by omega
  have hTl := tT_len g
  have hFl := tF_len g
  have hTs := tT_set g t htt
  have hTg := tT_get g (t + 1) htt
  rw [if_pos (Nat.lt_succ_self t)] at hTg
  have hput : (evL (tT g (t + 1))).set t (evs (g.th.getD (g.th.length - 1 - t) [])) = evL (tT g (t + 1)) := by
   rw [evL_set, ← hTg, set_self (by rw [hTl]; exact htt)]
  have hFs := tF_set g t htt
  have hev := (hg.events _ hkk).1
  have hel := hle (g.th.length - 1 - t)
  have hx0 := xF_zero g (g.th.length - 1 - t)
  have hxe := xF_end g (g.th.length - 1 - t)
  have hxl := xF_len g (g.th.length - 1 - t)
  have hxa := xF_at g (g.th.length - 1 - t)
  have hxs := xF_set g (g.th.length - 1 - t)
  have htf := fun i => turnF_get g (g.th.length - 1 - t) (i := i)
  have hsrc := hg.sources _ hkk
  have w3 : ((g.th.length : Int) - 1 - (t : Int)).toNat = g.th.length - 1 - t := by omega
  obtain ⟨k, hk⟩ : ∃ k, k = g.th.length - 1 - t := ⟨_, rfl⟩
  rw [← hk] at hkk hTs hTg hput hFs hev hel hx0 hxe hsrc w3
  simp only [← hk] at hxl hxa hxs htf
  refine hJ1 (AWPl.blockK fun J2 hJ2 => E.bl ?_)
  clear hJ1
  cbv
  skip
  repeat' (first
   |(refine ⟨fun _ h_s=>?_,fun _ h_s=>?_⟩<;>(cbv;(try simp only [nc] at *);try simp (disch:=(first|omega|(simp only [lnS];omega))) only [rdT,rdS,w3,reduceCtorEq,trT] at h_s))
   |(refine hF ?_;intro _;clear hF)
   |(refine hF ?_;cbv;clear hF)
   |(refine ⟨fun _=>?_,?_⟩;(· ((try simp only [nc] at *);first|done|omega|exact ⟨by omega,rfl⟩|(simp (disch:=(first|omega|(simp only [lnS];omega))) only [rdT,rdS,w3];first|done|omega|rfl|exact ⟨by omega,rfl⟩|(simp;done)|(simp;omega))|(intros;trivial)));(try (simp only [nc] at *));(try simp (disch:=(first|omega|(simp only [lnS];omega))) only [rdT,rdS,w3]);(try cbv))
   |(refine E.d 16 (by decide +kernel) ?_;cbv;(fail_if_success guard_target =~ False))
   | fail
  )
  obtain ⟨thk, hthk⟩ : ∃ l, l = g.th.getD k [] := ⟨_, rfl⟩
  obtain ⟨frk, hfrk⟩ : ∃ l, l = g.fr.getD k [] := ⟨_, rfl⟩
  refine E.sb (Step.drop 7 rfl (fun _ => t)) ?_
  refine E.st fun J3 hJ3 => E.de 10 [] [some 5] (by decide +kernel) ?_
  cbv
  skip
  skip
  skip
  repeat' (first
   |(refine ⟨fun _ h_s=>?_,fun _ h_s=>?_⟩<;>(cbv;(try simp only [nc] at *);try simp (disch:=(first|omega|(simp only [lnS];omega))) only [rdT,rdS,w3,reduceCtorEq,trT] at h_s))
   |(refine hF ?_;intro _;clear hF)
   |(refine hF ?_;cbv;clear hF)
   |(refine ⟨fun _=>?_,?_⟩;(· ((try simp only [nc] at *);first|done|omega|exact ⟨by omega,rfl⟩|(simp (disch:=(first|omega|(simp only [lnS];omega))) only [rdT,rdS,w3];first|done|omega|rfl|exact ⟨by omega,rfl⟩|(simp;done)|(simp;omega))|(intros;trivial)|exact ⟨by first|trivial|rfl,by first|rfl|trivial|omega,by rw [evL_len,hTl];exact htt⟩|exact ⟨by first|trivial|rfl,by first|rfl|trivial|omega,by rw [idL_len,hFl];exact htt⟩|(refine ⟨by first|trivial|rfl,by first|trivial|rfl,by first|rfl|simp,by omega,by omega,fun v hv=>?_⟩;first|exact evs_flat _ v hv|exact id_flat _ v hv)));(try (simp only [nc] at *));(try simp (disch:=(first|omega|(simp only [lnS];omega))) only [rdT,rdS,w3]);(try cbv))
   |(refine E.d 16 (by decide +kernel) ?_;cbv;(fail_if_success guard_target =~ False))
   | fail
  )
  refine hJ3 (Step.putE 7 11 (fun _ => evL (tT g (t + 1))) rfl rfl fun _ => ⟨⟨rfl, rfl, ?_⟩, ?_⟩) ?_
  ·simp [LV.l]
  ·rw [← hTs, ← evL_set]
   congr 1
   simp [LV.l]
  clear hJ3
  cbv
  refine E.sb (Step.drop 8 rfl (fun _ => t)) ?_
  refine E.st fun J3 hJ3 => E.de 10 [] [some 2] (by decide +kernel) ?_
  cbv
  repeat' (first
   |(refine ⟨fun _ h_s=>?_,fun _ h_s=>?_⟩<;>(cbv;(try simp only [nc] at *);try simp (disch:=(first|omega|(simp only [lnS];omega))) only [rdT,rdS,w3,reduceCtorEq,trT] at h_s))
   |(refine hF ?_;intro _;clear hF)
   |(refine hF ?_;cbv;clear hF)
   |(refine ⟨fun _=>?_,?_⟩;(· ((try simp only [nc] at *);first|done|omega|exact ⟨by omega,rfl⟩|(simp (disch:=(first|omega|(simp only [lnS];omega))) only [rdT,rdS,w3];first|done|omega|rfl|exact ⟨by omega,rfl⟩|(simp;done)|(simp;omega))|(intros;trivial)|exact ⟨by first|trivial|rfl,by first|rfl|trivial|omega,by rw [evL_len,hTl];exact htt⟩|exact ⟨by first|trivial|rfl,by first|rfl|trivial|omega,by rw [idL_len,hFl];exact htt⟩|(refine ⟨by first|trivial|rfl,by first|trivial|rfl,by first|rfl|simp,by omega,by omega,fun v hv=>?_⟩;first|exact evs_flat _ v hv|exact id_flat _ v hv)));(try (simp only [nc] at *));(try simp (disch:=(first|omega|(simp only [lnS];omega))) only [rdT,rdS,w3]);(try cbv))
   |(refine E.d 16 (by decide +kernel) ?_;cbv;(fail_if_success guard_target =~ False))
   | fail
  )
  refine hJ3 (Step.putE 8 12 (fun _ => idL ((tF g t).set t (xF g k 0))) rfl rfl fun _ => ⟨⟨rfl, rfl, ?_⟩, ?_⟩) ?_
  ·simp [LV.l]
  ·rw [hx0, ← idL_set]
   congr 1
   simp [LV.l]
  clear hJ3
  cbv
  repeat' (first
   |(refine ⟨fun _ h_s=>?_,fun _ h_s=>?_⟩<;>(cbv;(try simp only [nc] at *);try simp (disch:=(first|omega|(simp only [lnS];omega))) only [rdT,rdS,w3,reduceCtorEq,trT] at h_s))
   |(refine hF ?_;intro _;clear hF)
   |(refine hF ?_;cbv;clear hF)
   |(refine ⟨fun _=>?_,?_⟩;(· ((try simp only [nc] at *);first|done|omega|exact ⟨by omega,rfl⟩|(simp (disch:=(first|omega|(simp only [lnS];omega))) only [rdT,rdS,w3];first|done|omega|rfl|exact ⟨by omega,rfl⟩|(simp;done)|(simp;omega))|(intros;trivial)|exact ⟨by first|trivial|rfl,by first|rfl|trivial|omega,by rw [evL_len,hTl];exact htt⟩|exact ⟨by first|trivial|rfl,by first|rfl|trivial|omega,by rw [idL_len,hFl];exact htt⟩|(refine ⟨by first|trivial|rfl,by first|trivial|rfl,by first|rfl|simp,by omega,by omega,fun v hv=>?_⟩;first|exact evs_flat _ v hv|exact id_flat _ v hv)));(try (simp only [nc] at *));(try simp (disch:=(first|omega|(simp only [lnS];omega))) only [rdT,rdS,w3]);(try cbv))
   |(refine E.d 16 (by decide +kernel) ?_;cbv;(fail_if_success guard_target =~ False))
   | fail
  )
  refine E.loopC (ι := Nat) (fun i => i ≤ (g.fr.getD k []).length) (fun i => (g.fr.getD k []).length - i) (fun i => [(8, .i fun _ => ((i : Nat) : Int))]) (fun i => [.box (aGr g), .box (.agg [.nils, .nils, .nils, .nils]), .box (.i fun _ => (g.th.length : Int)), .any, .any, .run 0 1 fun _ => is g.init, .any, .nest n1 5 (fun _ => evL (tT g (t + 1))) none, .nest n2 2 (fun _ => idL ((tF g t).set t (xF g k i))) none, .nest n3 2 (fun _ => idL g.ord) none, .box (cpV g n1 n2 n3 5 7 8 9), .any, .any]) 0 rfl (fun _ => rfl) (Nat.zero_le _) ?_ fun i hi I3 hI3 => ?_
  ·cbv; simp
  have f1 := hxl i hi
  have hFS : ((tF g t).set t (xF g k i)).length = g.th.length := by rw [List.length_set]; exact hFl t
  have hFG : ((tF g t).set t (xF g k i)).getD t [] = xF g k i := by rw [getD_set' _ _ _ _ _ (by rw [hFl]; exact htt), if_pos rfl]
  refine AWPl.step (Step.takeE 8 rfl (fun _ => t) (fun _ => ids (xF g k i)) (fun _ => (g.fr.getD k []).length) (fun _ => by rw [idL_len, hFS]; exact htt) fun _ => ⟨by rw [idL_get, hFG], by rw [ids_len, f1]⟩) rfl ?_
  refine AWPl.step (Step.takeE 7 rfl (fun _ => t) (fun _ => evs (g.th.getD k [])) (fun _ => (g.th.getD k []).length) (fun _ => by rw [evL_len, hTl]; exact htt) fun _ => ⟨by rw [evL_get, hTg], evs_len _⟩) rfl ?_
  refine E.at 3 fun J4 hJ4 => ?_
  cbv
  skip
  skip
  skip
  rcases Nat.lt_or_ge i (g.fr.getD k []).length with hil | hil
  ·have f2 := hxa i hil
   have f3 := hxs i hil
   have f4 := htf i hil
   have f5 := hsrc i (by omega)
   have f6 := hxl (i + 1) hil
   obtain ⟨e, he⟩ : ∃ e, e = (g.th.getD k []).getD i ev0 := ⟨_, rfl⟩
   obtain ⟨s, hs0⟩ : ∃ s, s = (g.fr.getD k []).getD i id0 := ⟨_, rfl⟩
   rw [← hs0] at f2 f4 f5
   rw [← he] at f4
   have hev1 : (eventM g ⟨(k : Int) + 1, (i : Int)⟩).getD ev0 = e := by
    unfold eventM
    rw [if_neg (show ¬ ((k : Int) + 1 = 0) by omega), if_pos ⟨by show (0 : Int) < (k : Int) + 1; omega, by show (k : Int) + 1 ≤ (g.th.length : Nat); omega, by show (0 : Int) ≤ (i : Int); omega, by show (i : Int) < ((g.th.getD ((k : Int) + 1 - 1).toNat []).length : Nat); rw [show ((k : Int) + 1 - 1).toNat = k by omega]; omega⟩]
    show (g.th.getD ((k : Int) + 1 - 1).toNat []).getD (i : Int).toNat ev0 = _
    rw [show ((k : Int) + 1 - 1).toNat = k by omega, Int.toNat_natCast, he]
   by_cases hr : readsM e = true
   ·rw [if_pos hr] at f4
    have hsl : s.t ≤ g.th.length := by
     unfold sourceM at f5
     rw [hev1, if_pos hr] at f5
     cases hw : eventM g s with
     | none => rw [hw] at f5; cases f5
     | some w => exact (idsG_le (idsG_mem.2 (by rw [hw]; rfl))).2
    have kt := kt s hsl
    have f7 := f3 _ f4.symm
    have hkd : e.kind = 1 ∨ e.kind = 3 := by unfold readsM at hr; simpa using hr
    have f8 : (xF g k i).set i ⟨(tau g.th.length s).t, (tau g.th.length s).i⟩ = xF g k (i + 1) := f7
    skip
    repeat' (first
     |(refine E.c (SCalls.of_bare (kt) rfl ?_ ?_);(· (cbv;(try simp only [nc] at *);first|done|(simp;done)|(simp (disch:=(first|omega|(simp only [lnS];omega))) only [rdT,rdS,w3,f2,he.symm,ids_put2,Nat.zero_add,f8,anT];first|done|omega|(refine ⟨?_,?_⟩<;>omega))|(simp (disch:=(first|omega|(simp only [lnS];omega))) [rdT,rdS,w3,f2,he.symm,ids_put2,Nat.zero_add,f8];done)));cbv)
     |(refine E.q (QCalls.of_bare (kt) rfl ?_ ?_);(· (cbv;(try simp only [nc] at *);first|done|(simp;done)|(simp (disch:=(first|omega|(simp only [lnS];omega))) only [rdT,rdS,w3,f2,he.symm,ids_put2,Nat.zero_add,f8,anT];first|done|omega|(refine ⟨?_,?_⟩<;>omega))|(simp (disch:=(first|omega|(simp only [lnS];omega))) [rdT,rdS,w3,f2,he.symm,ids_put2,Nat.zero_add,f8];done)));cbv)
     |(refine ⟨fun _ h_s=>?_,fun _ h_s=>?_⟩<;>(cbv;(try simp only [nc] at *);try simp (disch:=(first|omega|(simp only [lnS];omega))) only [rdT,rdS,w3,f2,he.symm,ids_put2,Nat.zero_add,f8,reduceCtorEq,trT] at h_s))
     |(refine hF ?_;intro _;clear hF)
     |(refine hF ?_;cbv;clear hF)
     |(refine ⟨fun _=>?_,?_⟩;(· ((try simp only [nc] at *);first|done|omega|exact ⟨by omega,rfl⟩|(simp (disch:=(first|omega|(simp only [lnS];omega))) only [rdT,rdS,w3,f2,he.symm,ids_put2,Nat.zero_add,f8];first|done|omega|rfl|exact ⟨by omega,rfl⟩|(simp;done)|(simp;omega))|(intros;trivial)|exact ⟨by first|trivial|rfl,by first|rfl|trivial|omega,by rw [evL_len,hTl];exact htt⟩|exact ⟨by first|trivial|rfl,by first|rfl|trivial|omega,by rw [idL_len,hFl];exact htt⟩|(refine ⟨by first|trivial|rfl,by first|trivial|rfl,by first|rfl|simp,by omega,by omega,fun v hv=>?_⟩;first|exact evs_flat _ v hv|exact id_flat _ v hv)|exact ⟨by first|trivial|rfl,by first|rfl|trivial|omega,by rw [idL_len,hFS];exact htt⟩|exact ⟨by first|trivial|rfl,by omega⟩|exact ⟨trivial,by omega,rfl⟩));(try (simp only [nc] at *));(try simp (disch:=(first|omega|(simp only [lnS];omega))) only [rdT,rdS,w3,f2,he.symm,ids_put2,Nat.zero_add,f8]);(try cbv))
     |(refine E.d 16 (by decide +kernel) ?_;cbv;(fail_if_success guard_target =~ False))
     | fail
    )
    all_goals (try (exfalso; ((try simp only [nc] at *); omega)))
    all_goals
     refine hJ4 (AWPl.step (Step.putE 8 13 (fun _ => idL ((tF g t).set t (xF g k (i + 1)))) rfl rfl fun _ => ⟨⟨rfl, rfl, by rw [ids_len, f6]⟩, by rw [idL_set, List.set_set]⟩) rfl (AWPl.step (Step.putE 7 14 (fun _ => evL (tT g (t + 1))) rfl rfl fun _ => ⟨⟨rfl, rfl, by rw [evs_len]⟩, hput⟩) rfl (E.bl ?_)))
     cbv
     repeat' (first
      |(refine ⟨fun _ h_s=>?_,fun _ h_s=>?_⟩<;>(cbv;(try simp only [nc] at *);try simp (disch:=(first|omega|(simp only [lnS];omega))) only [rdT,rdS,w3,f2,he.symm,ids_put2,Nat.zero_add,f8,reduceCtorEq,trT] at h_s))
      |(refine hF ?_;intro _;clear hF)
      |(refine hF ?_;cbv;clear hF)
      |(refine ⟨fun _=>?_,?_⟩;(· ((try simp only [nc] at *);first|done|omega|exact ⟨by omega,rfl⟩|(simp (disch:=(first|omega|(simp only [lnS];omega))) only [rdT,rdS,w3,f2,he.symm,ids_put2,Nat.zero_add,f8];first|done|omega|rfl|exact ⟨by omega,rfl⟩|(simp;done)|(simp;omega))|(intros;trivial)|exact ⟨by first|trivial|rfl,by first|rfl|trivial|omega,by rw [evL_len,hTl];exact htt⟩|exact ⟨by first|trivial|rfl,by first|rfl|trivial|omega,by rw [idL_len,hFl];exact htt⟩|(refine ⟨by first|trivial|rfl,by first|trivial|rfl,by first|rfl|simp,by omega,by omega,fun v hv=>?_⟩;first|exact evs_flat _ v hv|exact id_flat _ v hv)|exact ⟨by first|trivial|rfl,by first|rfl|trivial|omega,by rw [idL_len,hFS];exact htt⟩|exact ⟨by first|trivial|rfl,by omega⟩|exact ⟨trivial,by omega,rfl⟩));(try (simp only [nc] at *));(try simp (disch:=(first|omega|(simp only [lnS];omega))) only [rdT,rdS,w3,f2,he.symm,ids_put2,Nat.zero_add,f8]);(try cbv))
      |(refine E.d 16 (by decide +kernel) ?_;cbv;(fail_if_success guard_target =~ False))
      | fail
     )
     refine hI3 (i + 1) hil (by omega) ?_
     cbv
     simp
     exact w64_of (by ((try simp only [nc] at *); omega)) (by ((try simp only [nc] at *); omega))
   ·rw [if_neg hr] at f4
    have f7 := f3 _ f4.symm
    have f8 : xF g k (i + 1) = xF g k i := by
     rw [← f7, ← f2]
     exact set_self (by rw [f1]; exact hil)
    have hkd : ¬ e.kind = 1 ∧ ¬ e.kind = 3 := by unfold readsM at hr; simpa using hr
    skip
    skip
    skip
    skip
    repeat' (first
     | ((refine br_f ?_ ?_; (· (simp [hkd]; done)); cbv))
     |(refine ⟨fun _ h_s=>?_,fun _ h_s=>?_⟩<;>(cbv;(try simp only [nc] at *);try simp (disch:=(first|omega|(simp only [lnS];omega))) only [rdT,rdS,w3,f2,he.symm,ids_put2,Nat.zero_add,reduceCtorEq,trT] at h_s))
     |(refine hF ?_;intro _;clear hF)
     |(refine hF ?_;cbv;clear hF)
     |(refine ⟨fun _=>?_,?_⟩;(· ((try simp only [nc] at *);first|done|omega|exact ⟨by omega,rfl⟩|(simp (disch:=(first|omega|(simp only [lnS];omega))) only [rdT,rdS,w3,f2,he.symm,ids_put2,Nat.zero_add];first|done|omega|rfl|exact ⟨by omega,rfl⟩|(simp;done)|(simp;omega))|(intros;trivial)|exact ⟨by first|trivial|rfl,by first|rfl|trivial|omega,by rw [evL_len,hTl];exact htt⟩|exact ⟨by first|trivial|rfl,by first|rfl|trivial|omega,by rw [idL_len,hFS];exact htt⟩|exact ⟨by first|trivial|rfl,by omega⟩));(try (simp only [nc] at *));(try simp (disch:=(first|omega|(simp only [lnS];omega))) only [rdT,rdS,w3,f2,he.symm,ids_put2,Nat.zero_add]);(try cbv))
     |(refine E.d 16 (by decide +kernel) ?_;cbv;(fail_if_success guard_target =~ False))
     | fail
    )
    all_goals (try (exfalso; ((try simp only [nc] at *); omega)))
    all_goals
     refine hJ4 (AWPl.step (Step.putE 8 13 (fun _ => idL ((tF g t).set t (xF g k (i + 1)))) rfl rfl fun _ => ⟨⟨rfl, rfl, by rw [ids_len, f1]⟩, by rw [← f8, idL_set, List.set_set]⟩) rfl (AWPl.step (Step.putE 7 14 (fun _ => evL (tT g (t + 1))) rfl rfl fun _ => ⟨⟨rfl, rfl, by rw [evs_len]⟩, hput⟩) rfl (E.bl ?_)))
     cbv
     repeat' (first
      |(refine ⟨fun _ h_s=>?_,fun _ h_s=>?_⟩<;>(cbv;(try simp only [nc] at *);try simp (disch:=(first|omega|(simp only [lnS];omega))) only [rdT,rdS,w3,f2,he.symm,ids_put2,Nat.zero_add,reduceCtorEq,trT] at h_s))
      |(refine hF ?_;intro _;clear hF)
      |(refine hF ?_;cbv;clear hF)
      |(refine ⟨fun _=>?_,?_⟩;(· ((try simp only [nc] at *);first|done|omega|exact ⟨by omega,rfl⟩|(simp (disch:=(first|omega|(simp only [lnS];omega))) only [rdT,rdS,w3,f2,he.symm,ids_put2,Nat.zero_add];first|done|omega|rfl|exact ⟨by omega,rfl⟩|(simp;done)|(simp;omega))|(intros;trivial)|exact ⟨by first|trivial|rfl,by first|rfl|trivial|omega,by rw [evL_len,hTl];exact htt⟩|exact ⟨by first|trivial|rfl,by first|rfl|trivial|omega,by rw [idL_len,hFS];exact htt⟩|exact ⟨by first|trivial|rfl,by omega⟩));(try (simp only [nc] at *));(try simp (disch:=(first|omega|(simp only [lnS];omega))) only [rdT,rdS,w3,f2,he.symm,ids_put2,Nat.zero_add]);(try cbv))
      |(refine E.d 16 (by decide +kernel) ?_;cbv;(fail_if_success guard_target =~ False))
      | fail
     )
     refine hI3 (i + 1) hil (by omega) ?_
     cbv
     simp
     exact w64_of (by ((try simp only [nc] at *); omega)) (by ((try simp only [nc] at *); omega))
  ·have e : i = (g.fr.getD k []).length := by omega
   subst e
   repeat' (first
    |(refine ⟨fun _ h_s=>?_,fun _ h_s=>?_⟩<;>(cbv;(try simp only [nc] at *);try simp (disch:=(first|omega|(simp only [lnS];omega))) only [rdT,rdS,w3,f2,he.symm,ids_put2,Nat.zero_add,reduceCtorEq,trT] at h_s))
    |(refine hF ?_;intro _;clear hF)
    |(refine hF ?_;cbv;clear hF)
    |(refine ⟨fun _=>?_,?_⟩;(· ((try simp only [nc] at *);first|done|omega|exact ⟨by omega,rfl⟩|(simp (disch:=(first|omega|(simp only [lnS];omega))) only [rdT,rdS,w3,f2,he.symm,ids_put2,Nat.zero_add];first|done|omega|rfl|exact ⟨by omega,rfl⟩|(simp;done)|(simp;omega))|(intros;trivial)|exact ⟨by first|trivial|rfl,by first|rfl|trivial|omega,by rw [evL_len,hTl];exact htt⟩|exact ⟨by first|trivial|rfl,by first|rfl|trivial|omega,by rw [idL_len,hFS];exact htt⟩|exact ⟨by first|trivial|rfl,by omega⟩));(try (simp only [nc] at *));(try simp (disch:=(first|omega|(simp only [lnS];omega))) only [rdT,rdS,w3,f2,he.symm,ids_put2,Nat.zero_add]);(try cbv))
    |(refine E.d 16 (by decide +kernel) ?_;cbv;(fail_if_success guard_target =~ False))
    | fail
   )
   all_goals (try (exfalso; first | ((try simp only [nc] at *); omega) | (revert h_s; simp; done) | exact Nat.lt_irrefl _ (by assumption)))
   refine hJ2 (AWPl.step (Step.putE 8 13 (fun _ => idL (tF g (t + 1))) rfl rfl fun _ => ⟨⟨rfl, rfl, by rw [ids_len, f1]⟩, by rw [idL_set, List.set_set, hxe, hFs]⟩) rfl (AWPl.step (Step.putE 7 14 (fun _ => evL (tT g (t + 1))) rfl rfl fun _ => ⟨⟨rfl, rfl, by rw [evs_len]⟩, hput⟩) rfl (E.bl ?_)))
   cbv
   repeat' (first
    |(refine ⟨fun _ h_s=>?_,fun _ h_s=>?_⟩<;>(cbv;(try simp only [nc] at *);try simp (disch:=(first|omega|(simp only [lnS];omega))) only [rdT,rdS,w3,f2,he.symm,ids_put2,Nat.zero_add,reduceCtorEq,trT] at h_s))
    |(refine hF ?_;intro _;clear hF)
    |(refine hF ?_;cbv;clear hF)
    |(refine ⟨fun _=>?_,?_⟩;(· ((try simp only [nc] at *);first|done|omega|exact ⟨by omega,rfl⟩|(simp (disch:=(first|omega|(simp only [lnS];omega))) only [rdT,rdS,w3,f2,he.symm,ids_put2,Nat.zero_add];first|done|omega|rfl|exact ⟨by omega,rfl⟩|(simp;done)|(simp;omega))|(intros;trivial)|exact ⟨by first|trivial|rfl,by first|rfl|trivial|omega,by rw [evL_len,hTl];exact htt⟩|exact ⟨by first|trivial|rfl,by first|rfl|trivial|omega,by rw [idL_len,hFS];exact htt⟩|exact ⟨by first|trivial|rfl,by omega⟩));(try (simp only [nc] at *));(try simp (disch:=(first|omega|(simp only [lnS];omega))) only [rdT,rdS,w3,f2,he.symm,ids_put2,Nat.zero_add]);(try cbv))
    |(refine E.d 16 (by decide +kernel) ?_;cbv;(fail_if_success guard_target =~ False))
    | fail
   )
   refine hI1 (t + 1) htt (by omega) ?_
   cbv
   simp
   exact w64_of (by ((try simp only [nc] at *); omega)) (by ((try simp only [nc] at *); omega))
 ·have et : t = g.th.length := by ((try simp only [nc] at *); omega)
  subst et
  clear hI1 hJ1
  skip
  refine E.loopC (ι := Nat) (fun x => x ≤ g.ord.length) (fun x => g.ord.length - x) (fun x => [(10, .i fun _ => ((x : Nat) : Int))]) (fun x => [.box (aGr g), .box (.agg [.nils, .nils, .nils, .nils]), .box (.i fun _ => (g.th.length : Int)), .any, .any, .run 0 1 fun _ => is g.init, .any, .nest n1 5 (fun _ => evL (turnG g).th) none, .nest n2 2 (fun _ => idL (turnG g).fr) none, .nest n3 2 (fun _ => idL (tO g x)) none, .box (cpV g n1 n2 n3 5 7 8 9)]) 0 rfl (fun _ => rfl) (Nat.zero_le _) ?_ fun x hx I1 hI1 => ?_
  ·cbv; simp [tT_end, tF_end, tO_zero]
  refine E.at 2 fun J1 hJ1 => ?_
  cbv
  repeat' (first
   |(refine ⟨fun _ h_s=>?_,fun _ h_s=>?_⟩<;>(cbv;(try simp only [nc] at *);try simp (disch:=(first|omega|(simp only [lnS];omega))) only [rdT,rdS,reduceCtorEq,trT] at h_s))
   |(refine hF ?_;intro _;clear hF)
   |(refine hF ?_;cbv;clear hF)
   |(refine ⟨fun _=>?_,?_⟩;(· ((try simp only [nc] at *);first|done|omega|exact ⟨by omega,rfl⟩|(simp (disch:=(first|omega|(simp only [lnS];omega))) only [rdT,rdS];first|done|omega|rfl|exact ⟨by omega,rfl⟩|(simp;done)|(simp;omega))|(intros;trivial)));(try (simp only [nc] at *));(try simp (disch:=(first|omega|(simp only [lnS];omega))) only [rdT,rdS]);(try cbv))
   |(refine E.d 16 (by decide +kernel) ?_;cbv;(fail_if_success guard_target =~ False))
   | fail
  )
  ·have hxx : x < g.ord.length := by ((try simp only [nc] at *); omega)
   have hol := ord56 hg x
   have hOl := tO_len g x
   have hOs := tO_set g x hxx
   have hx0 := xO_zero g x
   have hxe := xO_end g x
   have hxl := xO_len g x
   have hxa := xO_at g x
   have hxs := xO_set g x
   have hoo := ((ordered_iff g x).1 (hg.orders x (by omega))).2.1
   have hOg := tO_at g x hxx
   refine hJ1 (AWPl.blockK fun J2 hJ2 => E.bl ?_)
   clear hJ1
   cbv
   repeat' (first
    |(refine ⟨fun _ h_s=>?_,fun _ h_s=>?_⟩<;>(cbv;(try simp only [nc] at *);try simp (disch:=(first|omega|(simp only [lnS];omega))) only [rdT,rdS,reduceCtorEq,trT] at h_s))
    |(refine hF ?_;intro _;clear hF)
    |(refine hF ?_;cbv;clear hF)
    |(refine ⟨fun _=>?_,?_⟩;(· ((try simp only [nc] at *);first|done|omega|exact ⟨by omega,rfl⟩|(simp (disch:=(first|omega|(simp only [lnS];omega))) only [rdT,rdS];first|done|omega|rfl|exact ⟨by omega,rfl⟩|(simp;done)|(simp;omega))|(intros;trivial)));(try (simp only [nc] at *));(try simp (disch:=(first|omega|(simp only [lnS];omega))) only [rdT,rdS]);(try cbv))
    |(refine E.d 16 (by decide +kernel) ?_;cbv;(fail_if_success guard_target =~ False))
    | fail
   )
   refine E.loopC (ι := Nat) (fun i => i ≤ (g.ord.getD x []).length) (fun i => (g.ord.getD x []).length - i) (fun i => [(11, .i fun _ => ((i : Nat) : Int))]) (fun i => [.box (aGr g), .box (.agg [.nils, .nils, .nils, .nils]), .box (.i fun _ => (g.th.length : Int)), .any, .any, .run 0 1 fun _ => is g.init, .any, .nest n1 5 (fun _ => evL (turnG g).th) none, .nest n2 2 (fun _ => idL (turnG g).fr) none, .nest n3 2 (fun _ => idL ((tO g x).set x (xO g x i))) none, .box (cpV g n1 n2 n3 5 7 8 9)]) 0 rfl (fun _ => rfl) (Nat.zero_le _) ?_ fun i hi I3 hI3 => ?_
   ·have hO0 : (tO g x).set x (xO g x 0) = tO g x := by
     have := set_self (l := tO g x) (d := []) (i := x) (by rw [hOl]; exact hxx)
     rwa [hOg, ← hx0] at this
    cbv
    simp [hO0]
   have f1 := hxl i
   have hFS : ((tO g x).set x (xO g x i)).length = g.ord.length := by rw [List.length_set]; exact hOl
   have hFG : ((tO g x).set x (xO g x i)).getD x [] = xO g x i := by rw [getD_set' _ _ _ _ _ (by rw [hOl]; exact hxx), if_pos rfl]
   refine AWPl.step (Step.takeE 9 rfl (fun _ => x) (fun _ => ids (xO g x i)) (fun _ => (g.ord.getD x []).length) (fun _ => by rw [idL_len, hFS]; exact hxx) fun _ => ⟨by rw [idL_get, hFG], by rw [ids_len, f1]⟩) rfl ?_
   refine E.at 3 fun J4 hJ4 => ?_
   cbv
   skip
   skip
   skip
   rcases Nat.lt_or_ge i (g.ord.getD x []).length with hil | hil
   ·have f2 := hxa i hil
    have f3 := hxs i hil
    have f6 := hxl (i + 1)
    have hsl : ((g.ord.getD x []).getD i id0).t ≤ g.th.length := ord_leW (hoo _ (getD_mem hil))
    obtain ⟨s, hs0⟩ : ∃ s, s = (g.ord.getD x []).getD i id0 := ⟨_, rfl⟩
    rw [← hs0] at f2 f3 hsl
    have kt := kt s hsl
    have f8 : (xO g x i).set i ⟨(tau g.th.length s).t, (tau g.th.length s).i⟩ = xO g x (i + 1) := f3
    skip
    repeat' (first
     |(refine E.c (SCalls.of_bare (kt) rfl ?_ ?_);(· (cbv;(try simp only [nc] at *);first|done|(simp;done)|(simp (disch:=(first|omega|(simp only [lnS];omega))) only [rdT,rdS,f2,ids_put2,Nat.zero_add,f8,anT];first|done|omega|(refine ⟨?_,?_⟩<;>omega))|(simp (disch:=(first|omega|(simp only [lnS];omega))) [rdT,rdS,f2,ids_put2,Nat.zero_add,f8];done)));cbv)
     |(refine E.q (QCalls.of_bare (kt) rfl ?_ ?_);(· (cbv;(try simp only [nc] at *);first|done|(simp;done)|(simp (disch:=(first|omega|(simp only [lnS];omega))) only [rdT,rdS,f2,ids_put2,Nat.zero_add,f8,anT];first|done|omega|(refine ⟨?_,?_⟩<;>omega))|(simp (disch:=(first|omega|(simp only [lnS];omega))) [rdT,rdS,f2,ids_put2,Nat.zero_add,f8];done)));cbv)
     |(refine ⟨fun _ h_s=>?_,fun _ h_s=>?_⟩<;>(cbv;(try simp only [nc] at *);try simp (disch:=(first|omega|(simp only [lnS];omega))) only [rdT,rdS,f2,ids_put2,Nat.zero_add,f8,reduceCtorEq,trT] at h_s))
     |(refine hF ?_;intro _;clear hF)
     |(refine hF ?_;cbv;clear hF)
     |(refine ⟨fun _=>?_,?_⟩;(· ((try simp only [nc] at *);first|done|omega|exact ⟨by omega,rfl⟩|(simp (disch:=(first|omega|(simp only [lnS];omega))) only [rdT,rdS,f2,ids_put2,Nat.zero_add,f8];first|done|omega|rfl|exact ⟨by omega,rfl⟩|(simp;done)|(simp;omega))|(intros;trivial)|exact ⟨by first|trivial|rfl,by first|rfl|trivial|omega,by rw [idL_len,hFS];exact hxx⟩|exact ⟨by first|trivial|rfl,by omega⟩|exact ⟨trivial,by omega,rfl⟩));(try (simp only [nc] at *));(try simp (disch:=(first|omega|(simp only [lnS];omega))) only [rdT,rdS,f2,ids_put2,Nat.zero_add,f8]);(try cbv))
     |(refine E.d 16 (by decide +kernel) ?_;cbv;(fail_if_success guard_target =~ False))
     | fail
    )
    all_goals (try (exfalso; ((try simp only [nc] at *); omega)))
    refine hJ4 (AWPl.step (Step.putE 9 11 (fun _ => idL ((tO g x).set x (xO g x (i + 1)))) rfl rfl fun _ => ⟨⟨rfl, rfl, by rw [ids_len, f6]⟩, by rw [idL_set, List.set_set]⟩) rfl (E.bl ?_))
    cbv
    repeat' (first
     |(refine ⟨fun _ h_s=>?_,fun _ h_s=>?_⟩<;>(cbv;(try simp only [nc] at *);try simp (disch:=(first|omega|(simp only [lnS];omega))) only [rdT,rdS,f2,ids_put2,Nat.zero_add,f8,reduceCtorEq,trT] at h_s))
     |(refine hF ?_;intro _;clear hF)
     |(refine hF ?_;cbv;clear hF)
     |(refine ⟨fun _=>?_,?_⟩;(· ((try simp only [nc] at *);first|done|omega|exact ⟨by omega,rfl⟩|(simp (disch:=(first|omega|(simp only [lnS];omega))) only [rdT,rdS,f2,ids_put2,Nat.zero_add,f8];first|done|omega|rfl|exact ⟨by omega,rfl⟩|(simp;done)|(simp;omega))|(intros;trivial)|exact ⟨by first|trivial|rfl,by first|rfl|trivial|omega,by rw [idL_len,hFS];exact hxx⟩|exact ⟨by first|trivial|rfl,by omega⟩|exact ⟨trivial,by omega,rfl⟩));(try (simp only [nc] at *));(try simp (disch:=(first|omega|(simp only [lnS];omega))) only [rdT,rdS,f2,ids_put2,Nat.zero_add,f8]);(try cbv))
     |(refine E.d 16 (by decide +kernel) ?_;cbv;(fail_if_success guard_target =~ False))
     | fail
    )
    refine hI3 (i + 1) hil (by omega) ?_
    cbv
    simp
    exact w64_of (by ((try simp only [nc] at *); omega)) (by ((try simp only [nc] at *); omega))
   ·have e : i = (g.ord.getD x []).length := by omega
    subst e
    skip
    skip
    skip
    repeat' (first
     |(refine ⟨fun _ h_s=>?_,fun _ h_s=>?_⟩<;>(cbv;(try simp only [nc] at *);try simp (disch:=(first|omega|(simp only [lnS];omega))) only [rdT,rdS,Nat.zero_add,reduceCtorEq,trT] at h_s))
     |(refine hF ?_;intro _;clear hF)
     |(refine hF ?_;cbv;clear hF)
     |(refine ⟨fun _=>?_,?_⟩;(· ((try simp only [nc] at *);first|done|omega|exact ⟨by omega,rfl⟩|(simp (disch:=(first|omega|(simp only [lnS];omega))) only [rdT,rdS,Nat.zero_add];first|done|omega|rfl|exact ⟨by omega,rfl⟩|(simp;done)|(simp;omega))|(intros;trivial)|exact ⟨by first|trivial|rfl,by first|rfl|trivial|omega,by rw [idL_len,hFS];exact hxx⟩|exact ⟨by first|trivial|rfl,by omega⟩));(try (simp only [nc] at *));(try simp (disch:=(first|omega|(simp only [lnS];omega))) only [rdT,rdS,Nat.zero_add]);(try cbv))
     |(refine E.d 16 (by decide +kernel) ?_;cbv;(fail_if_success guard_target =~ False))
     | fail
    )
    all_goals (try (exfalso; first | ((try simp only [nc] at *); omega) | (revert h_s; simp; done) | exact Nat.lt_irrefl _ (by assumption)))
    refine hJ2 (AWPl.step (Step.putE 9 11 (fun _ => idL (tO g (x + 1))) rfl rfl fun _ => ⟨⟨rfl, rfl, by rw [ids_len, f1]⟩, by rw [idL_set, List.set_set, hxe, hOs]⟩) rfl (E.bl ?_))
    cbv
    repeat' (first
     |(refine ⟨fun _ h_s=>?_,fun _ h_s=>?_⟩<;>(cbv;(try simp only [nc] at *);try simp (disch:=(first|omega|(simp only [lnS];omega))) only [rdT,rdS,Nat.zero_add,reduceCtorEq,trT] at h_s))
     |(refine hF ?_;intro _;clear hF)
     |(refine hF ?_;cbv;clear hF)
     |(refine ⟨fun _=>?_,?_⟩;(· ((try simp only [nc] at *);first|done|omega|exact ⟨by omega,rfl⟩|(simp (disch:=(first|omega|(simp only [lnS];omega))) only [rdT,rdS,Nat.zero_add];first|done|omega|rfl|exact ⟨by omega,rfl⟩|(simp;done)|(simp;omega))|(intros;trivial)|exact ⟨by first|trivial|rfl,by first|rfl|trivial|omega,by rw [idL_len,hFS];exact hxx⟩|exact ⟨by first|trivial|rfl,by omega⟩));(try (simp only [nc] at *));(try simp (disch:=(first|omega|(simp only [lnS];omega))) only [rdT,rdS,Nat.zero_add]);(try cbv))
     |(refine E.d 16 (by decide +kernel) ?_;cbv;(fail_if_success guard_target =~ False))
     | fail
    )
    refine hI1 (x + 1) hxx (by omega) ?_
    cbv
    simp
    exact w64_of (by ((try simp only [nc] at *); omega)) (by ((try simp only [nc] at *); omega))
  ·have ex : x = g.ord.length := by ((try simp only [nc] at *); omega)
   subst ex
   have hOe := tO_end g
   have hHi : (turnG g).init = g.init := rfl
   have hS1 : (evss (turnG g).th).l = (evL (turnG g).th).map fun x => .vs 5 fun _ => x := evss_L _
   have hS2 : (idss (turnG g).fr).l = (idL (turnG g).fr).map fun x => .vs 2 fun _ => x := idss_L _
   have hS3 : (idss (turnG g).ord).l = (idL (turnG g).ord).map fun x => .vs 2 fun _ => x := idss_L _
   have hS5 : (evL (turnG g).th).length = g.th.length := by rw [evL_len]; exact turn_len g
   have hS6 : (idL (turnG g).fr).length = g.fr.length := by rw [idL_len]; simp [turnG, hlf]
   have hS7 : (idL (turnG g).ord).length = g.ord.length := by rw [idL_len]; simp [turnG]
   have hS8 : List.take g.init.length (is g.init).l = (is g.init).l := List.take_of_length_le (by simp)
   rw [hOe]
   generalize turnG g = H at *
   skip
   repeat' (first
    |(refine ⟨fun _ h_s=>?_,fun _ h_s=>?_⟩<;>(cbv;(try simp only [nc] at *);try simp (disch:=(first|omega|(simp only [lnS];omega))) only [rdT,rdS,reduceCtorEq,trT] at h_s))
    |(refine hF ?_;intro _;clear hF)
    |(refine hF ?_;cbv;clear hF)
    |(refine ⟨fun _=>?_,?_⟩;(· ((try simp only [nc] at *);first|done|omega|exact ⟨by omega,rfl⟩|(simp (disch:=(first|omega|(simp only [lnS];omega))) only [rdT,rdS];first|done|omega|rfl|exact ⟨by omega,rfl⟩|(simp;done)|(simp;omega))|(intros;trivial)));(try (simp only [nc] at *));(try simp (disch:=(first|omega|(simp only [lnS];omega))) only [rdT,rdS]);(try cbv))
    |(refine E.d 16 (by decide +kernel) ?_;cbv;(fail_if_success guard_target =~ False))
    | fail
   )
   simp [hHi, hS1, hS2, hS3, hS5, hS6, hS7, hS8]
end Go.AL.Rl

namespace Go.AL.Rl
open Go Go.AL Go.Proofs
set_option maxRecDepth 100000
set_option maxHeartbeats 3200000
variable {γ : Nat → Option AV}

theorem raceTurned_main (g : Gr) (hg : GOk g) (hli : lightM 60 g = true) :
  Pure Try.prog γ false 6 [aGr g] (.b fun _ => true) := by
 have hR := rd_short hg
 have kl := lives17_ok (γ := γ)
 have ki := light_ok (γ := γ) g hR 60 (by omega) (by omega)
 rw [hli] at ki
 have kc := check14_ok (γ := γ) g hR
 rw [gcheck0 hg] at kc
 have hth := hg.short.th
 have T := turn_tn hg
 have hH := turnG_ok hg
 have hRH := rd_short hH
 have kt := turned_ok (γ := γ) g hg
 have r1 := rall_yes (γ := γ) g hR hg
 have r2 := rall_yes (γ := γ) (turnG g) hRH hH
 have v1 : rvO g = rvG g := by unfold rvO; rw [if_pos hg]
 have v2 : rvO (turnG g) = rvG (turnG g) := by unfold rvO; rw [if_pos hH]
 have b1 := rhas_race_ok (γ := γ) g hR
 have b2 := rhas_race_ok (γ := γ) (turnG g) hRH
 have d1 := rlocs_ok (γ := γ) g hR
 have d2 := rlocs_ok (γ := γ) (turnG g) hRH
 rw [v1] at b1 d1
 rw [v2] at b2 d2
 rw [turn_locs hg] at d2
 have hlen := turn_len_eq hg
 have hhas : decide (racesV (rvG (turnG g)) ≠ []) = decide (racesV (rvG g) ≠ []) := by
  refine decide_eq_decide.2 (not_congr ?_)
  rw [← List.length_eq_zero_iff, ← List.length_eq_zero_iff, hlen]
 rw [hhas] at b2
 have k2 := ints_ok (γ := γ) (locsV (rvG g)) (locsV (rvG g)) (by have := locsV_len _ (rvG_wf hg); omega)
 rw [decide_eq_true rfl] at k2
 have kb := fun x y => rbetween_yes (γ := γ) (turnG g) hRH hH x y
 have hbt := fun i hi => tn_bet T (i := i) hi
 have rl := races_len hg
 generalize decide (racesV (rvG g) ≠ []) = bh at *
 generalize racesV (rvG (turnG g)) = L2 at *
 generalize racesV (rvG g) = L1 at *
 generalize locsV (rvG g) = L3 at *
 generalize rvG (turnG g) = vh at *
 clear T v1 v2 hhas hRH hH
 generalize turnG g = H at *
 obtain ⟨n, hn⟩ : ∃ n, n = g.th.length := ⟨_, rfl⟩
 refine Pure.go (ty := ty) ty_eq mo Try.func6 rfl Try.ntmps6 Try.results6 Try.call6 (by simp) fun P C CQ D W F E hF => ?_
 cbv
 skip
 repeat' (first
  |((first|refine E.c (SCalls.of_le (k2) ?_ ?_)|refine E.q (QCalls.of_le (k2) ?_ ?_));(· (cbv;(try simp only [nc] at *);first|done|(simp;done)|(simp (disch:=(first|omega|(simp only [lnS,rcs_len];omega))) only [rdT,rdS,rcs_len,rcs_at,anT];first|done|omega|(refine ⟨?_,?_⟩<;>omega))|(simp (disch:=(first|omega|(simp only [lnS,rcs_len];omega))) [rdT,rdS,rcs_len,rcs_at];done)));cbv)
  |((first|refine E.c (SCalls.of_le (d2) ?_ ?_)|refine E.q (QCalls.of_le (d2) ?_ ?_));(· (cbv;(try simp only [nc] at *);first|done|(simp;done)|(simp (disch:=(first|omega|(simp only [lnS,rcs_len];omega))) only [rdT,rdS,rcs_len,rcs_at,anT];first|done|omega|(refine ⟨?_,?_⟩<;>omega))|(simp (disch:=(first|omega|(simp only [lnS,rcs_len];omega))) [rdT,rdS,rcs_len,rcs_at];done)));cbv)
  |((first|refine E.c (SCalls.of_le (d1) ?_ ?_)|refine E.q (QCalls.of_le (d1) ?_ ?_));(· (cbv;(try simp only [nc] at *);first|done|(simp;done)|(simp (disch:=(first|omega|(simp only [lnS,rcs_len];omega))) only [rdT,rdS,rcs_len,rcs_at,anT];first|done|omega|(refine ⟨?_,?_⟩<;>omega))|(simp (disch:=(first|omega|(simp only [lnS,rcs_len];omega))) [rdT,rdS,rcs_len,rcs_at];done)));cbv)
  |((first|refine E.c (SCalls.of_le (b2) ?_ ?_)|refine E.q (QCalls.of_le (b2) ?_ ?_));(· (cbv;(try simp only [nc] at *);first|done|(simp;done)|(simp (disch:=(first|omega|(simp only [lnS,rcs_len];omega))) only [rdT,rdS,rcs_len,rcs_at,anT];first|done|omega|(refine ⟨?_,?_⟩<;>omega))|(simp (disch:=(first|omega|(simp only [lnS,rcs_len];omega))) [rdT,rdS,rcs_len,rcs_at];done)));cbv)
  |((first|refine E.c (SCalls.of_le (b1) ?_ ?_)|refine E.q (QCalls.of_le (b1) ?_ ?_));(· (cbv;(try simp only [nc] at *);first|done|(simp;done)|(simp (disch:=(first|omega|(simp only [lnS,rcs_len];omega))) only [rdT,rdS,rcs_len,rcs_at,anT];first|done|omega|(refine ⟨?_,?_⟩<;>omega))|(simp (disch:=(first|omega|(simp only [lnS,rcs_len];omega))) [rdT,rdS,rcs_len,rcs_at];done)));cbv)
  |(refine E.c (SCalls.of_le (r2) ?_ ?_);(· (cbv;(try simp only [nc] at *);first|done|(simp;done)|(simp (disch:=(first|omega|(simp only [lnS,rcs_len];omega))) only [rdT,rdS,rcs_len,rcs_at,anT];first|done|omega|(refine ⟨?_,?_⟩<;>omega))|(simp (disch:=(first|omega|(simp only [lnS,rcs_len];omega))) [rdT,rdS,rcs_len,rcs_at];done)));cbv)
  |(refine E.c (SCalls.of_le (r1) ?_ ?_);(· (cbv;(try simp only [nc] at *);first|done|(simp;done)|(simp (disch:=(first|omega|(simp only [lnS,rcs_len];omega))) only [rdT,rdS,rcs_len,rcs_at,anT];first|done|omega|(refine ⟨?_,?_⟩<;>omega))|(simp (disch:=(first|omega|(simp only [lnS,rcs_len];omega))) [rdT,rdS,rcs_len,rcs_at];done)));cbv)
  |(refine E.c (SCalls.of_le (kt) ?_ ?_);(· (cbv;(try simp only [nc] at *);first|done|(simp;done)|(simp (disch:=(first|omega|(simp only [lnS,rcs_len];omega))) only [rdT,rdS,rcs_len,rcs_at,anT];first|done|omega|(refine ⟨?_,?_⟩<;>omega))|(simp (disch:=(first|omega|(simp only [lnS,rcs_len];omega))) [rdT,rdS,rcs_len,rcs_at];done)));cbv)
  |(refine E.c (SCalls.of_le (kc) ?_ ?_);(· (cbv;(try simp only [nc] at *);first|done|(simp;done)|(simp (disch:=(first|omega|(simp only [lnS,rcs_len];omega))) only [rdT,rdS,rcs_len,rcs_at,anT];first|done|omega|(refine ⟨?_,?_⟩<;>omega))|(simp (disch:=(first|omega|(simp only [lnS,rcs_len];omega))) [rdT,rdS,rcs_len,rcs_at];done)));cbv)
  |(refine E.c (SCalls.of_le (ki) ?_ ?_);(· (cbv;(try simp only [nc] at *);first|done|(simp;done)|(simp (disch:=(first|omega|(simp only [lnS,rcs_len];omega))) only [rdT,rdS,rcs_len,rcs_at,anT];first|done|omega|(refine ⟨?_,?_⟩<;>omega))|(simp (disch:=(first|omega|(simp only [lnS,rcs_len];omega))) [rdT,rdS,rcs_len,rcs_at];done)));cbv)
  |(refine E.c (SCalls.of_le (kl) ?_ ?_);(· (cbv;(try simp only [nc] at *);first|done|(simp;done)|(simp (disch:=(first|omega|(simp only [lnS,rcs_len];omega))) only [rdT,rdS,rcs_len,rcs_at,anT];first|done|omega|(refine ⟨?_,?_⟩<;>omega))|(simp (disch:=(first|omega|(simp only [lnS,rcs_len];omega))) [rdT,rdS,rcs_len,rcs_at];done)));cbv)
  |(refine ⟨fun _ h_s=>?_,fun _ h_s=>?_⟩<;>(cbv;(try simp only [nc] at *);try simp (disch:=(first|omega|(simp only [lnS,rcs_len];omega))) only [rdT,rdS,rcs_len,rcs_at,reduceCtorEq,trT] at h_s))
  |(refine hF ?_;intro _;clear hF)
  |(refine hF ?_;cbv;clear hF)
  |(refine ⟨fun _=>?_,?_⟩;(· ((try simp only [nc] at *);first|done|omega|exact ⟨by omega,rfl⟩|(simp (disch:=(first|omega|(simp only [lnS,rcs_len];omega))) only [rdT,rdS,rcs_len,rcs_at];first|done|omega|rfl|exact ⟨by omega,rfl⟩|(simp;done)|(simp;omega))|(intros;trivial)));(try (simp only [nc] at *));(try simp (disch:=(first|omega|(simp only [lnS,rcs_len];omega))) only [rdT,rdS,rcs_len,rcs_at]);(try cbv))
  |(refine E.d 24 (by decide +kernel) ?_;cbv;(fail_if_success guard_target =~ False))
  | fail
 )
 ·rfl
 iterate 4
  ·exfalso
   first | exact absurd trivial h_s | ((try simp only [nc] at *); omega) | (revert h_s; simp; done)
 refine E.loopS (ι:=Nat) (fun i=>i≤L1.length) (fun i=>L1.length - i) (fun i=>[(9,.i fun _=>((i : Nat) : Int))]) (fun i h=>h) 0 (fun _=>by first|rfl|simp) (Nat.zero_le _) ?_ fun i hi I hI=>?_
 ·cbv; simp
 cbv
 have hbt := hbt i
 obtain ⟨r, hr⟩ : ∃ r, r = L1.getD i rc0 := ⟨_, rfl⟩
 rw [← hr] at hbt
 have kb1 := kb ⟨(g.th.length : Int) + 1 - r.a.t, r.a.i⟩ ⟨(g.th.length : Int) + 1 - r.b.t, r.b.i⟩
 have kb2 := kb ⟨(g.th.length : Int) + 1 - r.b.t, r.b.i⟩ ⟨(g.th.length : Int) + 1 - r.a.t, r.a.i⟩
 refine ⟨fun _ h_s => ?_, fun _ h_s => ?_⟩
 ·(try simp only [nc] at *)
  simp (disch:=(first|omega|(simp only [lnS,rcs_len];omega))) only [rdT,rdS,rcs_len,rcs_at,reduceCtorEq,trT] at h_s
  have hil : i < L1.length := by ((try simp only [nc] at *); omega)
  obtain ⟨q1, q2, q3, q4, q5, q6⟩ := hbt hil
  have ea : tau g.th.length r.a = ⟨(g.th.length : Int) + 1 - r.a.t, r.a.i⟩ := by unfold tau; rw [if_pos q3]
  have eb : tau g.th.length r.b = ⟨(g.th.length : Int) + 1 - r.b.t, r.b.i⟩ := by unfold tau; rw [if_pos q5]
  rw [ea, eb] at q1 q2
  rw [q1] at kb1
  rw [q2] at kb2
  cbv
  refine E.de 14 [] [none, none] (by decide +kernel) ?_
  cbv
  skip
  repeat' (first
   |(refine ⟨fun _ h_s=>?_,fun _ h_s=>?_⟩<;>(cbv;(try simp only [nc] at *);try simp (disch:=(first|omega|(simp only [lnS,rcs_len];omega))) only [rdT,rdS,rcs_len,rcs_at,hr.symm,reduceCtorEq,trT] at h_s))
   |(refine hF ?_;intro _;clear hF)
   |(refine hF ?_;cbv;clear hF)
   |(refine ⟨fun _=>?_,?_⟩;(· ((try simp only [nc] at *);first|done|omega|exact ⟨by omega,rfl⟩|(simp (disch:=(first|omega|(simp only [lnS,rcs_len];omega))) only [rdT,rdS,rcs_len,rcs_at,hr.symm];first|done|omega|rfl|exact ⟨by omega,rfl⟩|(simp;done)|(simp;omega))|(intros;trivial)));(try (simp only [nc] at *));(try simp (disch:=(first|omega|(simp only [lnS,rcs_len];omega))) only [rdT,rdS,rcs_len,rcs_at,hr.symm]);(try cbv))
   |(refine E.d 24 (by decide +kernel) ?_;cbv;(fail_if_success guard_target =~ False))
   | fail
  )
  refine E.de 14 [2, 3] [] (by decide +kernel) ?_
  cbv
  repeat' (first
   |(refine hI (i + 1) ?_ ?_ ?_;rotate_left 1;(· ((try simp only [nc] at *);omega));(cbv;clear hI;(try clear hF);(try simp only [nc] at *);(try simp (disch:=(first|omega|(simp only [lnS,rcs_len];omega))) only [rdT,rdS,rcs_len,rcs_at,hr.symm,anT]));rotate_left 1;(try ((try simp only [nc] at *);omega)))
   |((first|refine E.c (SCalls.of_le (kb2) ?_ ?_)|refine E.q (QCalls.of_le (kb2) ?_ ?_));(· (cbv;(try simp only [nc] at *);first|done|(simp;done)|(simp (disch:=(first|omega|(simp only [lnS,rcs_len];omega))) only [rdT,rdS,rcs_len,rcs_at,hr.symm,anT];first|done|omega|(refine ⟨?_,?_⟩<;>omega))|(simp (disch:=(first|omega|(simp only [lnS,rcs_len];omega))) [rdT,rdS,rcs_len,rcs_at,hr.symm];done)));cbv)
   |((first|refine E.c (SCalls.of_le (kb1) ?_ ?_)|refine E.q (QCalls.of_le (kb1) ?_ ?_));(· (cbv;(try simp only [nc] at *);first|done|(simp;done)|(simp (disch:=(first|omega|(simp only [lnS,rcs_len];omega))) only [rdT,rdS,rcs_len,rcs_at,hr.symm,anT];first|done|omega|(refine ⟨?_,?_⟩<;>omega))|(simp (disch:=(first|omega|(simp only [lnS,rcs_len];omega))) [rdT,rdS,rcs_len,rcs_at,hr.symm];done)));cbv)
   |(refine ⟨fun _ h_s=>?_,fun _ h_s=>?_⟩<;>(cbv;(try simp only [nc] at *);try simp (disch:=(first|omega|(simp only [lnS,rcs_len];omega))) only [rdT,rdS,rcs_len,rcs_at,hr.symm,reduceCtorEq,trT] at h_s))
   |(refine hF ?_;intro _;clear hF)
   |(refine hF ?_;cbv;clear hF)
   |(refine ⟨fun _=>?_,?_⟩;(· ((try simp only [nc] at *);first|done|omega|exact ⟨by omega,rfl⟩|(simp (disch:=(first|omega|(simp only [lnS,rcs_len];omega))) only [rdT,rdS,rcs_len,rcs_at,hr.symm];first|done|omega|rfl|exact ⟨by omega,rfl⟩|(simp;done)|(simp;omega))|(intros;trivial)));(try (simp only [nc] at *));(try simp (disch:=(first|omega|(simp only [lnS,rcs_len];omega))) only [rdT,rdS,rcs_len,rcs_at,hr.symm]);(try cbv))
   |(refine E.d 24 (by decide +kernel) ?_;cbv;(fail_if_success guard_target =~ False))
   | fail
  )
  rfl
 ·cbv
  repeat' (first
   |(refine ⟨fun _ h_s=>?_,fun _ h_s=>?_⟩<;>(cbv;(try simp only [nc] at *);try simp (disch:=(first|omega|(simp only [lnS,rcs_len];omega))) only [rdT,rdS,rcs_len,rcs_at,hr.symm,reduceCtorEq,trT] at h_s))
   |(refine hF ?_;intro _;clear hF)
   |(refine hF ?_;cbv;clear hF)
   |(refine ⟨fun _=>?_,?_⟩;(· ((try simp only [nc] at *);first|done|omega|exact ⟨by omega,rfl⟩|(simp (disch:=(first|omega|(simp only [lnS,rcs_len];omega))) only [rdT,rdS,rcs_len,rcs_at,hr.symm];first|done|omega|rfl|exact ⟨by omega,rfl⟩|(simp;done)|(simp;omega))|(intros;trivial)));(try (simp only [nc] at *));(try simp (disch:=(first|omega|(simp only [lnS,rcs_len];omega))) only [rdT,rdS,rcs_len,rcs_at,hr.symm]);(try cbv))
   |(refine E.d 24 (by decide +kernel) ?_;cbv;(fail_if_success guard_target =~ False))
   | fail
  )
  rfl
theorem raceTurned_ok (g : Gr) (hR : Rd g) : Pure Try.prog γ false 6 [aGr g] (.b fun _ => true) := by
 have kl := lives17_ok (γ := γ)
 have ki := light_ok (γ := γ) g hR 60 (by omega) (by omega)
 have kc := check14_ok (γ := γ) g hR
 skip
 by_cases hli : lightM 60 g = true
 ·by_cases hg : GOk g
  ·exact raceTurned_main g hg hli
  ·have hc : gcheckM g ≠ 0 := by unfold gcheckM; split <;> simp [hg]
   rw [hli] at ki
   generalize gcheckM g = c0 at *
   refine Pure.go (ty := ty) ty_eq mo Try.func6 rfl Try.ntmps6 Try.results6 Try.call6 (by simp) fun P C CQ D W F E hF => ?_
   cbv
   repeat' (first
    |(refine E.c (SCalls.of_le (kc) ?_ ?_);(· (cbv;(try simp only [nc] at *);first|done|(simp;done)|(simp (disch:=(first|omega|(simp only [lnS];omega))) only [rdT,rdS,anT];first|done|omega|(refine ⟨?_,?_⟩<;>omega))|(simp (disch:=(first|omega|(simp only [lnS];omega))) [rdT,rdS];done)));cbv)
    |(refine E.c (SCalls.of_le (ki) ?_ ?_);(· (cbv;(try simp only [nc] at *);first|done|(simp;done)|(simp (disch:=(first|omega|(simp only [lnS];omega))) only [rdT,rdS,anT];first|done|omega|(refine ⟨?_,?_⟩<;>omega))|(simp (disch:=(first|omega|(simp only [lnS];omega))) [rdT,rdS];done)));cbv)
    |(refine E.c (SCalls.of_le (kl) ?_ ?_);(· (cbv;(try simp only [nc] at *);first|done|(simp;done)|(simp (disch:=(first|omega|(simp only [lnS];omega))) only [rdT,rdS,anT];first|done|omega|(refine ⟨?_,?_⟩<;>omega))|(simp (disch:=(first|omega|(simp only [lnS];omega))) [rdT,rdS];done)));cbv)
    |(refine ⟨fun _ h_s=>?_,fun _ h_s=>?_⟩<;>(cbv;(try simp only [nc] at *);try simp (disch:=(first|omega|(simp only [lnS];omega))) only [rdT,rdS,reduceCtorEq,trT] at h_s))
    |(refine hF ?_;intro _;clear hF)
    |(refine hF ?_;cbv;clear hF)
    |(refine ⟨fun _=>?_,?_⟩;(· ((try simp only [nc] at *);first|done|omega|exact ⟨by omega,rfl⟩|(simp (disch:=(first|omega|(simp only [lnS];omega))) only [rdT,rdS];first|done|omega|rfl|exact ⟨by omega,rfl⟩|(simp;done)|(simp;omega))|(intros;trivial)));(try (simp only [nc] at *));(try simp (disch:=(first|omega|(simp only [lnS];omega))) only [rdT,rdS]);(try cbv))
    |(refine E.d 24 (by decide +kernel) ?_;cbv;(fail_if_success guard_target =~ False))
    | fail
   )
   all_goals first
    | rfl
    | (exfalso; ((try simp only [nc] at *); omega))
    | exact absurd trivial h_s
 ·rw [show lightM 60 g = false by simpa using hli] at ki
  refine Pure.go (ty := ty) ty_eq mo Try.func6 rfl Try.ntmps6 Try.results6 Try.call6 (by simp) fun P C CQ D W F E hF => ?_
  cbv
  repeat' (first
   |(refine E.c (SCalls.of_le (ki) ?_ ?_);(· (cbv;(try simp only [nc] at *);first|done|(simp;done)|(simp (disch:=(first|omega|(simp only [lnS];omega))) only [rdT,rdS,anT];first|done|omega|(refine ⟨?_,?_⟩<;>omega))|(simp (disch:=(first|omega|(simp only [lnS];omega))) [rdT,rdS];done)));cbv)
   |(refine E.c (SCalls.of_le (kl) ?_ ?_);(· (cbv;(try simp only [nc] at *);first|done|(simp;done)|(simp (disch:=(first|omega|(simp only [lnS];omega))) only [rdT,rdS,anT];first|done|omega|(refine ⟨?_,?_⟩<;>omega))|(simp (disch:=(first|omega|(simp only [lnS];omega))) [rdT,rdS];done)));cbv)
   |(refine ⟨fun _ h_s=>?_,fun _ h_s=>?_⟩<;>(cbv;(try simp only [nc] at *);try simp (disch:=(first|omega|(simp only [lnS];omega))) only [rdT,rdS,reduceCtorEq,trT] at h_s))
   |(refine hF ?_;intro _;clear hF)
   |(refine hF ?_;cbv;clear hF)
   |(refine ⟨fun _=>?_,?_⟩;(· ((try simp only [nc] at *);first|done|omega|exact ⟨by omega,rfl⟩|(simp (disch:=(first|omega|(simp only [lnS];omega))) only [rdT,rdS];first|done|omega|rfl|exact ⟨by omega,rfl⟩|(simp;done)|(simp;omega))|(intros;trivial)));(try (simp only [nc] at *));(try simp (disch:=(first|omega|(simp only [lnS];omega))) only [rdT,rdS]);(try cbv))
   |(refine E.d 24 (by decide +kernel) ?_;cbv;(fail_if_success guard_target =~ False))
   | fail
  )
  all_goals first
   | rfl
   | (exfalso; ((try simp only [nc] at *); omega))
   | exact absurd trivial h_s
end Go.AL.Rl

namespace Go.AL
open Go Go.RowKit Go.ChangeShapes Go.WideShapes

section
variable {H : Type} {enc : TypeId × Value → H} {P : Program} {w : World} {spare : Nat → Bool} {held : Bool}

abbrev Old (w : World) : Nat → Prop := fun k => k < w.heap.size

/-- Whatever reads by the type 't' is told by an 'a'. -/
def Dec (P : Program) (t : TypeId) (α : Type) (en : α → List AV) (ok : α → Prop) : Prop :=
 ∀ {H : Type} (enc : TypeId × Value → H) (w : World) (spare : Nat → Bool) (held : Bool) (fuel : Nat) (cs : List Value) (x : DataW H × List MemPlace),
  DataW.trod enc P w 0 spare held fuel t cs = some x → ∃ a, ok a ∧ Rs (Old w) w none (en a) cs

theorem Dec.int {t : TypeId} (ht : P.underlying t = some (.int .i64)) : Dec P t Int (fun n => [.i fun _ => n]) fun n => -9223372036854775808 ≤ n ∧ n ≤ 9223372036854775807 := by
 intro H enc w spare held fuel cs x h
 obtain ⟨n, rfl, _, h2⟩ := DataW.trod_int ht h
 exact ⟨n, bounds_i64 h2, _, _, rfl, rfl, rfl⟩
theorem Dec.u64 {t : TypeId} (ht : P.underlying t = some (.int .u64)) : Dec P t (BitVec 64) (fun n => [.u fun _ => n]) fun _ => True := by
 intro H enc w spare held fuel cs x h
 obtain ⟨n, rfl, _, h2⟩ := DataW.trod_int ht h
 have := bounds_u64 h2
 refine ⟨BitVec.ofInt 64 n, trivial, _, _, rfl, ?_, rfl⟩
 simp only [R]
 congr 1
 simp only [BitVec.toNat_ofInt]
 omega
theorem Dec.bool {t : TypeId} (ht : P.underlying t = some .bool) : Dec P t Bool (fun b => [.b fun _ => b]) fun _ => True := by
 intro H enc w spare held fuel cs x h
 obtain ⟨b, rfl, _⟩ := DataW.trod_bool ht h
 exact ⟨b, trivial, _, _, rfl, rfl, rfl⟩

theorem cells?_get {w : World} {a : Addr} {n : Nat} {cs : List Value} (h : w.cells? 0 a n = some cs) : cs.length = n ∧ ∀ (i : Nat) (c : Value), cs[i]? = some c → w.cell? (a.add i) = some c := by
 simp only [World.cells?, Nat.zero_le, if_true] at h
 have hl : cs.length = n := by have := mapM_some_length h; simpa using this
 refine ⟨hl, fun i c hc => ?_⟩
 have hi : i < n := by have := (List.getElem?_eq_some_iff.1 hc).1; omega
 rw [mapM_some_get h i i (by simp [hi])]; exact hc

theorem list_of_all {α β : Type} {R' : α → β → Prop} : ∀ (l : List β), (∀ b ∈ l, ∃ a, R' a b) → ∃ r : List α, r.length = l.length ∧ ∀ (i : Nat) (a : α) (b : β), r[i]? = some a → l[i]? = some b → R' a b
 | [], _ => ⟨[], rfl, fun i a b h => by simp at h⟩
 | b :: l, h => by
  obtain ⟨a, ha⟩ := h b (by simp)
  obtain ⟨r, h1, h2⟩ := list_of_all l fun b hb => h b (by simp [hb])
  refine ⟨a :: r, by simp [h1], fun i a' b' ha' hb' => ?_⟩
  cases i with
  | zero => simp at ha' hb'; subst ha'; subst hb'; exact ha
  | succ i => exact h2 i a' b' (by simpa using ha') (by simpa using hb')

/-- the elements' values: 'mk' is '.agg' or the one cell -/
structure Elem (mk : List AV → AV) (k : Nat) : Prop where
 val : ∀ {S : Nat → Prop} {w : World} {l : List AV} {cs : List Value}, cs.length = k → l.all AV.one = true → Rs S w none l cs → ∃ v, v.cells.toList = cs ∧ R S w none (mk l) v
theorem Elem.agg (k : Nat) : Elem .agg k := ⟨fun {S w l cs} _ _ h => ⟨.agg cs.toArray, by simp [Value.cells], cs, rfl, h⟩⟩
theorem Elem.one : Elem (fun l => l.headD .any) 1 := ⟨fun {S w l cs} hl h1 h => by
 match cs, hl with
 | [c], _ =>
  match l, h with
  | x :: _, ⟨v, _, e, hx, hr⟩ =>
   cases e
   simp only [List.all_cons, Bool.and_eq_true] at h1
   exact ⟨c, by rw [cells_of_one (R_one hx h1.1)], hx⟩⟩

theorem Dec.slice {t e : TypeId} (ht : P.underlying t = some (.slice e)) {k : Nat} (hk : P.cellsOf e = k) (hk0 : 0 < k) {α : Type} {en : α → List AV} {ok : α → Prop} {mk : List AV → AV} (he : Dec P e α en ok) (hone : ∀ a, (en a).all AV.one = true) (hm : Elem mk k) :
  Dec P t (List α) (fun l => [.vs k fun _ => LV.of (l.map fun a => mk (en a))]) fun l => l.length ≤ maxLen ∧ ∀ a ∈ l, ok a := by
 subst hk
 intro H enc w spare held fuel cs x h
 rcases DataW.trod_slice ht h with ⟨rfl, _⟩ | ⟨a, len, cap, elems, rest, n, rfl, rfl, rfl, _, h2, h3, h4, h5, _⟩
 ·exact ⟨[], ⟨by simp, by simp⟩, _, _, rfl, ⟨none, 0, [], rfl, Nat.le_refl _, rfl, .inl rfl⟩, rfl⟩
 ·have key : ∀ i : Nat, i < len → ∃ (c : List Value) (a' : α), w.cells? 0 (a.add (i * P.cellsOf e)) (P.cellsOf e) = some c ∧ ok a' ∧ Rs (Old w) w none (en a') c := by
   intro i hi
   have := h5 i hi
   rw [List.getElem?_eq_getElem (by omega)] at this
   simp only [Option.bind_eq_some_iff] at this
   obtain ⟨c, hc, hd⟩ := this
   obtain ⟨a', ha, hr⟩ := he _ _ _ _ _ _ _ hd
   exact ⟨c, a', hc, ha, hr⟩
  have hlist := list_of_all (R' := fun (q : α × Value) (i : Nat) => ok q.1 ∧ q.2.cells.size = P.cellsOf e ∧ (∀ (j : Nat) (c : Value), q.2.cells[j]? = some c → w.cell? ((a.add (i * P.cellsOf e)).add j) = some c) ∧ R (Old w) w none (mk (en q.1)) q.2) (List.range len) fun i hi => by
   obtain ⟨c, a', hc, ha, hr⟩ := key i (by simpa using hi)
   obtain ⟨hl, hg⟩ := cells?_get hc
   obtain ⟨v, hv, hr'⟩ := hm.val hl (hone a') hr
   refine ⟨(a', v), ha, by rw [← Array.length_toList, hv]; exact hl, fun j c' hj => hg j c' ?_, hr'⟩
   rw [← hv]; simpa using hj
  obtain ⟨qs, hq1, hq2⟩ := hlist
  rw [List.length_range] at hq1
  have hq : ∀ (i : Nat) (q : α × Value), qs[i]? = some q → ok q.1 ∧ q.2.cells.size = P.cellsOf e ∧ (∀ (j : Nat) (c : Value), q.2.cells[j]? = some c → w.cell? ((a.add (i * P.cellsOf e)).add j) = some c) ∧ R (Old w) w none (mk (en q.1)) q.2 := fun i q hi =>
   hq2 i q i hi (by
    have := (List.getElem?_eq_some_iff.1 hi).1
    rw [List.getElem?_range (by omega)])
  refine ⟨qs.map (·.1), ⟨by simp; omega, fun a' ha' => ?_⟩, _, _, rfl, ⟨some a, cap, qs.map (·.2), by simp [hq1], by simp; omega, ?_, ?_⟩, rfl⟩
  ·obtain ⟨q, hqm, rfl⟩ := List.mem_map.1 ha'
   obtain ⟨i, hi, rfl⟩ := List.mem_iff_getElem.1 hqm
   exact (hq i _ (List.getElem?_eq_getElem hi)).1
  ·rw [RL_iff, LV.l_of, Rs_iff]
   refine ⟨by simp, fun i c v hc hv => ?_⟩
   simp only [List.map_map, List.getElem?_map, Option.map_eq_some_iff] at hc hv
   obtain ⟨q, hq', rfl⟩ := hc
   obtain ⟨q', hq'', rfl⟩ := hv
   rw [hq'] at hq''; cases hq''
   exact (hq i q hq').2.2.2
  ·cases hqs : qs with
   | nil => exact .inl rfl
   | cons q0 qr =>
    right
    have hlen : 0 < len := by rw [← hq1, hqs]; simp
    obtain ⟨_, hsz, hcell, _⟩ := hq 0 q0 (by rw [hqs]; rfl)
    have hc0 : ∃ c, q0.2.cells[0]? = some c := ⟨_, Array.getElem?_eq_getElem (by omega)⟩
    obtain ⟨c, hc⟩ := hc0
    have hw := hcell 0 c hc
    have ha0 : a.spot = none ∧ a.block < w.heap.size := by
     simp only [Nat.zero_mul, Addr.add, if_true] at hw
     unfold World.cell? at hw
     split at hw
     ·rename_i hb
      split at hw
      ·cases hw
      ·rename_i hs
       exact ⟨by simpa using hs, (Array.getElem?_eq_some_iff.1 hb).1⟩
     ·cases hw
    refine ⟨a, rfl, ha0.1, ha0.2, fun i ev hi => ?_⟩
    rw [← hqs] at hi
    simp only [List.getElem?_map, Option.map_eq_some_iff] at hi
    obtain ⟨q, hq', rfl⟩ := hi
    obtain ⟨_, h1, h2, _⟩ := hq i q hq'
    refine ⟨h1, fun j c hj => ?_⟩
    have := h2 j c hj
    have ea : (a.add (i * P.cellsOf e)).add j = ⟨a.block, a.off + (i * P.cellsOf e + j), none⟩ := by
     obtain ⟨b, o, s⟩ := a
     simp only at ha0
     obtain ⟨rfl, _⟩ := ha0
     simp only [Addr.add]
     by_cases h0 : i * P.cellsOf e = 0 <;> by_cases h1 : j = 0 <;> simp [h0, h1] <;> omega
    rw [← ea]; exact this

/-- fields, one behind the other -/
theorem Dec.fields {t : TypeId} {fs : List Field} {a : Array Field} (ht : P.underlying t = some (.struct a)) (hfs : a.toList = fs) {α : Type} {en : α → List AV} {ok : α → Prop}
  (h : ∀ {H : Type} (enc : TypeId × Value → H) (w : World) (spare : Nat → Bool) (held : Bool) (n : Nat) (cs : List Value), cs.length = P.cellsOf t →
   (∀ f ∈ fs, ∃ x, DataW.trod enc P w 0 spare held n f.type ((cs.drop f.offset).take (P.cellsOf f.type)) = some x) → ∃ a, ok a ∧ Rs (Old w) w none (en a) cs) : Dec P t α en ok := by
 intro H enc w spare held fuel cs x hx
 obtain ⟨xs, n, rfl, rfl, h1, h2, h3⟩ := DataW.trod_struct ht hx
 refine h enc w spare held n cs h1 fun f hf => ?_
 rw [← hfs] at hf
 obtain ⟨i, hi, rfl⟩ := List.mem_iff_getElem.1 hf
 have hi' : i < a.size := by simpa using hi
 have := h3 i a[i] (Array.getElem?_eq_getElem hi')
 rw [List.getElem?_eq_getElem (by omega)] at this
 exact ⟨_, by simpa using this⟩
theorem cut3 (cs : List Value) (o s n : Nat) (h : cs.length = n) (ho : o + s = n) : cs = cs.take o ++ (cs.drop o).take s := by
 have : (cs.drop o).take s = cs.drop o := List.take_of_length_le (by simp; omega)
 rw [this, List.take_append_drop]

theorem Dec.struct2 {t : TypeId} {a : Array Field} (ht : P.underlying t = some (.struct a)) {t0 t1 : TypeId} {s0 s1 : Nat} (hfs : a.toList.map (fun f => (f.type, f.offset)) = [(t0, 0), (t1, s0)]) (h0 : P.cellsOf t0 = s0) (h1 : P.cellsOf t1 = s1) (hs : P.cellsOf t = s0 + s1)
  {α β : Type} {e0 : α → List AV} {e1 : β → List AV} {k0 : α → Prop} {k1 : β → Prop} (d0 : Dec P t0 α e0 k0) (d1 : Dec P t1 β e1 k1) : Dec P t (α × β) (fun p => e0 p.1 ++ e1 p.2) fun p => k0 p.1 ∧ k1 p.2 := by
 refine Dec.fields ht rfl fun {H} enc w spare held n cs hl hf => ?_
 have get : ∀ t o, (t, o) ∈ a.toList.map (fun f => (f.type, f.offset)) → ∃ x, DataW.trod enc P w 0 spare held n t ((cs.drop o).take (P.cellsOf t)) = some x := fun t o hm => by
  obtain ⟨f, hf1, hf2⟩ := List.mem_map.1 hm
  cases hf2
  exact hf f hf1
 rw [hfs] at get
 obtain ⟨x0, g0⟩ := get t0 0 (by simp)
 obtain ⟨x1, g1⟩ := get t1 s0 (by simp)
 obtain ⟨a0, o0, r0⟩ := d0 _ _ _ _ _ _ _ g0
 obtain ⟨a1, o1, r1⟩ := d1 _ _ _ _ _ _ _ g1
 refine ⟨(a0, a1), ⟨o0, o1⟩, ?_⟩
 rw [cut3 cs s0 s1 _ (hl.trans hs) rfl]
 rw [h0] at r0; rw [h1] at r1
 exact Rs_append (by simpa using r0) r1

theorem trodAll_len {W : World} {b : Nat} : ∀ {ts : List TypeId} {vs : List Value} {ds : List (DataW H)} {p : List MemPlace}, DataW.TrodAll enc P W b spare held ts vs ds p → ds.length = ts.length
 | [], [], [], _, _ => rfl
 | _ :: _, _ :: _, _ :: _, _, ⟨_, _, _, h, _⟩ => by simp [trodAll_len h]
 | [], [], _ :: _, _, h => h.elim
 | [], _ :: _, _, _, h => h.elim
 | _ :: _, [], _, _, h => h.elim
 | _ :: _, _ :: _, [], _, h => h.elim
theorem trodAll_carry {W W' : World} (hq : ∀ k, k < W.heap.size → W'.heap[k]? = W.heap[k]?) : ∀ {ts : List TypeId} {vs : List Value} {ds : List (DataW H)} {p : List MemPlace},
  DataW.TrodAll enc P W 0 spare held ts vs ds p → (∀ p' ∈ p, p'.block < W.heap.size) → DataW.TrodAll enc P W' 0 spare held ts vs ds p
 | [], [], [], _, h, _ => h
 | _ :: _, _ :: _, _ :: _, _, ⟨p0, q0, ⟨n, h1⟩, h2, e⟩, lt => by
  subst e
  refine ⟨p0, q0, ⟨n, DataW.trod_carry _ _ _ _ h1 fun pl hpl => ?_⟩, trodAll_carry hq h2 fun p' hp => lt p' (List.mem_append_right _ hp), rfl⟩
  have hlt := lt pl (List.mem_append_left _ hpl)
  cases pl with
  | cell b off => exact World.cell?_of_block (hq b hlt)
  | map b => exact hq b hlt
 | [], [], _ :: _, _, h, _ => h.elim
 | [], _ :: _, _, _, h, _ => h.elim
 | _ :: _, [], _, _, h, _ => h.elim
 | _ :: _, _ :: _, [], _, h, _ => h.elim
theorem post_true {H : Type} {enc : TypeId × Value → H} {f : Func} {s : ChangeSpec} {W W' : World} {args : Array Value} {ds gs : List (DataW H)} {before : List MemPlace} {tb : TypeId}
  (hW : DataW.Whole enc P f.params.toList s.vars false W args.toList ds gs before) (hv : s.vars = []) (hres : f.resultTypes = #[tb]) (htb : P.underlying tb = some .bool)
  (hs : ∀ ds' : List (DataW H), ds'.length = f.params.size → s.fn H ds' = { results := [.lit (.bool true)], args := ds' })
  (hl : laidOutB P = true) (hm : mapsRowed P = true) (hz : ((List.range P.types.size).all fun t => match P.underlying t with | some (.slice e) => decide (0 < P.cellsOf e) | _ => true) = true) (hT : ∀ t ∈ f.params.toList, t < P.types.size)
  (hq : ∀ k, k < W.heap.size → W'.heap[k]? = W.heap[k]?) (fr : Fr W W') : s.post enc P f false true false false W args (.bool true) W' := by
 have hW' := hW
 obtain ⟨p, q, hA, hV, rfl, hfz, hnd⟩ := hW
 rw [hv] at hV
 obtain ⟨rfl, rfl⟩ := trodVars_none hV
 have hlen : ds.length = f.params.size := by have := trodAll_len hA; simpa using this
 have hsd := hs (ds ++ []) (by simpa using hlen)
 have hall : ∀ (b : Nat) (sp : Nat → Bool) (hd : Bool), DataW.TrodAll enc P W' b sp hd [tb] [.bool true] [.lit (.bool true)] [] := fun b sp hd => ⟨[], [], ⟨1, by simp [DataW.trod, htb, Value.cells]⟩, rfl, rfl⟩
 have carry : DataW.TrodAll enc P W' 0 (fun _ => true) true f.params.toList args.toList ds p := trodAll_carry hq hA fun p' hp => hW'.lt p' (by simpa using hp)
 have hargs : ∀ sp : Nat → Bool, (∀ x ∈ p, sp x.block = true) → DataW.TrodAll enc P W' 0 sp true f.params.toList args.toList (s.fn H (ds ++ [])).args p := fun sp hsp => by
  rw [hsd]
  simp only [List.append_nil]
  exact carry.respare (kids_rows hl hm) (fun t e ht hu => slices_full_of P hz t e ht hu) hT hsp
 have hvars : ∀ sp : Nat → Bool, DataW.TrodVars enc P W' sp s.vars (s.fn H (ds ++ [])).vars [] := fun sp => by rw [hsd, hv]; rfl
 have hlt : ∀ x ∈ p, x.block < W.heap.size := fun x hx => hW'.lt x (by simpa using hx)
 have hkept : W.keptBut W' (· ∈ p) := by
  refine ⟨fr.os, fr.output, fun i hi => ?_⟩
  rw [hq i hi]
  cases h : W.heap[i]? with
  | none => trivial
  | some o => cases o <;> simp
 have hres' : ∀ (b : Nat) (sp : Nat → Bool) (hd : Bool), DataW.TrodAll enc P W' b sp hd f.resultTypes.toList ((Value.bool true).resultList f.resultTypes.size) (s.fn H (ds ++ [])).results [] := fun b sp hd => by rw [hsd, hres]; exact hall b sp hd
 have h2 := hargs (fun _ => true) fun _ _ => rfl
 have hW3 : DataW.Whole enc P f.params.toList s.vars false W args.toList ds [] p := by simpa using hW'
 refine ⟨ds, [], p, [], p, [], hW3, hres' _ _ _, hargs (fun b => decide (b < W.heap.size)) fun x hx => decide_eq_true (hlt x hx), hvars _, World.keptBut_mono (fun x hx => ⟨hx, .inr (.inl hx)⟩) hkept, fun _ => ?_⟩
 obtain ⟨_, _, _, _, _, z, n⟩ := hW3
 refine ⟨ok_one hres rfl (okWide_bool_mk htb _), _, _, p, ⟨p, [], trodAll_append h2 (hres' _ _ _), hvars (fun _ => true), (List.append_nil p).symm, fun b off hp => (fr.frozen ⟨b, off, none⟩ (hlt _ hp)).trans (z b off hp), fun h => absurd h (by simp)⟩, fun x hx _ => by simpa using hx⟩

def Arg (P : Program) (t : TypeId) (α : Type) (en : α → AV) (ok : α → Prop) : Prop :=
 ∀ {H : Type} (enc : TypeId × Value → H) (W : World) (base : Nat) (v : Value) (d : DataW H) (p : List MemPlace), Value.okWide P W .any base t v → DataW.Trod enc P W 0 (fun _ => true) true t v d p → ∃ a, ok a ∧ R (Old W) W none (en a) v
theorem Arg.agg {t : TypeId} {a : Array Field} (ht : P.underlying t = some (.struct a)) {α : Type} {en : α → List AV} {ok : α → Prop} (h : Dec P t α en ok) : Arg P t α (fun a => .agg (en a)) ok := by
 intro H enc W base v d p hok ⟨n, hn⟩
 simp only [Value.okWide, ht] at hok
 obtain ⟨cs, rfl, _⟩ := hok
 obtain ⟨x, h1, h2⟩ := h _ _ _ _ _ _ _ hn
 exact ⟨x, h1, cs.toList, by simp, by simpa [Value.cells] using h2⟩
theorem Arg.one {t : TypeId} {k : TypeDesc} (ht : P.underlying t = some k) (hk : match k with | .int _ | .bool | .slice _ => True | _ => False) {α : Type} {en : α → AV} {ok : α → Prop} (h : Dec P t α (fun a => [en a]) ok) : Arg P t α en ok := by
 intro H enc W base v d p hok ⟨n, hn⟩
 obtain ⟨x, h1, y, ys, h2, h3, h4⟩ := h _ _ _ _ _ _ _ hn
 have h4 : ys = [] := h4
 subst h4
 have hv : v = y := by
  cases v
  case agg cs => cases k <;> first | exact hk.elim | simp [Value.okWide, ht, Cell.okWide, Cell.ok] at hok
  all_goals (simp [Value.cells] at h2; exact h2)
 subst hv
 exact ⟨x, h1, h3⟩

/-- A LAW, from its contract. -/
theorem law_true {γ : Nat → Option AV} {f : FuncId} {fn : Func} {s : ChangeSpec} {W : World} {args : Array Value} {ds gs : List (DataW H)} {before : List MemPlace} {tb : TypeId} {avs : List AV} (hp : Pure P γ false f avs (.b fun _ => true)) (hr : Rs (Old W) W none avs args.toList)
  (hγ : ∀ g x, γ g = some x → R (Old W) W none (.vp (fun _ => x) 0) (.pointer (some ⟨g, 0, none⟩)))
  (hW : DataW.Whole enc P fn.params.toList s.vars false W args.toList ds gs before) (hv : s.vars = []) (hres : fn.resultTypes = #[tb]) (htb : P.underlying tb = some .bool)
  (hs : ∀ ds' : List (DataW H), ds'.length = fn.params.size → s.fn H ds' = { results := [.lit (.bool true)], args := ds' })
  (hl : laidOutB P = true) (hm : mapsRowed P = true) (hz : ((List.range P.types.size).all fun t => match P.underlying t with | some (.slice e) => decide (0 < P.cellsOf e) | _ => true) = true) (hT : ∀ t ∈ fn.params.toList, t < P.types.size) :
  Calls P f args W fun e W' => ∃ v, e = .returned v ∧ s.post enc P fn false true false false W args v W' := by
 have := hp.2 (Old W) W args.toList (fun k hk => hk) hγ hr
 refine (this.mono fun e w' ⟨v', S', h1, h2, h3⟩ => ?_)
 have h2 : v' = .bool true := h2
 subst h2
 exact ⟨_, h1, post_true hW hv hres htb hs hl hm hz hT h3.same h3.fr⟩
end
end Go.AL

namespace Go.AL
open Go Go.RowKit Go.ChangeShapes Go.WideShapes
section
variable {P : Program}
theorem Dec.imap {t : TypeId} {α β : Type} {en : α → List AV} {ok : α → Prop} {en' : β → List AV} {ok' : β → Prop} (d : Dec P t α en ok) (f : α → β) (he : ∀ a, en a = en' (f a)) (hk : ∀ a, ok a → ok' (f a)) : Dec P t β en' ok' := by
 intro H enc w spare held fuel cs x h
 obtain ⟨a, h1, h2⟩ := d _ _ _ _ _ _ _ h
 exact ⟨f a, hk a h1, by rw [← he]; exact h2⟩
theorem Dec.struct4 {t : TypeId} {a : Array Field} (ht : P.underlying t = some (.struct a)) {t0 t1 t2 t3 : TypeId} (hfs : a.toList.map (fun f => (f.type, f.offset)) = [(t0, 0), (t1, 1), (t2, 2), (t3, 3)])
  (h0 : P.cellsOf t0 = 1) (h1 : P.cellsOf t1 = 1) (h2 : P.cellsOf t2 = 1) (h3 : P.cellsOf t3 = 1) (hs : P.cellsOf t = 4)
  {A0 A1 A2 A3 : Type} {e0 : A0 → List AV} {e1 : A1 → List AV} {e2 : A2 → List AV} {e3 : A3 → List AV} {k0 : A0 → Prop} {k1 : A1 → Prop} {k2 : A2 → Prop} {k3 : A3 → Prop}
  (d0 : Dec P t0 A0 e0 k0) (d1 : Dec P t1 A1 e1 k1) (d2 : Dec P t2 A2 e2 k2) (d3 : Dec P t3 A3 e3 k3) :
  Dec P t (A0 × A1 × A2 × A3) (fun p => e0 p.1 ++ (e1 p.2.1 ++ (e2 p.2.2.1 ++ e3 p.2.2.2))) fun p => k0 p.1 ∧ k1 p.2.1 ∧ k2 p.2.2.1 ∧ k3 p.2.2.2 := by
 refine Dec.fields ht rfl fun {H} enc w spare held n cs hl hf => ?_
 have get : ∀ t o, (t, o) ∈ a.toList.map (fun f => (f.type, f.offset)) → ∃ x, DataW.trod enc P w 0 spare held n t ((cs.drop o).take (P.cellsOf t)) = some x := fun t o hm => by
  obtain ⟨f, hf1, hf2⟩ := List.mem_map.1 hm
  cases hf2
  exact hf f hf1
 rw [hfs] at get
 rw [hs] at hl
 match cs, hl with
 | [c0, c1, c2, c3], _ =>
  obtain ⟨x0, g0⟩ := get t0 0 (by simp)
  obtain ⟨x1, g1⟩ := get t1 1 (by simp)
  obtain ⟨x2, g2⟩ := get t2 2 (by simp)
  obtain ⟨x3, g3⟩ := get t3 3 (by simp)
  obtain ⟨a0, o0, r0⟩ := d0 _ _ _ _ _ _ _ g0
  obtain ⟨a1, o1, r1⟩ := d1 _ _ _ _ _ _ _ g1
  obtain ⟨a2, o2, r2⟩ := d2 _ _ _ _ _ _ _ g2
  obtain ⟨a3, o3, r3⟩ := d3 _ _ _ _ _ _ _ g3
  rw [h0] at r0; rw [h1] at r1; rw [h2] at r2; rw [h3] at r3
  exact ⟨(a0, a1, a2, a3), ⟨o0, o1, o2, o3⟩, Rs_append (vals := [c0]) r0 (Rs_append (vals := [c1]) r1 (Rs_append (vals := [c2]) r2 r3))⟩
theorem Dec.struct5 {t : TypeId} {a : Array Field} (ht : P.underlying t = some (.struct a)) {e f : TypeId} (hfs : a.toList.map (fun f => (f.type, f.offset)) = [(e, 0), (e, 1), (e, 2), (f, 3), (f, 4)])
  (h0 : P.cellsOf e = 1) (h1 : P.cellsOf f = 1) (hs : P.cellsOf t = 5) {A0 : Type} {e0 : A0 → List AV} {k0 : A0 → Prop} (d0 : Dec P e A0 e0 k0) (d1 : Dec P f A0 e0 k0) :
  Dec P t (A0 × A0 × A0 × A0 × A0) (fun p => e0 p.1 ++ (e0 p.2.1 ++ (e0 p.2.2.1 ++ (e0 p.2.2.2.1 ++ e0 p.2.2.2.2)))) fun p => k0 p.1 ∧ k0 p.2.1 ∧ k0 p.2.2.1 ∧ k0 p.2.2.2.1 ∧ k0 p.2.2.2.2 := by
 refine Dec.fields ht rfl fun {H} enc w spare held n cs hl hf => ?_
 have get : ∀ t o, (t, o) ∈ a.toList.map (fun f => (f.type, f.offset)) → ∃ x, DataW.trod enc P w 0 spare held n t ((cs.drop o).take (P.cellsOf t)) = some x := fun t o hm => by
  obtain ⟨f, hf1, hf2⟩ := List.mem_map.1 hm
  cases hf2
  exact hf f hf1
 rw [hfs] at get
 rw [hs] at hl
 match cs, hl with
 | [c0, c1, c2, c3, c4], _ =>
  obtain ⟨x0, g0⟩ := get e 0 (by simp)
  obtain ⟨x1, g1⟩ := get e 1 (by simp)
  obtain ⟨x2, g2⟩ := get e 2 (by simp)
  obtain ⟨x3, g3⟩ := get f 3 (by simp)
  obtain ⟨x4, g4⟩ := get f 4 (by simp)
  obtain ⟨a0, o0, r0⟩ := d0 _ _ _ _ _ _ _ g0
  obtain ⟨a1, o1, r1⟩ := d0 _ _ _ _ _ _ _ g1
  obtain ⟨a2, o2, r2⟩ := d0 _ _ _ _ _ _ _ g2
  obtain ⟨a3, o3, r3⟩ := d1 _ _ _ _ _ _ _ g3
  obtain ⟨a4, o4, r4⟩ := d1 _ _ _ _ _ _ _ g4
  rw [h0] at r0 r1 r2; rw [h1] at r3 r4
  exact ⟨(a0, a1, a2, a3, a4), ⟨o0, o1, o2, o3, o4⟩, Rs_append (vals := [c0]) r0 (Rs_append (vals := [c1]) r1 (Rs_append (vals := [c2]) r2 (Rs_append (vals := [c3]) r3 r4)))⟩
end
end Go.AL

namespace Go.AL.Rl
open Go Go.AL Go.Proofs Go.RowKit Go.ChangeShapes Go.WideShapes Go.ChangeAt Go.Proofs.Ytjoggeafcdfidaa
set_option maxRecDepth 100000

theorem laidOut : laidOutB Try.prog = true := by kernel_rfl
theorem mapsOk : mapsRowed Try.prog = true := by kernel_rfl
theorem slicesOk : ((List.range Try.prog.types.size).all fun t => match Try.prog.underlying t with | some (.slice e) => decide (0 < Try.prog.cellsOf e) | _ => true) = true := by kernel_rfl
theorem own : ownKnob Try.prog.godebug = none := by kernel_rfl
def γ0 : Nat → Option AV := fun _ => none
theorem gok0 {W : World} : ∀ g x, γ0 g = some x → R (Old W) W none (.vp (fun _ => x) 0) (.pointer (some ⟨g, 0, none⟩)) := fun g x h => by cases h
theorem dInts : Dec Try.prog 22 (List Int) (fun l => [.vs 1 fun _ => is l]) fun l => l.length ≤ maxLen :=
 Dec.imap (Dec.slice Try.underlying22 (k := 1) (by kernel_rfl) (by omega) (Dec.int Try.underlying2) (fun _ => rfl) Elem.one) id (fun _ => rfl) fun _ h => h.1
theorem dEv : Dec Try.prog 28 Ev (fun e => [.i fun _ => e.kind, .i fun _ => e.loc, .i fun _ => e.order, .i fun _ => e.rd, .i fun _ => e.wr]) fun _ => True :=
 Dec.imap (Dec.struct5 Try.underlying28 (e := 3) (f := 2) (by kernel_rfl) (by kernel_rfl) (by kernel_rfl) (by kernel_rfl) (Dec.int Try.underlying3) (Dec.int Try.underlying2)) (fun p => ⟨p.1, p.2.1, p.2.2.1, p.2.2.2.1, p.2.2.2.2⟩) (fun _ => rfl) fun _ _ => trivial
theorem dId : Dec Try.prog 30 EId (fun e => [.i fun _ => e.t, .i fun _ => e.i]) fun _ => True :=
 Dec.imap (Dec.struct2 Try.underlying30 (t0 := 3) (t1 := 3) (s0 := 1) (s1 := 1) (by kernel_rfl) (by kernel_rfl) (by kernel_rfl) (by kernel_rfl) (Dec.int Try.underlying3) (Dec.int Try.underlying3)) (fun p => ⟨p.1, p.2⟩) (fun _ => rfl) fun _ _ => trivial
theorem dEvs : Dec Try.prog 47 (List Ev) (fun l => [.vs 5 fun _ => evs l]) fun l => l.length ≤ maxLen :=
 Dec.imap (Dec.slice Try.underlying47 (k := 5) (by kernel_rfl) (by omega) dEv (fun _ => rfl) (Elem.agg 5)) id (fun _ => rfl) fun _ h => h.1
theorem dIds : Dec Try.prog 55 (List EId) (fun l => [.vs 2 fun _ => ids l]) fun l => l.length ≤ maxLen :=
 Dec.imap (Dec.slice Try.underlying55 (k := 2) (by kernel_rfl) (by omega) dId (fun _ => rfl) (Elem.agg 2)) id (fun _ => rfl) fun _ h => h.1
theorem dEvss : Dec Try.prog 23 (List (List Ev)) (fun l => [.vs 1 fun _ => evss l]) fun l => l.length ≤ maxLen ∧ ∀ a ∈ l, a.length ≤ maxLen :=
 Dec.imap (Dec.slice Try.underlying23 (k := 1) (by kernel_rfl) (by omega) dEvs (fun _ => rfl) Elem.one) id (fun _ => rfl) fun _ h => h
theorem dIdss : Dec Try.prog 24 (List (List EId)) (fun l => [.vs 1 fun _ => idss l]) fun l => l.length ≤ maxLen ∧ ∀ a ∈ l, a.length ≤ maxLen :=
 Dec.imap (Dec.slice Try.underlying24 (k := 1) (by kernel_rfl) (by omega) dIds (fun _ => rfl) Elem.one) id (fun _ => rfl) fun _ h => h
theorem dGr : Dec Try.prog 26 Gr (fun g => [.vs 1 fun _ => is g.init, .vs 1 fun _ => evss g.th, .vs 1 fun _ => idss g.fr, .vs 1 fun _ => idss g.ord]) Rd :=
 Dec.imap (Dec.struct4 Try.underlying26 (t0 := 22) (t1 := 23) (t2 := 24) (t3 := 24) (by kernel_rfl) (by kernel_rfl) (by kernel_rfl) (by kernel_rfl) (by kernel_rfl) (by kernel_rfl) dInts dEvss dIdss dIdss)
  (fun p => ⟨p.1, p.2.1, p.2.2.1, p.2.2.2⟩) (fun _ => rfl) fun p h => by
   have e : maxLen = 9223372036854775807 := by decide +kernel
   obtain ⟨h0, ⟨h1, h1'⟩, ⟨h2, h2'⟩, h3, h3'⟩ := h
   rw [e] at *
   exact ⟨by dsimp only; omega, by dsimp only; omega, by dsimp only; omega, by dsimp only; omega, fun l hl => by have := h1' l hl; omega, fun l hl => by have := h2' l hl; omega, fun l hl => by have := h3' l hl; omega⟩
theorem aGraph : Arg Try.prog 26 Gr aGr Rd := Arg.agg Try.underlying26 dGr
end Go.AL.Rl

namespace Go.AL.Rl
open Go Go.AL Go.Proofs
set_option maxRecDepth 100000
open Go.RowKit Go.ChangeShapes Go.WideShapes Go.ChangeAt Go.Proofs.Ytjoggeafcdfidaa
namespace RaceTurned
theorem contract (H : Type) (enc : TypeId × Value → H) (W : World) (base : Nat) (args : Array Value) (ds gs : List (DataW H)) (before : List MemPlace)
  (hval : ∀ (j : Nat) t v, Try.f6.params[j]? = some t → args[j]? = some v → Value.okWide Try.prog W .any base t v)
  (hW : DataW.Whole enc Try.prog Try.f6.params.toList Rows.raceTurnedSpec.vars false W args.toList ds gs before) (hL : laidMet Try.prog Rows.raceTurnedRow.laid W) :
  Calls Try.prog 6 args W fun e W' => ∃ v, e = .returned v ∧ Rows.raceTurnedSpec.post enc Try.prog Try.f6 false true false false W args v W' := by
 have hW' := hW
 obtain ⟨p, q, hA, hV, rfl, hfz, hnd⟩ := hW
 rw [Try.params6] at hA hval
 obtain ⟨v0, vs0, d0, ds0, p0, q0, hargs, rfl, rfl, h0, r0⟩ := trodAll_cons hA
 obtain ⟨rfl, rfl, rfl⟩ := trodAll_nil r0
 obtain rfl : args = #[v0] := by cases args; simp_all
 obtain ⟨x0, k0, a0⟩ := aGraph enc W base v0 d0 p0 (hval 0 _ v0 rfl rfl) h0
 exact law_true (raceTurned_ok (γ := γ0) x0 k0) ⟨_, _, rfl, a0, rfl⟩ gok0 hW' rfl (tb := 4) (by kernel_rfl) Try.underlying4
  (fun ds' h => by match ds', h with | [a], _ => rfl) laidOut mapsOk slicesOk (by rw [Try.params6]; decide +kernel)
theorem laid_met (os : Os) : laidMet Try.prog Rows.raceTurnedRow.laid ((World.holding Try.prog os ⟨#[], #[], []⟩).forCall (fun _ _ => 0) ⟨#[], #[.agg #[.slice none 0 0, .slice none 0 0, .slice none 0 0, .slice none 0 0]], []⟩).memory :=
 laidMet_of_run' 8 (by kernel_rfl) (by kernel_rfl)
theorem reads (os : Os) {H : Type} (enc : TypeId × Value → H) : ∃ places, DataW.whole enc Try.prog ((World.holding Try.prog os ⟨#[], #[], []⟩).forCall (fun _ _ => 0) ⟨#[], #[.agg #[.slice none 0 0, .slice none 0 0, .slice none 0 0, .slice none 0 0]], []⟩).memory Try.f6.params.toList Rows.raceTurnedSpec.vars false (#[.agg #[.slice none 0 0, .slice none 0 0, .slice none 0 0, .slice none 0 0]] : Array Value).toList 8 = some ([.agg [.nil, .nil, .nil, .nil]], [], places) :=
 ⟨[], by kernel_rfl⟩
theorem lifted (os : Os) (started : os.Started) (H : Type) (enc : TypeId × Value → H) (F : Stop.Interp) :
  ReturnsInHanded {} Try.checked os 6 .any ((OpenSpec.ofChange Rows.raceTurnedSpec).preRow enc Try.prog Try.f6 Rows.raceTurnedRow.domain false Rows.raceTurnedRow.laid) (((OpenSpec.ofChange Rows.raceTurnedSpec).at F).post enc Try.prog Try.f6 false true false false) := by
 obtain ⟨places, hx⟩ := reads os enc
 refine returnsInHanded_of_row (C := Try.checked) (s := OpenSpec.ofChange Rows.raceTurnedSpec) own started (by kernel_rfl) Try.func6
  (witness_row_at (enc := enc) (C := Try.checked) false (World.holding Try.prog os ⟨#[], #[], []⟩) #[.agg #[.slice none 0 0, .slice none 0 0, .slice none 0 0, .slice none 0 0]] rfl (by kernel_rfl) (by kernel_rfl) (by kernel_rfl)
   (OpenSpec.preRow_of_cond 8 hx (by kernel_rfl) (fun k hk => by cases hk) (by kernel_rfl) (laid_met os))) ?_
 intro W base args ds gs before hval hW _ _ _ hL _ _
 exact contract H enc W base args ds gs before hval hW hL
theorem said : Rows.RaceTurnedSaid :=
 OpenClaim.holds_of_cond 6 Try.f6 rfl rfl rfl rfl rfl rfl rfl ⟨rfl, rfl, rfl, rfl, rfl⟩ rfl rfl rfl rfl rfl (by kernel_rfl) Try.func6 (by kernel_rfl)
  (of_decide_eq_true (by kernel_rfl)) (by unfold Func.isWrapper; first | (rw [if_pos (by decide +kernel)]; kernel_rfl) | (rw [if_neg (by decide +kernel)]; exact ⟨rfl, rfl⟩))
  (fun os started H enc _ F => by rw [OpenClaim.pre_eq_preRow]; exact lifted os started H enc F)
end RaceTurned
end Go.AL.Rl
