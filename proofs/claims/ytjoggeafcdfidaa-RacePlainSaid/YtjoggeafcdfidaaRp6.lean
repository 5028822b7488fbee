import Derived.Test.YtjoggeafcdfidaaRp5
import Derived.OpenShut
import Derived.ReadAgain
import Derived.Deep.DeepHandedRow
import Derived.Lib.LaidTab
import Derived.ProofKit
import Derived.Test.YtjoggeafcdfidaaRows
set_option linter.unusedVariables false
set_option linter.unusedSimpArgs false
namespace Go.AL.Rl
open Go Go.AL Go.Proofs
set_option maxRecDepth 100000
set_option maxHeartbeats 1600000

end Go.AL.Rl

namespace Go.AL.Rl
open Go Go.AL Go.Proofs
set_option maxRecDepth 100000
set_option maxHeartbeats 1600000
variable {γ : Nat → Option AV}

def numI (l : List EId) (d : EId) : Int := match l.findIdx? (fun x => decide (x = d)) with | some k => (k : Nat) | none => -1
theorem numI_at {l : List EId} {d : EId} {k : Nat} (hk : k < l.length) (h : l.getD k id0 = d) (hb : ∀ j < k, l.getD j id0 ≠ d) : numI l d = k := by
  have e : l.findIdx? (fun x => decide (x = d)) = some k := by
    rw [List.findIdx?_eq_some_iff_getElem]
    refine ⟨hk, by simpa [hk] using h, fun j hj => ?_⟩
    have := hb j hj
    have hj' : j < l.length := by omega
    simpa [hj'] using this
  unfold numI; rw [e]
theorem numI_no {l : List EId} {d : EId} (hb : ∀ j < l.length, l.getD j id0 ≠ d) : numI l d = -1 := by
  have e : l.findIdx? (fun x => decide (x = d)) = none := by
    rw [List.findIdx?_eq_none_iff]
    intro x hx
    obtain ⟨j, hj, rfl⟩ := List.getElem_of_mem hx
    have := hb j hj
    simpa [hj] using this
  unfold numI; rw [e]
theorem numI_lt (l : List EId) (d : EId) : -1 ≤ numI l d ∧ numI l d < l.length := by
  unfold numI
  cases h : l.findIdx? (fun x => decide (x = d)) with
  | none => simp; omega
  | some k =>
    have := (List.findIdx?_eq_some_iff_getElem.1 h).1
    simp only; omega
theorem index_ok (l : List EId) (d : EId) (hl : (l.length : Int) ≤ 9223372036854775807) : Pure Try.prog γ false 32 [.vs 2 fun _ => ids l, aId d] (.i fun _ => numI l d) := by
  refine Pure.go (ty := ty) ty_eq mo Try.func32 rfl Try.ntmps32 Try.results32 Try.call32 (by simp) fun P C CQ D W F E hF => ?_
  cbv
  repeat' (first
    | (refine ⟨fun _ h_s => ?_, fun _ h_s => ?_⟩ <;> (cbv; (try simp only [nc] at *); try simp (disch := (first | omega | (simp only [lnS]; omega))) only [rdT, rdS, reduceCtorEq, trT] at h_s))
    | (refine hF ?_; intro _; clear hF)
    | (refine hF ?_; cbv; clear hF)
    | (refine ⟨fun _ => ?_, ?_⟩; (· ((try simp only [nc] at *); first | done | omega | exact ⟨by omega, rfl⟩ | (simp (disch := (first | omega | (simp only [lnS]; omega))) only [rdT, rdS]; first | done | omega | rfl | exact ⟨by omega, rfl⟩ | (simp; done) | (simp; omega)) | (intros; trivial))); (try (simp only [nc] at *)); (try simp (disch := (first | omega | (simp only [lnS]; omega))) only [rdT, rdS]); (try cbv))
    | (refine E.d 5 (by decide +kernel) ?_; cbv; (fail_if_success guard_target =~ False))
    | fail
  )
  refine E.loopS (ι := Nat) (fun i => i ≤ l.length ∧ (∀ k < i, l.getD k id0 ≠ d)) (fun i => l.length - i) (fun i => [(8, .i fun _ => ((i : Nat) : Int))]) (fun i h => h) 0 (fun _ => by first | rfl | simp) ⟨Nat.zero_le _, ?_⟩ ?_ fun i hi I hI => ?_
  · intro k hk; omega
  · cbv; simp
  cbv
  obtain ⟨hi, hp⟩ := hi
  repeat' (first
    | (refine hI (i + 1) ?_ ?_ ?_; rotate_left 1; (· ((try simp only [nc] at *); omega)); (cbv; clear hI; (try clear hF); (try simp only [nc] at *); (try simp (disch := (first | omega | (simp only [lnS]; omega))) only [rdT, rdS, anT])); rotate_left 1; (try ((try simp only [nc] at *); omega)))
    | (refine ⟨fun _ h_s => ?_, fun _ h_s => ?_⟩ <;> (cbv; (try simp only [nc] at *); try simp (disch := (first | omega | (simp only [lnS]; omega))) only [rdT, rdS, reduceCtorEq, trT] at h_s))
    | (refine hF ?_; intro _; clear hF)
    | (refine hF ?_; cbv; clear hF)
    | (refine ⟨fun _ => ?_, ?_⟩; (· ((try simp only [nc] at *); first | done | omega | exact ⟨by omega, rfl⟩ | (simp (disch := (first | omega | (simp only [lnS]; omega))) only [rdT, rdS]; first | done | omega | rfl | exact ⟨by omega, rfl⟩ | (simp; done) | (simp; omega)) | (intros; trivial))); (try (simp only [nc] at *)); (try simp (disch := (first | omega | (simp only [lnS]; omega))) only [rdT, rdS]); (try cbv))
    | (refine E.d 5 (by decide +kernel) ?_; cbv; (fail_if_success guard_target =~ False))
    | fail
  )
  · simp only [Bool.and_true, Bool.and_eq_true, decide_eq_true_eq] at h_s
    have he : l.getD i id0 = d := (EId.ext' h_s.1 h_s.2).symm
    exact (numI_at (by ((try simp only [nc] at *); omega)) he hp).symm
  · refine ⟨by ((try simp only [nc] at *); omega), fun k hk => ?_⟩
    rcases Nat.lt_or_ge k i with h1 | h1
    · exact hp k h1
    · obtain rfl : k = i := by omega
      intro e
      rw [← e] at h_s
      simp at h_s
  · push_cast; rfl
  · have e : i = l.length := by ((try simp only [nc] at *); omega)
    subst e
    exact (numI_no hp).symm
end Go.AL.Rl

namespace Go.AL.Rl
open Go Go.AL Go.Proofs
set_option maxRecDepth 100000
set_option maxHeartbeats 3200000
variable {γ : Nat → Option AV}

end Go.AL.Rl

namespace Go.AL.Rl
open Go Go.AL Go.Proofs
set_option maxRecDepth 100000
set_option maxHeartbeats 3200000
variable {γ : Nat → Option AV}

end Go.AL.Rl

namespace Go.AL.Rl
open Go Go.AL Go.Proofs
set_option maxRecDepth 100000
set_option maxHeartbeats 3200000
variable {γ : Nat → Option AV}

end Go.AL.Rl

namespace Go.AL.Rl
open Go Go.AL Go.Proofs
set_option maxRecDepth 100000
set_option maxHeartbeats 3200000
variable {γ : Nat → Option AV}

end Go.AL.Rl

namespace Go.AL.Rl
open Go Go.AL Go.Proofs
set_option maxRecDepth 100000
set_option maxHeartbeats 3200000
variable {γ : Nat → Option AV}

structure Mk where
  id : EId
  w : Bool
theorem Mk.ext' {a b : Mk} (h1 : a.id = b.id) (h2 : a.w = b.w) : a = b := by cases a; cases b; simp_all
instance : DecidableEq Mk := fun a b => decidable_of_iff (a.id = b.id ∧ a.w = b.w) ⟨fun h => Mk.ext' h.1 h.2, fun h => by subst h; exact ⟨rfl, rfl⟩⟩
abbrev mk0 : Mk := ⟨⟨0, 0⟩, false⟩
abbrev aMk (m : Mk) : AV := .agg [.i fun _ => m.id.t, .i fun _ => m.id.i, .b fun _ => m.w]
def mks (l : List Mk) : LV := LV.of (l.map aMk)
@[simp] theorem mks_len (l : List Mk) : (mks l).l.length = l.length := by simp [mks]
structure Sta where
  g : Gr
  ms : List Mk
  half : Int
def needM (d : EId) (k : Int) : List Mk := (if k = 2 then [] else [⟨d, false⟩]) ++ if k = 2 ∨ k = 3 then [⟨d, true⟩] else []
end Go.AL.Rl

namespace Go.AL.Rl
open Go Go.AL Go.Proofs
set_option maxRecDepth 100000
set_option maxHeartbeats 1600000

end Go.AL.Rl

namespace Go.AL
open Go Go.RowKit
section
variable {P : Program} {γ : Nat → Option AV} {C : EC} {CQ : List Blk → QC} {T : Nat → TI} {D : Array Oper → (St → Prop) → St → Prop} {W : Code → (Exit → St → Prop) → St → Prop}
theorem inBlk_mono {id : Nat} {Q Q' : Exit → St → Prop} (h : ∀ e A, Q e A → Q' e A) : ∀ e A, inBlk id Q e A → inBlk id Q' e A := by
  intro e A
  cases e with
  | exit id' => simp only [inBlk]; split <;> exact h _ _
  | _ => exact h _ _
/-- the last part of a block, and what stands behind it -/
theorem Env.blk (E : Env P γ C CQ T D W) {n id : Nat} {l r : List Code} {Q : Exit → St → Prop} {A : St} (h : vcl T γ C D W l (inBlk id (thenE (fun A => vcl T γ C D W r Q A) Q)) A) : AWPl P γ n l (inBlk id (thenE (fun A => AWPl P γ n r Q A) Q)) A :=
  (E.bl h).mono (inBlk_mono fun e A h' => by
    cases e with
    | normal => exact E.bl h'
    | _ => exact h')
end
end Go.AL
namespace Go.AL.Rl
open Go Go.AL Go.Proofs
set_option maxRecDepth 100000
set_option maxHeartbeats 3200000
variable {γ : Nat → Option AV}

abbrev gz : Gr := ⟨[], [], [], []⟩
end Go.AL.Rl

namespace Go.AL.Rl
open Go Go.AL Go.Proofs
set_option maxRecDepth 100000
set_option maxHeartbeats 3200000
variable {γ : Nat → Option AV}

/-- the last place of a mark among the first ones -/
def lastK (ms : List Mk) (d : Mk) : Nat → Option Nat
  | 0 => none
  | n + 1 => if ms.getD n mk0 = d then some n else lastK ms d n
def plK (ms : List Mk) (d : Mk) : Int := match lastK ms d ms.length with | some k => (k : Nat) | none => -1
/-- the last place, as long as they go up -/
def scanK (p : Mk → Int) (l : List Mk) : Option Int := l.foldl (fun s d => s.bind fun x => if x < p d then some (p d) else none) (some (-1))
def needE (t : Nat) (l : List Ev) (i : Nat) : List Mk := (List.range i).flatMap fun (j : Nat) => needM ⟨(t : Int) + 1, (j : Int)⟩ (l.getD j ev0).kind
def cntN (g : Gr) (t : Nat) : Nat := ((List.range t).map fun k => (needE k (g.th.getD k []) (g.th.getD k []).length).length).sum
def markedM (g : Gr) (ms : List Mk) : Bool := decide (∀ t < g.th.length, (scanK (plK ms) (needE t (g.th.getD t []) (g.th.getD t []).length)).isSome = true) && decide (cntN g g.th.length = ms.length)
end Go.AL.Rl

namespace Go.AL.Rl
open Go Go.AL Go.Proofs
set_option maxRecDepth 100000
set_option maxHeartbeats 3200000
variable {γ : Nat → Option AV}

end Go.AL.Rl

namespace Go.AL.Rl
open Go Go.AL Go.Proofs
set_option maxRecDepth 100000
set_option maxHeartbeats 3200000
variable {γ : Nat → Option AV}

end Go.AL.Rl

namespace Go.AL.Rl
open Go Go.AL Go.Proofs
set_option maxRecDepth 100000
set_option maxHeartbeats 3200000
variable {γ : Nat → Option AV}

def halfOk (s : Sta) : Bool := decide (0 ≤ s.half) && decide (s.half ≤ s.g.th.length) && (decide (s.half = 0) || (decide ((s.g.th.getD (s.half - 1).toNat []).length ≠ 0) && decide (((s.g.th.getD (s.half - 1).toNat []).getD ((s.g.th.getD (s.half - 1).toNat []).length - 1) ev0).kind = 1)))
def SOk (s : Sta) : Prop := GOk s.g ∧ markedM s.g s.ms = true ∧ halfOk s = true
instance (s : Sta) : Decidable (SOk s) := inferInstanceAs (Decidable (_ ∧ _))
end Go.AL.Rl

namespace Go.AL.Rl
open Go Go.AL Go.Proofs
set_option maxRecDepth 100000
set_option maxHeartbeats 3200000
variable {γ : Nat → Option AV}

abbrev sz : Sta := ⟨gz, [], 0⟩
end Go.AL.Rl

namespace Go.AL.Rl
open Go Go.AL Go.Proofs
set_option maxRecDepth 100000
set_option maxHeartbeats 3200000
variable {γ : Nat → Option AV}

end Go.AL.Rl

namespace Go.AL.Rl
open Go Go.AL Go.Proofs
set_option maxRecDepth 100000
set_option maxHeartbeats 3200000
variable {γ : Nat → Option AV}

end Go.AL.Rl

namespace Go.AL.Rl
open Go Go.AL Go.Proofs
set_option maxRecDepth 100000
set_option maxHeartbeats 3200000

def evT (g : Gr) (d : EId) : Prop := 1 ≤ d.t ∧ d.t ≤ g.th.length ∧ 0 ≤ d.i ∧ d.i < (g.th.getD (d.t - 1).toNat []).length
def ahead (g : Gr) (a d : EId) : Prop := (a.t = d.t ∧ a.i < d.i) ∨ (readsM ((eventM g d).getD ev0) = true ∧ srcOf g d = a)
def Dn (g : Gr) (l : List EId) : Prop := ∀ d ∈ l, ∀ a, evT g a → ahead g a d → a ∈ l
/-- what is closed: events of threads, none twice, with all ahead of them -/
def ClG (g : Gr) (l : List EId) : Prop := l.Nodup ∧ (∀ d ∈ l, evT g d) ∧ Dn g l
end Go.AL.Rl

namespace Go.AL.Rl
open Go Go.AL Go.Proofs
set_option maxRecDepth 100000
set_option maxHeartbeats 3200000

section
variable {g : Gr} {l : List EId} (hg : GOk g) (hC : ClG g l)
include hg hC
omit hg hC in
omit hg hC in
omit hg hC in
omit hg hC in
omit hg hC in
omit hg hC in
end
end Go.AL.Rl

namespace Go.AL.Rl
open Go Go.AL Go.Proofs
set_option maxRecDepth 100000
set_option maxHeartbeats 3200000

section
variable {g : Gr} {l : List EId} (hg : GOk g) (hC : ClG g l)
include hg hC
end
theorem Sta.ext' {a b : Sta} (h1 : a.g = b.g) (h2 : a.ms = b.ms) (h3 : a.half = b.half) : a = b := by cases a; cases b; simp_all
end Go.AL.Rl

namespace Go.AL.Rl
open Go Go.AL Go.Proofs
set_option maxRecDepth 100000
set_option maxHeartbeats 1600000
variable {γ : Nat → Option AV}

structure Ft where
  a : Int
  b : Int
  br : Bool
structure Bk where
  rule : Int
  a : Int
  b : Int
  br : Bool
end Go.AL.Rl

namespace Go.AL.Rl
open Go Go.AL Go.Proofs
set_option maxRecDepth 100000
set_option maxHeartbeats 1600000

def flC (c : Nat → Bool) (f : Nat → List (Int × Int)) (k : Nat) : List (Int × Int) := (List.range k).flatMap fun i => if c i = true then f i else []
def crM (V : Vw) (w r : Nat) : Bool := relM (V.ev.getD r ev0) && (decide (r = w) || fenceM (V.ev.getD r ev0) && poM V r w)
def caM (V : Vw) (b a : Nat) : Bool := acqM (V.ev.getD a ev0) && (decide (a = b) || fenceM (V.ev.getD a ev0) && poM V b a)
def lA (V : Vw) (b r a : Nat) : List (Int × Int) := flC (caM V b) (fun a => [((r : Int), (a : Int))]) a
def lR (V : Vw) (n w b r : Nat) : List (Int × Int) := flC (crM V w) (fun r => lA V b r n) r
noncomputable def lB (V : Vw) (n w b : Nat) : List (Int × Int) := flC (rdrM V (seqM V n w)) (fun b => lR V n w b n) b
theorem rowT_bit (V : Vw) (n r a : Nat) : ∀ w, (rowT V n w r).getLsbD a = true ↔ ∃ v < w, swR V v r = true ∧ (tgtM V n v).getLsbD a = true
  | 0 => by simp [rowT]
  | w + 1 => by
    have ih := rowT_bit V n r a w
    unfold rowT
    constructor
    · intro h
      split at h
      · rw [BitVec.getLsbD_or, Bool.or_eq_true] at h
        rcases h with h | h
        · obtain ⟨v, hv, h1, h2⟩ := ih.1 h; exact ⟨v, by omega, h1, h2⟩
        · exact ⟨w, by omega, by assumption, h⟩
      · obtain ⟨v, hv, h1, h2⟩ := ih.1 h; exact ⟨v, by omega, h1, h2⟩
    · rintro ⟨v, hv, h1, h2⟩
      by_cases hvw : v = w
      · subst hvw
        rw [if_pos h1, BitVec.getLsbD_or, h2, Bool.or_true]
      · have h3 := ih.2 ⟨v, by omega, h1, h2⟩
        split
        · rw [BitVec.getLsbD_or, h3]; rfl
        · exact h3
theorem ne0_bit (x : BitVec 64) : x ≠ 0#64 ↔ ∃ j, x.getLsbD j = true := by
  constructor
  · intro h
    refine Classical.byContradiction fun hc => h (BitVec.eq_of_getLsbD_eq fun i hi => ?_)
    cases hx : x.getLsbD i with
    | true => exact absurd ⟨i, hx⟩ hc
    | false => simp
  · rintro ⟨j, hj⟩ h
    subst h; simp at hj
theorem tgt_bit (V : Vw) (n w a : Nat) (hn : n ≤ 62) : (tgtM V n w).getLsbD a = true ↔ a < n ∧ ∃ b < n, rdrM V (seqM V n w) b = true ∧ caM V b a = true := by
  unfold tgtM
  rw [mask_bit _ _ (by omega)]
  simp only [Bool.and_eq_true, decide_eq_true_eq, behM, Bool.or_eq_true, ne0_bit, BitVec.getLsbD_and, mask_bit _ _ (show n ≤ 64 by omega), caM]
  constructor
  · rintro ⟨h1, h2, ⟨h3, h4⟩ | ⟨h3, j, ⟨h4, h5⟩, h6, h7⟩⟩
    · exact ⟨h1, a, h3, h4, h2, .inl rfl⟩
    · exact ⟨h1, j, h4, h5, h2, .inr ⟨h3, h7⟩⟩
  · rintro ⟨h1, b, h2, h3, h4, h5 | ⟨h5, h6⟩⟩
    · subst h5; exact ⟨h1, h4, .inl ⟨h2, h3⟩⟩
    · exact ⟨h1, h4, .inr ⟨h5, b, ⟨h2, h3⟩, h2, h6⟩⟩
end Go.AL.Rl

namespace Go.AL.Rl
open Go Go.AL Go.Proofs
set_option maxRecDepth 100000
set_option maxHeartbeats 3200000

structure Emb (V U : Vw) (n m : Nat) (f : Nat → Nat) : Prop where
  lt : ∀ i < n, f i < m
  inj : ∀ i < n, ∀ j < n, f i = f j → i = j
  ids : ∀ i < n, U.ids.getD (f i) id0 = V.ids.getD i id0
  ev : ∀ i < n, U.ev.getD (f i) ev0 = V.ev.getD i ev0
  fr : ∀ i < n, ∀ j < n, V.fr.getD i 0 = (j : Nat) → U.fr.getD (f i) 0 = (f j : Nat)
  pl : ∀ i < n, ∀ j < n, nearM V i j = true → 0 ≤ V.pl.getD i 0 → V.pl.getD i 0 < V.pl.getD j 0 → 0 ≤ U.pl.getD (f i) 0 ∧ U.pl.getD (f i) 0 < U.pl.getD (f j) 0
  upd : ∀ i < n, (V.ev.getD i ev0).kind = 3 → U.pl.getD (f i) 0 = U.pl.getD (U.fr.getD (f i) 0).toNat 0 + 1 → V.pl.getD i 0 = V.pl.getD (V.fr.getD i 0).toNat 0 + 1
theorem sw_iffE {V : Vw} {n : Nat} (hn : n ≤ 62) {r a : Nat} : bit (swF V n) r a = true ↔ r < n ∧ a < n ∧ ∃ w < n, swR V w r = true ∧ ∃ b < n, rdrM V (seqM V n w) b = true ∧ caM V b a = true := by
  unfold swF
  rw [bit_rel (by omega)]
  simp only [Bool.and_eq_true, decide_eq_true_eq]
  refine and_congr_right fun hr => and_congr_right fun ha => ?_
  have e : bit (swRows V n) r a = (rowT V n n r).getLsbD a := by unfold bit swRows; rw [tab_get n _ r hr]
  rw [e, rowT_bit]
  constructor
  · rintro ⟨w, hw, h1, h2⟩
    rw [tgt_bit V n w a hn] at h2
    exact ⟨w, hw, h1, h2.2⟩
  · rintro ⟨w, hw, h1, h2⟩
    exact ⟨w, hw, h1, (tgt_bit V n w a hn).2 ⟨ha, h2⟩⟩
theorem hb_fits (V : Vw) {n : Nat} (h : n ≤ 62) : Fits n (hbF V n) := fits_plus (fits_or2 (fits_poF V h) (fits_swF V h))
section
variable {V U : Vw} {n m : Nat} {f : Nat → Nat} (E : Emb V U n m f) (hV : Wf V n) (hU : Wf U m)
include E
include hV
include hU
omit E hV hU in
omit E hV in
end
end Go.AL.Rl

namespace Go.AL
open Go Go.RowKit
section
variable {P : Program} {γ : Nat → Option AV}

theorem HeapR.grow {B : Nat} {S : Nat → Prop} {ρ : List Loc} {h : List Blk} {w : World} (hh : HeapR B S γ ρ h w) (K : Nat) (hK : K < w.heap.size) (hB : B ≤ K) (hno : ∀ (b : Nat) (loc : Loc), ρ[b]? = some loc → ¬ loc.has K) :
    HeapR B (fun k => S k ∨ k = K) γ ρ h w ∧ Ext B S ρ w (fun k => S k ∨ k = K) ρ w := by
  refine ⟨⟨hh.len, fun b blk loc h1 h2 => (hh.blk b blk loc h1 h2).mono (fun k hk => .inl hk) (fun _ _ => rfl) (LocsUp.refl ρ) fun _ _ => rfl, fun b loc k h1 h2 => ?_, hh.inj, fun k hk => ?_, fun g x hg => ?_, hh.bsz, hh.sok⟩,
    Fr.refl w, fun _ _ => rfl, fun k hk => .inl hk, fun _ _ => rfl, LocsUp.refl ρ, fun k hk => ?_⟩
  · obtain ⟨k1, k2, k3⟩ := hh.own b loc k h1 h2
    refine ⟨fun hs => ?_, k2, k3⟩
    rcases hs with hs | hs
    · exact k1 hs
    · exact hno b loc h1 (by rw [← hs]; exact h2)
  · rcases hk with hk | hk
    · exact hh.sle k hk
    · rw [hk]; exact hK
  · exact R.mono (S := S) (fun k hk => .inl hk) (fun _ _ => rfl) (ρ := none) (ρ' := none) trivial _ _ (hh.gok g x hg)
  · rcases hk with hk | hk
    · exact .inl hk
    · rw [hk]; exact .inr hB
end
end Go.AL

namespace Go.AL
open Go Go.RowKit
section
variable {P : Program} {γ : Nat → Option AV} {τ : Nat → TI} {C : EC}

end
section
variable {P : Program} {γ : Nat → Option AV}
end
end Go.AL

namespace Go.AL
open Go Go.RowKit
section
variable {P : Program} {γ : Nat → Option AV}

theorem AWPr.step {n : Nat} {c : Code} {Q : Exit → St → Prop} {A A' : St} (hs : Step γ A A') (h : AWPr P γ n c Q A') : AWPr P γ n c Q A := fun B S ρ a w h0 => by
  obtain ⟨S', ρ', h1, h2⟩ := hs B S ρ a w h0
  exact wp_mono (h B S' ρ' a w h1) fun e a' w' ⟨S'', ρ'', A'', q1, q2, q3⟩ => ⟨S'', ρ'', A'', q1, q2, h2.takeL.transR q3⟩
theorem AWPl.step {n : Nat} {l : List Code} {Q : Exit → St → Prop} {A A' : St} (hs : Step γ A A') (hl : l.isEmpty = false) (h : AWPl P γ n l Q A') : AWPl P γ n l Q A := by
  cases l with
  | nil => cases hl
  | cons c r => exact AWPr.step hs h
section
variable {C : EC} {CQ : List Blk → QC} {T : Nat → TI} {D : Array Oper → (St → Prop) → St → Prop} {W : Code → (Exit → St → Prop) → St → Prop}
/-- to stop behind the first 'k' items -/
theorem Env.at (E : Env P γ C CQ T D W) {n : Nat} {l : List Code} {Q : Exit → St → Prop} {A : St} (k : Nat)
    (h : ∀ I : St → Prop, (∀ {A'}, AWPl P γ n (l.drop k) Q A' → I A') → vcl T γ C D W (l.take k) (thenE I Q) A) : AWPl P γ n l Q A := by
  rw [← List.take_append_drop k l]
  exact AWPl.app ((E.bl (h (fun A' => AWPl P γ n (l.drop k) Q A') fun hl => hl)).mono fun e A' h => by cases e <;> exact h)
end

theorem Step.heap {A : St} {h' : List Blk} (hr : ∀ B S ρ w, HeapR B S γ ρ A.h w → ∃ S' ρ', HeapR B S' γ ρ' h' w ∧ Ext B S ρ w S' ρ' w) : Step γ A ⟨A.n, A.s, h'⟩ := fun B S ρ a w hs => by
  obtain ⟨S', ρ', h1, h2⟩ := hr B S ρ w hs.heap
  exact ⟨S', ρ', hs.ext h2 h1, h2⟩

theorem HeapR.adopt {B : Nat} {S : Nat → Prop} {ρ : List Loc} {h : List Blk} {w : World} (hh : HeapR B S γ ρ h w) (loc : Loc) (blk : Blk) (hsub : loc.sub = [])
    (hk : ∀ K, loc.k = some K → ¬ S K ∧ K < w.heap.size ∧ B ≤ K ∧ ∀ (b : Nat) (l : Loc), ρ[b]? = some l → ¬ l.has K) (hb : BlkR S w (ρ ++ [loc]) loc blk) :
    HeapR B S γ (ρ ++ [loc]) (h ++ [blk]) w ∧ Ext B S ρ w S (ρ ++ [loc]) w := by
  have hup := LocsUp.append ρ [loc]
  have key : ∀ (b : Nat) (lc : Loc), (ρ ++ [loc])[b]? = some lc → (b < ρ.length ∧ ρ[b]? = some lc) ∨ (b = ρ.length ∧ lc = loc) := by
    intro b lc h1
    by_cases hlt : b < ρ.length
    · rw [List.getElem?_append_left hlt] at h1; exact .inl ⟨hlt, h1⟩
    · rw [List.getElem?_append_right (by omega)] at h1
      have e1 : b - ρ.length = 0 := by
        have := (List.getElem?_eq_some_iff.1 h1).1; simp at this; omega
      rw [e1] at h1; simp at h1; exact .inr ⟨by omega, h1.symm⟩
  refine ⟨⟨by simp [hh.len], fun b bk lc h1 h2 => ?_, fun b lc K h1 h2 => ?_, fun b b' lc lc' K h1 h2 h3 h4 => ?_, hh.sle, hh.gok, hh.bsz, fun b lc h1 => ?_⟩, Fr.refl w, fun _ _ => rfl, fun _ h => h, fun _ _ => rfl, hup, fun _ h => .inl h⟩
  · rcases key b lc h2 with ⟨a1, a2⟩ | ⟨a1, rfl⟩
    · rw [List.getElem?_append_left (by rw [← hh.len]; exact a1)] at h1
      exact (hh.blk b bk lc h1 a2).mono (fun _ h => h) (fun _ _ => rfl) hup fun _ _ => rfl
    · rw [a1, hh.len] at h1
      simp at h1; subst h1; exact hb
  · rcases key b lc h1 with ⟨a1, a2⟩ | ⟨a1, rfl⟩
    · exact hh.own b lc K a2 h2
    · obtain ⟨k1, k2, k3, _⟩ := hk K (Loc.has_nil hsub h2)
      exact ⟨k1, k2, k3⟩
  · rcases key b lc h1 with ⟨a1, a2⟩ | ⟨a1, rfl⟩
    · rcases key b' lc' h2 with ⟨c1, c2⟩ | ⟨c1, rfl⟩
      · exact hh.inj b b' lc lc' K a2 c2 h3 h4
      · exact absurd h3 ((hk K (Loc.has_nil hsub h4)).2.2.2 b lc a2)
    · rcases key b' lc' h2 with ⟨c1, c2⟩ | ⟨c1, rfl⟩
      · exact absurd h4 ((hk K (Loc.has_nil hsub h3)).2.2.2 b' lc' c2)
      · omega
  · rcases key b lc h1 with ⟨a1, a2⟩ | ⟨a1, rfl⟩
    · exact hh.sok b lc a2
    · exact .nil hsub
/-- what was one block's is the other's -/
theorem HeapR.move {B : Nat} {S : Nat → Prop} {ρ : List Loc} {h : List Blk} {w : World} (hh : HeapR B S γ ρ h w) {b b2 : Nat} {loc loc2 loc' loc2' : Loc} {blk' : Blk} (hne : b ≠ b2) (hb : ρ[b]? = some loc) (hb2 : ρ[b2]? = some loc2)
    (hup : loc.up loc') (hup2 : loc2.up loc2') (hk : ∀ K, loc'.has K → loc.has K ∨ loc2.has K) (hk2 : ∀ K, ¬ loc2'.has K) (hsok : loc'.SubOk) (hsub2 : loc2'.sub = [])
    (hblk : BlkR S w ((ρ.set b loc').set b2 loc2') loc' blk') : HeapR B S γ ((ρ.set b loc').set b2 loc2') ((h.set b blk').set b2 .any) w ∧ Ext B S ρ w S ((ρ.set b loc').set b2 loc2') w := by
  have hblt : b < ρ.length := (List.getElem?_eq_some_iff.1 hb).1
  have hblt2 : b2 < ρ.length := (List.getElem?_eq_some_iff.1 hb2).1
  have key : ∀ (i : Nat) (l : Loc), ((ρ.set b loc').set b2 loc2')[i]? = some l → (i = b ∧ l = loc') ∨ (i = b2 ∧ l = loc2') ∨ (i ≠ b ∧ i ≠ b2 ∧ ρ[i]? = some l) := by
    intro i l hl
    by_cases e2 : b2 = i
    · subst e2; simp [hblt2] at hl; exact .inr (.inl ⟨rfl, hl.symm⟩)
    · rw [List.getElem?_set_ne e2] at hl
      by_cases e : b = i
      · subst e; simp [hblt] at hl; exact .inl ⟨rfl, hl.symm⟩
      · rw [List.getElem?_set_ne e] at hl; exact .inr (.inr ⟨fun h => e h.symm, fun h => e2 h.symm, hl⟩)
  have hlocs : LocsUp ρ ((ρ.set b loc').set b2 loc2') := by
    intro i l hl
    by_cases e2 : b2 = i
    · subst e2; rw [hb2] at hl; cases hl
      exact ⟨loc2', by simp [hblt2], hup2⟩
    · by_cases e : b = i
      · subst e; rw [hb] at hl; cases hl
        exact ⟨loc', by rw [List.getElem?_set_ne e2]; simp [hblt], hup⟩
      · exact ⟨l, by rw [List.getElem?_set_ne e2, List.getElem?_set_ne e]; exact hl, l.up_refl⟩
  refine ⟨⟨by simp [hh.len], fun i bk l h1 h2 => ?_, fun i l K h1 h2 => ?_, fun i j l l' K h1 h2 h3 h4 => ?_, hh.sle, hh.gok, hh.bsz, fun i l h1 => ?_⟩, Fr.refl w, fun _ _ => rfl, fun _ h => h, fun _ _ => rfl, hlocs, fun _ h => .inl h⟩
  · rcases key i l h2 with ⟨rfl, rfl⟩ | ⟨rfl, rfl⟩ | ⟨n1, n2, h2⟩
    · rw [List.getElem?_set_ne (fun e => hne e.symm)] at h1
      have : i < h.length := by rw [← hh.len]; exact hblt
      simp [this] at h1; subst h1; exact hblk
    · have : i < (h.set b blk').length := by rw [List.length_set, ← hh.len]; exact hblt2
      rw [List.getElem?_set_self this] at h1; cases h1; trivial
    · rw [List.getElem?_set_ne (fun e => n2 e.symm), List.getElem?_set_ne (fun e => n1 e.symm)] at h1
      exact (hh.blk i bk l h1 h2).mono (fun _ h => h) (fun _ _ => rfl) hlocs fun _ _ => rfl
  · rcases key i l h1 with ⟨rfl, rfl⟩ | ⟨rfl, rfl⟩ | ⟨n1, n2, h1⟩
    · rcases hk K h2 with e | e
      · exact hh.own i loc K hb e
      · exact hh.own b2 loc2 K hb2 e
    · exact absurd h2 (hk2 K)
    · exact hh.own i l K h1 h2
  · have none2 : ∀ (i : Nat) (l : Loc), i ≠ b → i ≠ b2 → ρ[i]? = some l → l.has K → ¬ loc'.has K := fun i l n1 n2 g1 g2 g3 => by
      rcases hk K g3 with e | e
      · exact n1 (hh.inj i b l loc K g1 hb g2 e)
      · exact n2 (hh.inj i b2 l loc2 K g1 hb2 g2 e)
    rcases key i l h1 with ⟨rfl, rfl⟩ | ⟨rfl, rfl⟩ | ⟨n1, n2, g1⟩
    · rcases key j l' h2 with ⟨rfl, rfl⟩ | ⟨rfl, rfl⟩ | ⟨m1, m2, g2⟩
      · rfl
      · exact absurd h4 (hk2 K)
      · exact absurd h3 (none2 j l' m1 m2 g2 h4)
    · exact absurd h3 (hk2 K)
    · rcases key j l' h2 with ⟨rfl, rfl⟩ | ⟨rfl, rfl⟩ | ⟨m1, m2, g2⟩
      · exact absurd h4 (none2 i l n1 n2 g1 h3)
      · exact absurd h4 (hk2 K)
      · exact hh.inj i j l l' K g1 g2 h3 h4
  · rcases key i l h1 with ⟨rfl, rfl⟩ | ⟨rfl, rfl⟩ | ⟨_, _, g1⟩
    · exact hsok
    · exact .nil hsub2
    · exact hh.sok i l g1
theorem Loc.SubOk.set {l l' : Loc} (h : l.SubOk) {i : Nat} (hs : l'.sub = l.sub.set i none) (hk : l'.k = l.k) : l'.SubOk where
  out := fun K hK => by
    rw [hs] at hK
    rw [hk]
    rcases List.mem_or_eq_of_mem_set hK with hK | hK
    · exact h.out K hK
    · cases hK
  one := fun a c K ha hc => by
    have key : ∀ a, l'.sub[a]? = some (some K) → l.sub[a]? = some (some K) := fun a ha => by
      rw [hs, List.getElem?_set] at ha
      split at ha
      · split at ha <;> cases ha
      · exact ha
    exact h.one a c K (key a ha) (key c hc)
theorem Loc.has_set {l l' : Loc} {i K : Nat} (hs : l'.sub = l.sub.set i none) (hk : l'.k = l.k) (h : l'.has K) : l.has K := by
  rcases h with h | h
  · exact .inl (by rw [← hk]; exact h)
  · rw [hs] at h
    rcases List.mem_or_eq_of_mem_set h with h | h
    · exact .inr h
    · cases h
theorem HeapR.drop {B : Nat} {S : Nat → Prop} {ρ : List Loc} {h : List Blk} {w : World} (hh : HeapR B S γ ρ h w) {b g q : Nat} {ess : Unit → List LV} (hb : h[b]? = some (.nest g q ess none)) (i : Unit → Nat) {loc : Loc} (hl : ρ[b]? = some loc) :
    HeapR B S γ (ρ.set b { loc with sub := loc.sub.set (i ()) none }) (h.set b (.nest g q ess (some (i, .any)))) w ∧ Ext B S ρ w S (ρ.set b { loc with sub := loc.sub.set (i ()) none }) w := by
  obtain ⟨d1, d2, d3, evs, d4, d5, d6, d7⟩ := hh.blk b _ loc hb hl
  refine hh.updS (loc' := { loc with sub := loc.sub.set (i ()) none }) hl (.inl ⟨_, rfl⟩) (fun K hK => .inl (Loc.has_set (l := loc) (l' := { loc with sub := loc.sub.set (i ()) none }) rfl rfl hK)) (Fr.refl w) (fun _ _ _ => rfl) ⟨d1, d2, d3, evs, d4, d5, by simp [d6], fun p es v s g1 g2 g3 => ?_⟩ ((hh.sok b loc hl).set rfl rfl)
  have hpl : p < loc.sub.length := by have := (List.getElem?_eq_some_iff.1 g2).1; omega
  have hold : InR S w q es v loc.sub[p] := d7 p es v _ g1 g2 (List.getElem?_eq_getElem hpl)
  have g3 : (loc.sub.set (i ()) none)[p]? = some s := g3
  rw [List.getElem?_set] at g3
  split at g3
  · rename_i e
    rw [if_pos (by omega)] at g3
    cases g3
    obtain ⟨a, cap, ievs, rfl, _⟩ := hold
    exact .inl ⟨e.symm, rfl, trivial, rfl⟩
  · rename_i e
    rw [List.getElem?_eq_getElem hpl] at g3
    cases g3
    exact .inr ⟨fun h => e h.symm, hold⟩
theorem Step.drop {A : St} (b : Nat) {g q : Nat} {ess : Unit → List LV} (hb : A.h[b]? = some (.nest g q ess none)) (i : Unit → Nat) : Step γ A ⟨A.n, A.s, A.h.set b (.nest g q ess (some (i, .any)))⟩ :=
  Step.heap fun B S ρ w hh => by
    have hlt : b < ρ.length := by rw [hh.len]; exact (List.getElem?_eq_some_iff.1 hb).1
    have := hh.drop hb i (List.getElem?_eq_getElem hlt)
    exact ⟨_, _, this.1, this.2⟩
theorem Step.take {A : St} (b : Nat) {g q : Nat} {ess : Unit → List LV} (hb : A.h[b]? = some (.nest g q ess none)) (i : Unit → Nat) (hi : ∀ _ : Unit, i () < (ess ()).length) :
    Step γ A ⟨A.n, A.s, (A.h.set b (.nest g q ess (some (i, .sl A.h.length 0 q (fun _ => 0) fun _ => ((ess ()).getD (i ()) .nil).l.length)))) ++ [.run 0 q fun _ => (ess ()).getD (i ()) .nil]⟩ :=
  Step.heap fun B S ρ w hh => by
    have hlt : b < ρ.length := by rw [hh.len]; exact (List.getElem?_eq_some_iff.1 hb).1
    obtain ⟨loc, hl⟩ : ∃ loc, ρ[b]? = some loc := ⟨_, List.getElem?_eq_getElem hlt⟩
    obtain ⟨d1, d2, d3, evs, d4, d5, d6, d7⟩ := hh.blk b _ loc hb hl
    have hi := hi ()
    obtain ⟨p1, p2⟩ := hh.drop hb i hl
    have hie : (ess ())[i ()]? = some ((ess ()).getD (i ()) .nil) := by rw [List.getD_eq_getElem?_getD, List.getElem?_eq_getElem hi]; rfl
    have hve : evs[i ()]? = some evs[i ()] := List.getElem?_eq_getElem (by omega)
    have hse : loc.sub[i ()]? = some loc.sub[i ()] := List.getElem?_eq_getElem (by omega)
    have hin : InR S w q ((ess ()).getD (i ()) .nil) evs[i ()] loc.sub[i ()] := d7 _ _ _ _ hie hve hse
    generalize hes : (ess ()).getD (i ()) .nil = es at hin hie
    generalize hv : evs[i ()]'(by omega) = v at hin hve
    generalize hs : loc.sub[i ()]'(by omega) = s at hin hse
    obtain ⟨a, cap, ievs, rfl, c2, c3, c4, c5, c6⟩ := hin
    have hil : ievs.length = es.l.length := Rs_len ((RL_iff _ _ _ _).1 c4)
    -- the run that comes
    obtain ⟨l2, hl2, hbl, hr⟩ : ∃ l2 : Loc, (l2.sub = [] ∧ l2.k = s ∧ l2.box = false ∧ l2.g = 0 ∧ l2.e = q) ∧ (∀ ρ2, BlkR S w ρ2 l2 (.run 0 q fun _ => es)) ∧
        (∀ ρ2 : List Loc, R S w (some (ρ2 ++ [l2])) (.sl ρ2.length 0 q (fun _ => 0) fun _ => es.l.length) (.slice a ievs.length cap)) := by
      rcases c6 with ⟨rfl, c6⟩ | ⟨K, c, ty, rfl, r2, r3, r4, r5⟩
      · have : ievs = [] := List.eq_nil_of_length_eq_zero (by omega)
        subst this
        exact ⟨⟨false, 0, none, q, 0, []⟩, ⟨rfl, rfl, rfl, rfl, rfl⟩, fun ρ2 => ⟨rfl, rfl, rfl, [], c4, fun e he => (by cases he), .inl ⟨rfl, rfl⟩⟩,
          fun ρ2 => ⟨_, _, a, cap, rfl, getElem?_concat _ _, rfl, rfl, Nat.le_refl _, by rw [← hil], by rw [← hil]; exact c2, c3, fun _ => .inl ⟨rfl, c6, rfl⟩⟩⟩
      · exact ⟨⟨false, 0, some K, q, c.size, []⟩, ⟨rfl, rfl, rfl, rfl, rfl⟩, fun ρ2 => ⟨rfl, rfl, rfl, ievs, c4, c5, .inr ⟨K, c, ty, rfl, r4, rfl, Nat.le_trans (Nat.mul_le_mul_right _ c2) r3, r5⟩⟩,
          fun ρ2 => ⟨_, _, a, cap, rfl, getElem?_concat _ _, rfl, rfl, Nat.le_refl _, by rw [← hil], by rw [← hil]; exact c2, c3, fun _ => .inr ⟨K, rfl, by simpa using r2, by simpa using r3⟩⟩⟩
    obtain ⟨m1, m2, m3, m4, m5⟩ := hl2
    obtain ⟨q1, q2⟩ := p1.adopt l2 (.run 0 q fun _ => es) m1 (fun K hK => by
      rw [m2] at hK
      obtain ⟨k1, k2, k3⟩ := hh.own b loc K hl (.inr (by rw [← hK, ← hs]; exact List.getElem_mem _))
      refine ⟨k1, k2, k3, fun b' l' hb' hK' => ?_⟩
      by_cases e : b = b'
      · subst e
        rw [List.getElem?_set_self hlt] at hb'; cases hb'
        rcases hK' with hK' | hK'
        · exact (hh.sok b loc hl).out K (by rw [← hK]; exact List.mem_of_getElem? hse) hK'
        · obtain ⟨j, hj, hj2⟩ := List.getElem_of_mem hK'
          have hj3 : (loc.sub.set (i ()) none)[j]? = some (some K) := by rw [← hj2]; exact List.getElem?_eq_getElem hj
          rw [List.getElem?_set] at hj3
          split at hj3
          · split at hj3 <;> cases hj3
          · rename_i ne
            exact ne ((hh.sok b loc hl).one j (i ()) K hj3 (by rw [hse, hK])).symm
      · rw [List.getElem?_set_ne e] at hb'
        exact e (hh.inj b b' loc l' K hl hb' (.inr (by rw [← hK]; exact List.mem_of_getElem? hse)) hK')) (hbl _)
    have hρ : (ρ.set b { loc with sub := loc.sub.set (i ()) none }).length = A.h.length := by rw [List.length_set, hh.len]
    have hT := q1.retell b (.nest g q ess (some (i, .sl A.h.length 0 q (fun _ => 0) fun _ => ((ess ()).getD (i ()) .nil).l.length))) fun loc3 h3 => by
      rw [List.getElem?_append_left (by rw [List.length_set]; exact hlt), List.getElem?_set_self hlt] at h3
      cases h3
      refine ⟨d1, d2, d3, evs, d4, d5, by simp [d6], fun p es' v' s' g1 g2 g3 => ?_⟩
      have hpl : p < loc.sub.length := by have := (List.getElem?_eq_some_iff.1 g2).1; omega
      have hold : InR S w q es' v' loc.sub[p] := d7 p es' v' _ g1 g2 (List.getElem?_eq_getElem hpl)
      have g3 : (loc.sub.set (i ()) none)[p]? = some s' := g3
      rw [List.getElem?_set] at g3
      split at g3
      · rename_i e
        rw [if_pos (by omega)] at g3
        cases g3
        rw [← e, hve] at g2
        cases g2
        refine .inl ⟨e.symm, rfl, ?_, rfl⟩
        have := hr (ρ.set b { loc with sub := loc.sub.set (i ()) none })
        rw [hρ] at this
        simp only [hes]
        exact this
      · rename_i e
        rw [List.getElem?_eq_getElem hpl] at g3
        cases g3
        exact .inr ⟨fun h => e h.symm, hold⟩
    refine ⟨S, _, ?_, p2.trans q2⟩
    rw [List.set_append_left _ _ (by rw [List.length_set]; exact (List.getElem?_eq_some_iff.1 hb).1), List.set_set] at hT
    simp only [hes] at hT
    exact hT
end
end Go.AL

namespace Go.AL
open Go Go.RowKit
section
variable {P : Program} {γ : Nat → Option AV}

theorem Step.put {A : St} (b b2 : Nat) {g q g2 g3 : Nat} {ess : Unit → List LV} {i off len : Unit → Nat} {es : Unit → LV} (hb : A.h[b]? = some (.nest g q ess (some (i, .sl b2 g2 q off len)))) (hb2 : A.h[b2]? = some (.run g3 q es))
    (hc : ∀ _ : Unit, g3 = g2 ∧ off () = 0 ∧ len () = (es ()).l.length) :
    Step γ A ⟨A.n, A.s, (A.h.set b (.nest g q (fun _ => (ess ()).set (i ()) (es ())) none)).set b2 .any⟩ :=
  Step.heap fun B S ρ w hh => by
    obtain ⟨rfl, c0, c1⟩ := hc ()
    have hne : b ≠ b2 := fun e => by subst e; rw [hb] at hb2; cases hb2
    have hlt : b < ρ.length := by rw [hh.len]; exact (List.getElem?_eq_some_iff.1 hb).1
    have hlt2 : b2 < ρ.length := by rw [hh.len]; exact (List.getElem?_eq_some_iff.1 hb2).1
    obtain ⟨loc, hl⟩ : ∃ loc, ρ[b]? = some loc := ⟨_, List.getElem?_eq_getElem hlt⟩
    obtain ⟨loc2, hl2⟩ : ∃ loc, ρ[b2]? = some loc := ⟨_, List.getElem?_eq_getElem hlt2⟩
    obtain ⟨d1, d2, d3, evs, d4, d5, d6, d7⟩ := hh.blk b _ loc hb hl
    obtain ⟨f1, f2, f3, ievs, f4, f5, f6⟩ := hh.blk b2 _ loc2 hb2 hl2
    have hil : ievs.length = (es ()).l.length := Rs_len ((RL_iff _ _ _ _).1 f4)
    have hk2 : ∀ K, some K ∈ (loc.sub.set (i ()) loc2.k) → some K ∈ loc.sub ∨ loc2.k = some K := fun K hK => by
      rcases List.mem_or_eq_of_mem_set hK with hK | hK
      · exact .inl hK
      · exact .inr hK.symm
    have hsi : ∀ s, loc.sub[i ()]? = some s → s = none := fun s hs => by
      have hil' : i () < loc.sub.length := (List.getElem?_eq_some_iff.1 hs).1
      rcases d7 (i ()) _ _ s (List.getElem?_eq_getElem (by omega)) (List.getElem?_eq_getElem (by omega)) hs with ⟨_, h, _⟩ | ⟨h, _⟩
      · exact h
      · exact absurd rfl h
    have hsub : ∀ K, loc2.k = some K → ¬ some K ∈ loc.sub ∧ loc.k ≠ some K := fun K hK => ⟨fun h => hne (hh.inj b b2 loc loc2 K hl hl2 (.inr h) (.inl hK)), fun h => hne (hh.inj b b2 loc loc2 K hl hl2 (.inl h) (.inl hK))⟩
    have hm := hh.move (loc' := { loc with sub := loc.sub.set (i ()) loc2.k }) (loc2' := { loc2 with g := g3 + 1, k := none, size := 0, sub := [] }) (blk' := .nest g q (fun _ => (ess ()).set (i ()) (es ())) none) hne hl hl2 (.inl ⟨_, rfl⟩)
      (.inr (.inl ⟨f1, f1, by show loc2.g < g3 + 1; omega, rfl⟩))
      (fun K hK => by
        rcases hK with hK | hK
        · exact .inl (.inl hK)
        · rcases hk2 K hK with h | h
          · exact .inl (.inr h)
          · exact .inr (.inl h))
      (fun K hK => by rcases hK with hK | hK <;> first | (cases hK; done) | exact absurd hK (by simp))
      ⟨fun K hK hk => by
        rcases hk2 K hK with h | h
        · exact (hh.sok b loc hl).out K h hk
        · exact (hsub K h).2 hk, fun x y K hx hy => by
        have key : ∀ x, (loc.sub.set (i ()) loc2.k)[x]? = some (some K) → (x = i () ∧ loc2.k = some K) ∨ (x ≠ i () ∧ loc.sub[x]? = some (some K)) := fun x hx => by
          rw [List.getElem?_set] at hx
          split at hx
          · rename_i e
            split at hx
            · left; exact ⟨e.symm, by simpa using hx⟩
            · cases hx
          · rename_i e; exact .inr ⟨fun h => e h.symm, hx⟩
        rcases key x hx with ⟨x1, x2⟩ | ⟨x1, x2⟩ <;> rcases key y hy with ⟨y1, y2⟩ | ⟨y1, y2⟩
        · omega
        · exact absurd (List.mem_of_getElem? y2) (hsub K x2).1
        · exact absurd (List.mem_of_getElem? x2) (hsub K y2).1
        · exact (hh.sok b loc hl).one x y K x2 y2⟩ rfl
      ⟨d1, d2, d3, evs, d4, by simp [d5], by simp [d6], fun p es' v s g1 g2 g4 => by
        have hpl : p < evs.length := (List.getElem?_eq_some_iff.1 g2).1
        by_cases hp : p = i ()
        · subst hp
          have g1 : ((ess ()).set (i ()) (es ()))[i ()]? = some es' := g1
          rw [List.getElem?_set_self (by omega)] at g1
          cases g1
          have g4 : (loc.sub.set (i ()) loc2.k)[i ()]? = some s := g4
          rw [List.getElem?_set_self (by omega)] at g4
          cases g4
          rcases d7 (i ()) _ _ _ (List.getElem?_eq_getElem (by omega)) g2 (List.getElem?_eq_getElem (by omega)) with ⟨_, _, hr, _⟩ | ⟨h, _⟩
          · obtain ⟨l, lc, a, cap, e0, q1, q2, q3, q4, rfl, q6, q7, q8⟩ := hr
            cases e0
            rw [hl2] at q1; cases q1
            refine ⟨a, cap, ievs, by rw [c1, hil], by omega, q7, f4, f5, ?_⟩
            rcases q8 f2 with ⟨r1, r2, _⟩ | ⟨K, r1, r2, r3⟩
            · exact .inl ⟨r1, r2⟩
            · rcases f6 with ⟨e1, _⟩ | ⟨K', c, ty, e1, e2, e3, e4, e5⟩
              · rw [r1] at e1; cases e1
              · rw [r1] at e1; cases e1
                rw [c0, Nat.zero_mul] at r2
                rw [c0, Nat.zero_add, f3] at r3
                rw [f3] at e5
                exact .inr ⟨K, c, ty, r1, r2, by omega, e2, e5⟩
          · exact absurd rfl h
        · have g1 : ((ess ()).set (i ()) (es ()))[p]? = some es' := g1
          rw [List.getElem?_set_ne (fun e => hp e.symm)] at g1
          have g4 : (loc.sub.set (i ()) loc2.k)[p]? = some s := g4
          rw [List.getElem?_set_ne (fun e => hp e.symm)] at g4
          rcases d7 p es' v s g1 g2 g4 with ⟨h, _⟩ | ⟨_, h⟩
          · exact absurd h hp
          · exact h⟩
    exact ⟨S, _, hm.1, hm.2⟩

theorem Step.takeE {A : St} (b : Nat) {g q : Nat} {ess : Unit → List LV} (hb : A.h[b]? = some (.nest g q ess none)) (i : Unit → Nat) (es : Unit → LV) (len : Unit → Nat) (hi : ∀ _ : Unit, i () < (ess ()).length)
    (he : ∀ _ : Unit, (ess ()).getD (i ()) .nil = es () ∧ (es ()).l.length = len ()) : Step γ A ⟨A.n, A.s, (A.h.set b (.nest g q ess (some (i, .sl A.h.length 0 q (fun _ => 0) len)))) ++ [.run 0 q es]⟩ := by
  have h := Step.take (γ := γ) b hb i hi
  have e1 : (fun _ : Unit => (ess ()).getD (i ()) .nil) = es := funext fun _ => (he ()).1
  have e2 : (fun _ : Unit => ((ess ()).getD (i ()) .nil).l.length) = len := funext fun _ => by rw [(he ()).1]; exact (he ()).2
  rw [e1, e2] at h
  exact h
theorem Step.putE {A : St} (b b2 : Nat) {g q g2 g3 : Nat} {ess : Unit → List LV} {i off len : Unit → Nat} {es : Unit → LV} (ess' : Unit → List LV) (hb : A.h[b]? = some (.nest g q ess (some (i, .sl b2 g2 q off len)))) (hb2 : A.h[b2]? = some (.run g3 q es))
    (hc : ∀ _ : Unit, (g3 = g2 ∧ off () = 0 ∧ len () = (es ()).l.length) ∧ (ess ()).set (i ()) (es ()) = ess' ()) :
    Step γ A ⟨A.n, A.s, (A.h.set b (.nest g q ess' none)).set b2 .any⟩ := by
  have h := Step.put (γ := γ) b b2 hb hb2 fun _ => (hc ()).1
  have e1 : (fun _ : Unit => (ess ()).set (i ()) (es ())) = ess' := funext fun _ => (hc ()).2
  rw [e1] at h
  exact h

/-- an own run of which nothing is told: a nest that is filled from its front on -/
theorem Step.unrun {A : St} (b q : Nat) {g : Nat} {es : Unit → LV} (hb : A.h[b]? = some (.run g 1 es)) : Step γ A ⟨A.n, A.s, A.h.set b (.nest g q (fun _ => []) none)⟩ :=
  Step.heap fun B S ρ w hh => by
    have hlt : b < ρ.length := by rw [hh.len]; exact (List.getElem?_eq_some_iff.1 hb).1
    obtain ⟨loc, hl⟩ : ∃ loc, ρ[b]? = some loc := ⟨_, List.getElem?_eq_getElem hlt⟩
    obtain ⟨f1, f2, f3, ievs, f4, f5, f6⟩ := hh.blk b _ loc hb hl
    have := hh.updS (loc' := { loc with sub := [] }) (blk' := .nest g q (fun _ => []) none) (w' := w) hl (.inl ⟨_, rfl⟩) (fun K hK => .inl (.inl (Loc.has_nil (l := { loc with sub := [] }) rfl hK))) (Fr.refl w) (fun _ _ _ => rfl)
      ⟨f1, f2, f3, [], by
        rcases f6 with ⟨e1, _⟩ | ⟨K', c, ty, e1, e2, e3, e4, e5⟩
        · exact .inl ⟨e1, rfl⟩
        · exact .inr ⟨K', c, ty, e1, e2, e3, Nat.zero_le _, fun i e h => by simp at h⟩, rfl, rfl, fun p es v s g1 => by simp at g1⟩ (.nil rfl)
    exact ⟨S, _, this.1, this.2⟩

end
end Go.AL

namespace Go.AL
open Go Go.RowKit

section
variable {P : Program} {γ : Nat → Option AV} {τ : Nat → TI} {C : EC} {CQ : List Blk → QC}

def AWPx (P : Program) (γ : Nat → Option AV) (ro : Option Nat) (ds : List Deferred) (c : Code) (Q : Exit → St → Prop) (A : St) : Prop :=
  ∀ B S ρ a w n, Sim B S γ ρ A a w → c.wpIn (RF ro) n P (fun e a' w' => ∃ a0 S' ρ' A', a' = df ds a0 ∧ Q e A' ∧ Sim B S' γ ρ' A' a0 w' ∧ Ext B S ρ w S' ρ' w') (df ds a) w

variable {ro : Option Nat} {ds : List Deferred}
theorem AWPx.mono {c : Code} {Q Q' : Exit → St → Prop} {A : St} (h : AWPx P γ ro ds c Q A) (hq : ∀ e A, Q e A → Q' e A) : AWPx P γ ro ds c Q' A :=
  fun B S ρ a w n hs => wpIn_mono (h B S ρ a w n hs) fun e a' w' ⟨a0, S', ρ', A', h0, h1, h2, h3⟩ => ⟨a0, S', ρ', A', h0, hq _ _ h1, h2, h3⟩
theorem AWPx.skip {Q : Exit → St → Prop} {A : St} (h : Q .normal A) : AWPx P γ ro ds .skip Q A := fun B S ρ a w n hs => wpIn_skip ⟨a, S, ρ, A, rfl, h, hs, Ext.refl _ _ _ _⟩
theorem AWPx.exit {id : Nat} {Q : Exit → St → Prop} {A : St} (h : Q (.exit id) A) : AWPx P γ ro ds (.exit id) Q A := fun B S ρ a w n hs => wpIn_exit ⟨a, S, ρ, A, rfl, h, hs, Ext.refl _ _ _ _⟩
theorem AWPx.ret {Q : Exit → St → Prop} {A : St} (h : Q .ret A) : AWPx P γ ro ds .ret Q A := fun B S ρ a w n hs => wpIn_ret ⟨a, S, ρ, A, rfl, h, hs, Ext.refl _ _ _ _⟩
theorem AWPx.seq {x y : Code} {Q : Exit → St → Prop} {A : St} (h : AWPx P γ ro ds x (thenE (fun A => AWPx P γ ro ds y Q A) Q) A) : AWPx P γ ro ds (.seq x y) Q A := by
  intro B S ρ a w n hs
  refine wpIn_seq (wpIn_mono (h B S ρ a w n hs) fun e a' w' ⟨a0, S', ρ', A', h0, h1, h2, h3⟩ => ?_)
  cases e with
  | normal => subst h0; exact wpIn_mono (h1 B S' ρ' a0 w' n h2) fun e a'' w'' ⟨a1, S'', ρ'', A'', k0, k1, k2, k3⟩ => ⟨a1, S'', ρ'', A'', k0, k1, k2, h3.trans k3⟩
  | _ => exact ⟨a0, S', ρ', A', h0, h1, h2, h3⟩
theorem AWPx.cond {c : Operand} {x y : Code} {Q : Exit → St → Prop} {A : St} (h : br (A.ev γ c) (fun _ => AWPx P γ ro ds x Q A) (fun _ => AWPx P γ ro ds y Q A)) : AWPx P γ ro ds (.cond c x y) Q A := by
  intro B S ρ a w n hs
  obtain ⟨b, h1, h2⟩ := br_val h
  refine wpIn_cond (t := b) (by rw [df_eval]; exact h1 S w (some ρ) _ (hs.ev c)) ?_
  cases b
  · exact h2 B S ρ a w n hs
  · exact h2 B S ρ a w n hs
theorem AWPx.block {id : Nat} {c : Code} {Q : Exit → St → Prop} {A : St} (h : AWPx P γ ro ds c (inBlk id Q) A) : AWPx P γ ro ds (.block id c) Q A := by
  intro B S ρ a w n hs
  refine wpIn_block (wpIn_mono (h B S ρ a w n hs) fun e a' w' ⟨a0, S', ρ', A', h0, h1, h2, h3⟩ => ?_)
  cases e with
  | exit id' =>
    simp only [inBlk] at h1
    simp only [Exit.inBlock]
    split
    · rename_i e; rw [if_pos e] at h1; exact ⟨a0, S', ρ', A', h0, h1, h2, h3⟩
    · rename_i e; rw [if_neg e] at h1; exact ⟨a0, S', ρ', A', h0, h1, h2, h3⟩
  | _ => exact ⟨a0, S', ρ', A', h0, h1, h2, h3⟩

/-- what lies behind a region, told of its last state -/
def regQ (γ : Nat → Option AV) (B : Nat) (S : Nat → Prop) (ρ : List Loc) (w : World) (K : St → Prop) : Exit → Act → World → Prop := fun e a' w' => e = .normal ∧ ∃ S' ρ' A', K A' ∧ Sim B S' γ ρ' A' a' w' ∧ Ext B S ρ w S' ρ' w'

theorem AWPx.region {id : Nat} {ops : Array Oper} {Q : Exit → St → Prop} {A : St} (hd : ops.toList.all (fun o => !isDef o) = true) (hτ : ∀ t, τ t = tiOf P t) (hC : ∀ f args h Q, C f args h Q → PC P γ f args h Q) (hv : vops τ γ C ops.toList ops.toList A (Q .normal)) : AWPx P γ ro ds (.region id ops false) Q A := by
  intro B S ρ a w n hs
  refine wpIn_region_list (list_bridge (Q := regQ γ B S ρ w (Q .normal)) (fun e a w h => h.1) ?_ _ a w hd ?_)
  · rintro a' w' ⟨_, S', ρ', A', h1, h2, h3⟩
    exact ⟨a', S', ρ', A', rfl, h1, h2, h3⟩
  · exact vops_sound hτ hC _ A B S ρ a w hs hv fun S' ρ' A' _ _ h1 h2 h3 => ⟨rfl, S', ρ', A', h1, h2, h3⟩

theorem AWPx.draw {id : Nat} {ops : Array Oper} {Q : Exit → St → Prop} {A : St} (hd : ops.toList.all (fun o => !isDef o) = true) (hτ : ∀ t, τ t = tiOf P t) (hC : ∀ f args h Q, C f args h Q → PC P γ f args h Q) (hCQ : ∀ h f args k, CQ h f args k → QCalls P γ h f args k) (hm : P.follows .mixedOrders = true)
    (n0 : Nat) (hB : drawB ops n0 = true) (hv : vhd τ γ CQ ops (ops.toList.take n0) A fun A => vops τ γ C ops.toList (ops.toList.drop n0) A (Q .normal)) : AWPx P γ ro ds (.region id ops true) Q A := by
  intro B S ρ a w n hs
  refine wpIn_region_any hm (any_bridge (Q := regQ γ B S ρ w (Q .normal)) hd (fun e a w h => h.1) ?_ _ _ a _ (any_region_A n0 hB hs (vhd_sound hτ hCQ _ _ hv) fun S' A' a' w' hv' hs' hx => ?_))
  · rintro a' w' ⟨_, S', ρ', A', h1, h2, h3⟩
    exact ⟨a', S', ρ', A', rfl, h1, h2, h3⟩
  · exact vops_sound hτ hC _ A' B S' ρ a' w' hs' hv' fun S'' ρ'' A'' a'' w'' h1 h2 h3 => ⟨rfl, S'', ρ'', A'', h1, h2, hx.trans h3⟩

/-- no deferred call is put down -/
def noDef : Code → Bool
  | .seq x y => noDef x && noDef y
  | .cond _ x y => noDef x && noDef y
  | .block _ c => noDef c
  | .region _ ops _ => ops.toList.all fun o => !isDef o
  | .skip | .exit _ | .ret => true
  | _ => false

theorem vcx_sound {D : Array Oper → (St → Prop) → St → Prop} (hτ : ∀ t, τ t = tiOf P t) (hC : ∀ f args h Q, C f args h Q → PC P γ f args h Q)
    (hD : ∀ id ops K (Q : Exit → St → Prop) A, ops.toList.all (fun o => !isDef o) = true → (∀ A, K A → Q .normal A) → D ops K A → AWPx P γ ro ds (.region id ops true) Q A) :
    ∀ (c : Code) (Q : Exit → St → Prop) (A : St), noDef c = true → vc τ γ C D (fun _ _ _ => False) c Q A → AWPx P γ ro ds c Q A
  | .skip, Q, A, _, h => AWPx.skip h
  | .seq x y, Q, A, hd, h => by
    simp only [noDef, Bool.and_eq_true] at hd
    refine AWPx.seq ((vcx_sound hτ hC hD x _ _ hd.1 h).mono fun e A' h' => ?_)
    cases e with
    | normal => exact vcx_sound hτ hC hD y _ _ hd.2 h'
    | _ => exact h'
  | .cond c x y, Q, A, hd, h => by
    simp only [noDef, Bool.and_eq_true] at hd
    refine AWPx.cond ?_
    simp only [vc] at h
    generalize A.ev γ c = v at *
    cases v
    all_goals first | exact h.elim | skip
    all_goals simp only [br] at h ⊢
    all_goals first | exact vcx_sound hτ hC hD x _ _ hd.1 h | exact vcx_sound hτ hC hD y _ _ hd.2 h | skip
    exact ⟨fun u hu => vcx_sound hτ hC hD x _ _ hd.1 (h.1 u hu), fun u hu => vcx_sound hτ hC hD y _ _ hd.2 (h.2 u hu)⟩
  | .block id c, Q, A, hd, h => AWPx.block (vcx_sound hτ hC hD c _ _ hd h)
  | .exit id, Q, A, _, h => AWPx.exit h
  | .ret, Q, A, _, h => AWPx.ret h
  | .region id ops false, Q, A, hd, h => AWPx.region hd hτ hC h
  | .region id ops true, Q, A, hd, h => hD id ops _ Q A hd (fun _ h => h) h
  | .loop c, Q, A, _, h => h.elim
  | .scope c, Q, A, hd, h => by simp [noDef] at hd
  | .goto _, _, _, _, h => h.elim
  | .label _, Q, A, hd, h => by simp [noDef] at hd
  | .refuse _, _, _, _, h => h.elim
  | .rangeFunc .., _, _, _, h => h.elim

/-- what a walk of straight code may lean on -/
structure EnvX (P : Program) (γ : Nat → Option AV) (C : EC) (CQ : List Blk → QC) (T : Nat → TI) (D : Array Oper → (St → Prop) → St → Prop) : Prop where
  c : ∀ {f args h Q}, SCalls P γ f args h Q → C (.inl f) args h Q
  q : ∀ {h f args k}, QCalls P γ h f args k → CQ h f args k
  d : ∀ n {ops K A}, drawB ops n = true → vhd T γ CQ ops (ops.toList.take n) A (fun A => vops T γ C ops.toList (ops.toList.drop n) A K) → D ops K A

def Dx (P : Program) (γ : Nat → Option AV) (ops : Array Oper) (K : St → Prop) (A : St) : Prop := ops.toList.all (fun o => !isDef o) = true → ∀ ro ds id, AWPx P γ ro ds (.region id ops true) (thenE K fun _ _ => False) A
theorem EnvX.top {ty : Program → Nat → TI} (hτ : ∀ t, ty P t = tiOf P t) (hm : P.follows .mixedOrders = true) : EnvX P γ (PC P γ) (fun h f args k => QCalls P γ h f args k) (ty P) (Dx P γ) where
  c := fun h => h
  q := fun h => h
  d := fun n {ops K A} h1 h2 hd ro ds id => AWPx.draw (Q := thenE K fun _ _ => False) hd hτ (fun _ _ _ _ h => h) (fun _ _ _ _ h => h) hm n h1 h2
theorem EnvX.to {ty : Program → Nat → TI} (hτ : ∀ t, ty P t = tiOf P t) (hm : P.follows .mixedOrders = true) {c : Code} {Q : Exit → St → Prop} {A : St} (hd : noDef c = true) (h : vc (ty P) γ (PC P γ) (Dx P γ) (fun _ _ _ => False) c Q A) : AWPx P γ ro ds c Q A :=
  vcx_sound hτ (fun _ _ _ _ h => h) (fun id ops K Q A hd hK h => (h hd ro ds id).mono fun e A' he => by
    cases e with
    | normal => exact hK A' he
    | _ => exact he.elim) c Q A hd h
end
end Go.AL

namespace Go.AL
open Go Go.RowKit

section
variable {P : Program} {γ : Nat → Option AV}

def noCells (o : Obj) : Prop := ∀ c t f, o ≠ .cells c t f

theorem HeapR.addObj {B : Nat} {S : Nat → Prop} {ρ : List Loc} {h : List Blk} {w : World} (hh : HeapR B S γ ρ h w) (loc : Loc) (K : Nat) (hk : loc.k = some K) (hsub : loc.sub = []) (hS : ¬ S K) (hK : K < w.heap.size) (hB : B ≤ K)
    (hn : ∀ (b : Nat) (lc : Loc), ρ[b]? = some lc → ¬ lc.has K) (blk : Blk) (hb : BlkR S w (ρ ++ [loc]) loc blk) : HeapR B S γ (ρ ++ [loc]) (h ++ [blk]) w := by
  have hup := LocsUp.append ρ [loc]
  have key : ∀ (b : Nat) (lc : Loc), (ρ ++ [loc])[b]? = some lc → (b < ρ.length ∧ ρ[b]? = some lc) ∨ (b = ρ.length ∧ lc = loc) := by
    intro b lc h1
    by_cases hlt : b < ρ.length
    · rw [List.getElem?_append_left hlt] at h1; exact .inl ⟨hlt, h1⟩
    · rw [List.getElem?_append_right (by omega)] at h1
      have e1 : b - ρ.length = 0 := by
        have := (List.getElem?_eq_some_iff.1 h1).1; simp at this; omega
      rw [e1] at h1; simp at h1; exact .inr ⟨by omega, h1.symm⟩
  refine ⟨by simp [hh.len], fun b bk lc h1 h2 => ?_, fun b lc K h1 h2 => ?_, fun b b' lc lc' K' h1 h2 h3 h4 => ?_, hh.sle, hh.gok, hh.bsz, fun b lc h1 => ?_⟩
  · rcases key b lc h2 with ⟨a1, a2⟩ | ⟨a1, rfl⟩
    · rw [List.getElem?_append_left (by rw [← hh.len]; exact a1)] at h1
      exact (hh.blk b bk lc h1 a2).mono (fun _ h => h) (fun _ _ => rfl) hup fun _ _ => rfl
    · rw [a1, hh.len] at h1
      simp at h1; subst h1; exact hb
  · rcases key b lc h1 with ⟨a1, a2⟩ | ⟨a1, rfl⟩
    · exact hh.own b lc K a2 h2
    · have h2 := Loc.has_nil hsub h2; rw [hk] at h2; cases h2; exact ⟨hS, hK, hB⟩
  · rcases key b lc h1 with ⟨a1, a2⟩ | ⟨a1, rfl⟩
    · rcases key b' lc' h2 with ⟨c1, c2⟩ | ⟨c1, rfl⟩
      · exact hh.inj b b' lc lc' K' a2 c2 h3 h4
      · have h4 := Loc.has_nil hsub h4; rw [hk] at h4; cases h4; exact absurd h3 (hn b lc a2)
    · have h3 := Loc.has_nil hsub h3; rw [hk] at h3; cases h3
      rcases key b' lc' h2 with ⟨c1, c2⟩ | ⟨c1, rfl⟩
      · exact absurd h4 (hn b' lc' c2)
      · omega
  · rcases key b lc h1 with ⟨a1, a2⟩ | ⟨a1, rfl⟩
    · exact hh.sok b lc a2
    · exact .nil hsub

/-- a new object -/
theorem HeapR.allocObj {B : Nat} {S : Nat → Prop} {ρ : List Loc} {h : List Blk} {w : World} (hh : HeapR B S γ ρ h w) (o : Obj) (ho : noCells o) (s : Tr) (t : Array Value) (hs : ∀ n, R S w (some ρ) (s.get n) (t.getD n Go.undef)) :
    ∃ ρ', HeapR B S γ ρ' (h ++ [.obj w.heap.size o s t]) (w.alloc o) ∧ Ext B S ρ w S ρ' (w.alloc o) := by
  have hq : ExtQ S w S (w.alloc o) := ⟨Fr.alloc w o fun c t lo hi e => absurd e (ho c t (lo, hi)), fun k hk => Below.heap_alloc w _ k hk, fun _ h => h, fun _ h => .inl h⟩
  have hsz : (w.alloc o).heap.size = w.heap.size + 1 := World.size_alloc ..
  refine ⟨ρ ++ [⟨true, 0, some w.heap.size, 0, 0, []⟩], (hh.q hq).addObj _ w.heap.size rfl rfl (fun hk => by have := hh.sle _ hk; omega) (by omega) hh.bsz (fun b lc h1 h2 => by have := (hh.own b lc _ h1 h2).2.1; omega) _
    ⟨rfl, rfl, World.alloc_heap_new w o, fun n => ?_⟩, ?_⟩
  · exact R.mono (fun _ h => h) (fun k hk => hq.same k (hh.sle k hk)) (ρ := some ρ) (ρ' := some (ρ ++ [_])) (LocsUp.append ρ _) _ _ (hs n)
  · exact (hh.ext hq).trans ⟨Fr.refl _, fun _ _ => rfl, fun _ h => h, fun _ _ => rfl, LocsUp.append ρ _, fun _ h => .inl h⟩

/-- an object is turned into another -/
theorem HeapR.putObj {B : Nat} {S : Nat → Prop} {ρ : List Loc} {h : List Blk} {w : World} (hh : HeapR B S γ ρ h w) {b K : Nat} {o : Obj} (o' : Obj) {s : Tr} {t : Array Value} (hb : h[b]? = some (.obj K o s t)) (ho : noCells o) (ho' : noCells o') :
    w.heap[K]? = some o ∧ HeapR B S γ ρ (h.set b (.obj K o' s t)) (w.putObj K o') ∧ Ext B S ρ w S ρ (w.putObj K o') ∧ ∀ n, R S w (some ρ) (s.get n) (t.getD n Go.undef) := by
  have hblt : b < ρ.length := by rw [hh.len]; exact (List.getElem?_eq_some_iff.1 hb).1
  obtain ⟨loc, hloc⟩ : ∃ loc, ρ[b]? = some loc := ⟨_, List.getElem?_eq_getElem hblt⟩
  obtain ⟨k1, k2, k3, k4⟩ := hh.blk b _ loc hb hloc
  obtain ⟨m1, m2, m3⟩ := hh.own b loc K hloc (.inl k2)
  have same : SameOn S w (w.putObj K o') := fun k hk => World.putObj_heap_other (fun e => m1 (e ▸ hk))
  have fro : ∀ a, (w.putObj K o').frozen? a = w.frozen? a := fun a => by
    by_cases e : a.block = K
    · simp only [World.frozen?, e, World.putObj_heap_same m2, k3]
      cases o' <;> first | exact absurd rfl (ho' _ _ _) | (cases o <;> first | exact absurd rfl (ho _ _ _) | rfl)
    · simp only [World.frozen?, World.putObj_heap_other e]
  have fr : Fr w (w.putObj K o') := ⟨rfl, rfl, rfl, by simp, fro⟩
  refine ⟨k3, ⟨by simp [hh.len], fun b' bk lc h1 h2 => ?_, fun b' lc K' h1 h2 => by have := hh.own b' lc K' h1 h2; simpa using this, hh.inj, fun k hk => by simpa using hh.sle k hk, fun g x hg => ?_, by simpa using hh.bsz, hh.sok⟩,
    ⟨fr, fun k hk => World.putObj_heap_other (by omega), fun _ h => h, same, LocsUp.refl ρ, fun _ h => .inl h⟩, k4⟩
  · by_cases e : b = b'
    · subst e
      rw [hloc] at h2; cases h2
      rw [List.getElem?_set_self (by rw [← hh.len]; exact hblt)] at h1
      cases h1
      exact ⟨k1, k2, World.putObj_heap_same m2, fun n => R.mono (fun _ h => h) same (ρ := some ρ) (ρ' := some ρ) (LocsUp.refl ρ) _ _ (k4 n)⟩
    · rw [List.getElem?_set_ne e] at h1
      refine (hh.blk b' bk lc h1 h2).mono (fun _ h => h) same (LocsUp.refl ρ) fun K' hK' => World.putObj_heap_other fun e' => e ?_
      subst e'
      exact hh.inj b b' loc lc _ hloc h2 (.inl k2) hK'
  · exact R.mono (fun _ h => h) same (ρ := none) (ρ' := none) trivial _ _ (hh.gok g x hg)
end
end Go.AL

namespace Go.AL
open Go Go.RowKit

/-- the loop's record -/
def recOf (fn : FuncId) (t : Array Value) (ps : Array Tmp) (asg bd : Code) (D : Nat) (st : LoopState) (pe : Option Code) : Obj :=
  .loop { state := st, pending := pe, fn, tmps := t, params := ps, assign := asg, body := bd, defers := D }
theorem recOf_nc {fn : FuncId} {t : Array Value} {ps : Array Tmp} {asg bd : Code} {D : Nat} {st : LoopState} {pe : Option Code} : noCells (recOf fn t ps asg bd D st pe) := fun _ _ _ h => by cases h

section
variable {P : Program} {γ : Nat → Option AV}

theorem sets_slots {S : Nat → Prop} {w : World} {ρ : List Loc} : ∀ (ps : List Tmp) (args : List AV) (vals : List Value) (s : Tr) (t : Array Value), Rs S w (some ρ) args vals → ps.length = args.length → (∀ p ∈ ps, p < t.size ∧ p + 1 < 1024) →
    (∀ n, R S w (some ρ) (s.get n) (t.getD n Go.undef)) → ∀ n, R S w (some ρ) ((sets (ps.zip args) s).get n) (((ps.zip vals).foldl (fun t (p, v) => t.setIfInBounds p v) t).getD n Go.undef)
  | [], args, vals, s, t, _, _, _, hs, n => by simpa [sets] using hs n
  | p :: ps, args, vals, s, t, hr, hl, hp, hs, n => by
    cases args with
    | nil => simp at hl
    | cons x args =>
      obtain ⟨v, vs, rfl, h1, h2⟩ := hr
      simp only [List.zip_cons_cons, sets, List.foldl_cons]
      refine sets_slots ps args vs _ _ h2 (by simpa using hl) (fun q hq => by have := hp q (List.mem_cons_of_mem _ hq); simpa using this) (fun m => ?_) n
      obtain ⟨hp1, hp2⟩ := hp p List.mem_cons_self
      rw [Tr.get_set' 10 s p m x (by omega)]
      by_cases e : m = p
      · subst e
        rw [if_pos rfl]
        have : (t.setIfInBounds m v).getD m Go.undef = v := by simp [Array.getD, hp1]
        rw [this]; exact h1
      · rw [if_neg e]
        have : (t.setIfInBounds p v).getD m Go.undef = t.getD m Go.undef := by
          rw [Array.getD_eq_getD_getElem?, Array.getD_eq_getD_getElem?, Array.getElem?_setIfInBounds_ne (Ne.symm e)]
        rw [this]; exact hs m

theorem foldl_size : ∀ (l : List (Tmp × Value)) (t : Array Value), (l.foldl (fun t (p, v) => t.setIfInBounds p v) t).size = t.size
  | [], t => rfl
  | (p, v) :: l, t => by rw [List.foldl_cons, foldl_size l]; simp

/-- what a round's body must leave -/
def endQ (b l : Nat) (oB oR : Obj) (oX : Option Obj) (s : Tr) (t : Array Value) (Q : AV → List Blk → Prop) : Exit → St → Prop
  | .normal, A => A.h[b]? = some (.obj l oB s t) ∧ Q .tt (A.h.set b (.obj l oR s t))
  | .ret, A => match oX with | some oX => A.h[b]? = some (.obj l oB s t) ∧ Q .ff (A.h.set b (.obj l oX s t)) | none => False
  | _, _ => False

theorem YCall.of_body {l D b fn n0 : Nat} {s : Tr} {t : Array Value} {ps : Array Tmp} {asg bd : Code} {H : List Blk} {args : List AV} {Q : AV → List Blk → Prop} (hn : t.size = n0) (hn0 : n0 ≤ 1000) (hps : ps.toList.length = args.length) (hp : ∀ p ∈ ps.toList, p < n0)
    (hb : H[b]? = some (.obj l (recOf fn t ps asg bd D .ready none) s t))
    (h : AWPx P γ (some l) [] asg (thenE (fun A => A.h[b]? = some (.obj l (recOf fn t ps asg bd D .ready none) s t) ∧
      AWPx P γ (some l) [] bd (endQ b l (recOf fn t ps asg bd D .busy none) (recOf fn t ps asg bd D .ready none) (some (recOf fn t ps asg bd D .done (some .ret))) s t Q) ⟨A.n, A.s, A.h.set b (.obj l (recOf fn t ps asg bd D .busy none) s t)⟩) fun _ _ => False) ⟨n0, sets (ps.toList.zip args) s, H⟩) : YCall P γ l args H Q := by
  intro B S ρ w vals hh hr
  have hblt : b < ρ.length := by rw [hh.len]; exact (List.getElem?_eq_some_iff.1 hb).1
  obtain ⟨_, _, hl, hslots⟩ := hh.blk b _ _ hb (List.getElem?_eq_getElem hblt)
  have hvl := Rs_len hr
  have hy := run_yield (P := P) (args := vals.toArray) hl (by show vals.toArray.size = ps.size; simp; rw [hvl, ← hps]; simp)
  refine ⟨_, _, _, _, hy, fun n => roundIn_of_wpIn (F := Fence.wide) trivial ?_⟩
  have hz : ∀ (vs : List Value), (ps.zip vs.toArray).foldl (fun t (p, v) => t.setIfInBounds p v) t = (ps.toList.zip vs).foldl (fun t (p, v) => t.setIfInBounds p v) t := fun vs => by
    rw [← Array.foldl_toList]; simp
  have hsim : Sim B S γ ρ ⟨n0, sets (ps.toList.zip args) s, H⟩ ⟨(ps.zip vals.toArray).foldl (fun t (p, v) => t.setIfInBounds p v) t, []⟩ w := by
    refine ⟨rfl, ?_, hn0, ?_, hh⟩
    · show ((ps.zip vals.toArray).foldl (fun t (p, v) => t.setIfInBounds p v) t).size = n0
      rw [hz, foldl_size]; exact hn
    · intro m
      show R S w (some ρ) ((sets (ps.toList.zip args) s).get m) (((ps.zip vals.toArray).foldl (fun t (p, v) => t.setIfInBounds p v) t).getD m Go.undef)
      rw [hz]
      exact sets_slots _ _ _ _ _ hr hps (fun p hp' => ⟨by rw [hn]; exact hp p hp', by have h9 : @LT.lt Nat _ p n0 := hp p hp'; exact (by omega : @LT.lt Nat _ (@HAdd.hAdd Nat Nat Nat _ p 1) 1024)⟩) hslots m
  refine wpIn_mono (h B S ρ _ w n hsim) fun e a1 w1 ⟨a0, S1, ρ1, A1, h0, h1, hs1, hx1⟩ => ?_
  cases e with
  | normal =>
    obtain ⟨hb1, hbody⟩ := h1
    obtain ⟨hl1, hh1, hxp, _⟩ := hs1.heap.putObj (recOf fn t ps asg bd D .busy none) hb1 recOf_nc recOf_nc
    refine ⟨_, run_beginRound hl1 rfl, ?_⟩
    subst h0
    refine wpIn_mono (hbody B S1 ρ1 a0 _ n ⟨hs1.nodef, hs1.size, hs1.small, fun m => hxp.R (hs1.slot m), hh1⟩) fun e a2 w2 ⟨a3, S2, ρ2, A2, h2, h3, hs2, hx2⟩ => ?_
    have hx := (hx1.trans hxp).trans hx2
    cases e with
    | normal =>
      obtain ⟨hb2, hQ⟩ := h3
      obtain ⟨hl2, hh2, hxq, _⟩ := hs2.heap.putObj (recOf fn t ps asg bd D .ready none) hb2 recOf_nc recOf_nc
      exact ⟨_, _, run_endRound none hl2, .tt, _, S2, ρ2, _, rfl, hQ, rfl, hh2, hx.trans hxq⟩
    | ret =>
      obtain ⟨hb2, hQ⟩ := h3
      obtain ⟨hl2, hh2, hxq, _⟩ := hs2.heap.putObj (recOf fn t ps asg bd D .done (some .ret)) hb2 recOf_nc recOf_nc
      exact ⟨_, _, run_endRound (some .ret) hl2, .ff, _, S2, ρ2, _, rfl, hQ, rfl, hh2, hx.trans hxq⟩
    | _ => exact h3.elim
  | _ => exact h1.elim
end
end Go.AL

namespace Go.AL
open Go Go.RowKit

section
variable {P : Program} {γ : Nat → Option AV}

def wpInL (F : Fence) (n : Nat) (P : Program) : List Code → (Exit → Act → World → Prop) → Act → World → Prop
  | [], Q, a, w => Q .normal a w
  | c :: r, Q, a, w => c.wpIn F n P (Exit.then (fun a w => wpInL F n P r Q a w) Q) a w
theorem wpInL_mono {F : Fence} {n : Nat} : ∀ {l : List Code} {Q Q' : Exit → Act → World → Prop} {a : Act} {w : World}, (∀ e a w, Q e a w → Q' e a w) → wpInL F n P l Q a w → wpInL F n P l Q' a w
  | [], _, _, _, _, hq, h => hq _ _ _ h
  | c :: r, Q, Q', a, w, hq, h => wpIn_mono h fun e a w h' => by
    cases e with
    | normal => exact wpInL_mono hq h'
    | _ => exact hq _ _ _ h'
theorem wpInL_app {F : Fence} {n : Nat} : ∀ {xs ys : List Code} {Q : Exit → Act → World → Prop} {a : Act} {w : World}, wpInL F n P xs (Exit.then (wpInL F n P ys Q) Q) a w → wpInL F n P (xs ++ ys) Q a w
  | [], ys, Q, a, w, h => h
  | x :: xs, ys, Q, a, w, h => wpIn_mono h fun e a w h' => by
    cases e with
    | normal => exact wpInL_app h'
    | _ => exact h'
theorem wpInL_unapp {F : Fence} {n : Nat} : ∀ {xs ys : List Code} {Q : Exit → Act → World → Prop} {a : Act} {w : World}, wpInL F n P (xs ++ ys) Q a w → wpInL F n P xs (Exit.then (wpInL F n P ys Q) Q) a w
  | [], ys, Q, a, w, h => h
  | x :: xs, ys, Q, a, w, h => wpIn_mono h fun e a w h' => by
    cases e with
    | normal => exact wpInL_unapp h'
    | _ => exact h'
theorem wpInL_one {F : Fence} {n : Nat} {c : Code} {Q : Exit → Act → World → Prop} {a : Act} {w : World} (h : wpInL F n P [c] Q a w) : c.wpIn F n P Q a w := wpIn_mono h fun e a w h' => by cases e <;> exact h'
theorem wpInL_items {F : Fence} {n : Nat} : ∀ (c : Code) {Q : Exit → Act → World → Prop} {a : Act} {w : World}, wpInL F n P (citems c) Q a w → c.wpIn F n P Q a w
  | .seq x y, Q, a, w, h => wpIn_seq (wpIn_mono (wpInL_items x (wpInL_unapp h)) fun e a w h' => by
    cases e with
    | normal => exact wpInL_items y h'
    | _ => exact h')
  | .skip, _, _, _, h => wpInL_one h
  | .cond .., _, _, _, h => wpInL_one h
  | .block .., _, _, _, h => wpInL_one h
  | .exit _, _, _, _, h => wpInL_one h
  | .ret, _, _, _, h => wpInL_one h
  | .region .., _, _, _, h => wpInL_one h
  | .loop _, _, _, _, h => wpInL_one h
  | .scope _, _, _, _, h => wpInL_one h
  | .goto _, _, _, _, h => wpInL_one h
  | .label _, _, _, _, h => wpInL_one h
  | .refuse _, _, _, _, h => wpInL_one h
  | .rangeFunc .., _, _, _, h => wpInL_one h

/-- what stands ahead of the loop -/
theorem pre_sound {C : EC} {CQ : List Blk → QC} {T : Nat → TI} {D : Array Oper → (St → Prop) → St → Prop} {W : Code → (Exit → St → Prop) → St → Prop} (E : Env P γ C CQ T D W) {n : Nat} : ∀ (l : List Code) (Q : Exit → St → Prop) (A : St), vcl T γ C D W l Q A →
    ∀ B S ρ a w, Sim B S γ ρ A a w → wpInL Fence.wide n P l (fun e a' w' => ∃ S' ρ' A', Q e A' ∧ Sim B S' γ ρ' A' a' w' ∧ Ext B S ρ w S' ρ' w') a w
  | [], Q, A, h, B, S, ρ, a, w, hs => ⟨S, ρ, A, h, hs, Ext.refl _ _ _ _⟩
  | c :: r, Q, A, h, B, S, ρ, a, w, hs => wpIn_mono (wpIn_wide.2 (E.b h B S ρ a w hs)) fun e a' w' ⟨S', ρ', A', h1, h2, h3⟩ => by
    cases e with
    | normal => exact wpInL_mono (fun e a w ⟨S'', ρ'', A'', k1, k2, k3⟩ => ⟨S'', ρ'', A'', k1, k2, h3.trans k3⟩) (pre_sound E r Q A' h1 B S' ρ' a' w' h2)
    | _ => exact ⟨S', ρ', A', h1, h2, h3⟩
/-- what stands behind it -/
theorem post_sound {ty : Program → Nat → TI} (hτ : ∀ t, ty P t = tiOf P t) (hm : P.follows .mixedOrders = true) {ds : List Deferred} {n : Nat} : ∀ (l : List Code) (Q : Exit → St → Prop) (A : St), l.all noDef = true → vcl (ty P) γ (PC P γ) (Dx P γ) (fun _ _ _ => False) l Q A →
    ∀ B S ρ a w, Sim B S γ ρ A a w → wpInL Fence.wide n P l (fun e a' w' => ∃ a0 S' ρ' A', a' = df ds a0 ∧ Q e A' ∧ Sim B S' γ ρ' A' a0 w' ∧ Ext B S ρ w S' ρ' w') (df ds a) w
  | [], Q, A, _, h, B, S, ρ, a, w, hs => ⟨a, S, ρ, A, rfl, h, hs, Ext.refl _ _ _ _⟩
  | c :: r, Q, A, hl, h, B, S, ρ, a, w, hs => by
    simp only [List.all_cons, Bool.and_eq_true] at hl
    refine wpIn_mono (EnvX.to (ro := none) (ds := ds) hτ hm hl.1 h B S ρ a w n hs) fun e a' w' ⟨a0, S', ρ', A', h0, h1, h2, h3⟩ => ?_
    cases e with
    | normal =>
      subst h0
      exact wpInL_mono (fun e a w ⟨a1, S'', ρ'', A'', k0, k1, k2, k3⟩ => ⟨a1, S'', ρ'', A'', k0, k1, k2, h3.trans k3⟩) (post_sound hτ hm r Q A' hl.2 h1 B S' ρ' a0 w' h2)
    | _ => exact ⟨a0, S', ρ', A', h0, h1, h2, h3⟩

def mark (D : Nat) : Deferred := { target := .collected D, args := #[] }
def oDef : Obj := .deferred (some [])
theorem oDef_nc : noCells oDef := fun _ _ _ h => by cases h

/-- THE STATEMENT. -/
theorem rf_sound {id : Nat} {g : Operand} {ps : Array Tmp} {asg bd : Code} {A : St} {gf : Nat} {cs : List AV} (hg : A.ev γ g = .fn gf [] cs) {K : Nat → Exit → St → Prop}
    (hit : ∀ (l D fn : Nat) (t : Array Value), t.size = A.n → SCalls P γ gf (.raw (.func (.yield l) #[] #[]) :: cs) (A.h ++ [.obj D oDef .nil #[], .obj l (recOf fn t ps asg bd D .ready none) A.s t]) fun _ h' =>
      (h'[A.h.length + 1]? = some (.obj l (recOf fn t ps asg bd D .ready none) A.s t) ∧ K D .normal ⟨A.n, A.s, h'.set (A.h.length + 1) (.obj l (recOf fn t ps asg bd D .exhausted none) A.s t)⟩) ∨
      (h'[A.h.length + 1]? = some (.obj l (recOf fn t ps asg bd D .done (some .ret)) A.s t) ∧ K D .ret ⟨A.n, A.s, h'.set (A.h.length + 1) (.obj l (recOf fn t ps asg bd D .exhausted (some .ret)) A.s t)⟩))
    {B : Nat} {S : Nat → Prop} {ρ : List Loc} {a : Act} {w : World} {n : Nat} (hs : Sim B S γ ρ A a w) :
    (Code.block id (.rangeFunc g ps asg bd)).wpIn Fence.wide n P (fun e a' w' => ∃ D a0 S' ρ' A', a' = df [mark D] a0 ∧ K D e A' ∧ Sim B S' γ ρ' A' a0 w' ∧ Ext B S ρ w S' ρ' w') a w := by
  refine wpIn_block (wpIn_rangeFunc fun fn _ => ?_)
  have hgv := hs.ev g
  rw [hg] at hgv
  obtain ⟨fv, cv, hgv, hr1, hr2⟩ := hgv
  have hfv : fv = [] := by cases fv with
    | nil => rfl
    | cons x xs => exact absurd hr1 (by simp [Rs])
  subst hfv
  obtain ⟨ρ1, hh1, hx1⟩ := hs.heap.allocObj oDef oDef_nc .nil #[] fun m => rfl
  obtain ⟨ρ2, hh2, hx2⟩ := hh1.allocObj (recOf fn a.tmps ps asg bd w.heap.size .ready none) recOf_nc A.s a.tmps fun m => hx1.R (hs.slot m)
  have hx := hx1.trans hx2
  have hsz : (w.alloc oDef).heap.size = w.heap.size + 1 := World.size_alloc ..
  rw [hsz] at hh2
  have hcall := hit (w.heap.size + 1) w.heap.size fn a.tmps hs.size
  have hvals : Rs S ((w.alloc oDef).alloc (recOf fn a.tmps ps asg bd w.heap.size .ready none)) (some ρ2) (.raw (.func (.yield (w.heap.size + 1)) #[] #[]) :: cs) (.func (.yield (w.heap.size + 1)) #[] #[] :: cv) :=
    ⟨_, _, rfl, rfl, Rs.mono (fun _ h => h) hx.same (ρ := some ρ) (ρ' := some ρ2) hx.locs _ _ hr2⟩
  have hc := hcall.2 B S ρ2 _ _ (by simpa using hh2) hvals
  have hargs : (#[.func (.yield (w.heap.size + 1)) #[] #[]] : Array Value) ++ cv.toArray = (.func (.yield (w.heap.size + 1)) #[] #[] :: cv : List Value).toArray := by apply Array.toList_inj.1; simp
  refine ⟨w.heap.size + 1, [mark w.heap.size], (w.alloc oDef).alloc (recOf fn a.tmps ps asg bd w.heap.size .ready none), { target := .fn (.func gf) cv.toArray, args := #[.func (.yield (w.heap.size + 1)) #[] #[]] }, (w.alloc oDef).alloc (recOf fn a.tmps ps asg bd w.heap.size .ready none), gf, #[.func (.yield (w.heap.size + 1)) #[] #[]] ++ cv.toArray, (w.alloc oDef).alloc (recOf fn a.tmps ps asg bd w.heap.size .ready none), run_enterLoop_outer _ _ _ _ _, ?_, fun _ _ => trivial, ?_, (by intro h; cases h), ?_⟩
  · simp only [resolve, hgv]
    simp [go_sem]
  · simp only [invoke]
    exact hcall.1 _ _
  · rw [hargs]
    refine callsIn_wide.2 (hc.mono fun e w3 ⟨v, h', S3, ρ3, v', he, hq, hv, hh3, hx3⟩ => ?_)
    subst he
    have hact : ({ a with defers := [mark w.heap.size] ++ a.defers } : Act) = df [mark w.heap.size] a := by
      have := hs.nodef
      unfold df; rw [this]; rfl
    rcases hq with ⟨hb, hk⟩ | ⟨hb, hk⟩
    · obtain ⟨hl, hh4, hx4, hsl⟩ := hh3.putObj (recOf fn a.tmps ps asg bd w.heap.size .exhausted none) hb recOf_nc recOf_nc
      refine ⟨none, _, run_endLoop hl (by intro h; cases h), ?_⟩
      refine ⟨_, a, S3, ρ3, _, hact, hk, ⟨hs.nodef, hs.size, hs.small, fun m => hx4.R (hsl m), hh4⟩, (hx.trans hx3).trans hx4⟩
    · obtain ⟨hl, hh4, hx4, hsl⟩ := hh3.putObj (recOf fn a.tmps ps asg bd w.heap.size .exhausted (some .ret)) hb recOf_nc recOf_nc
      refine ⟨some .ret, _, run_endLoop hl (by intro h; cases h), wpIn_ret ?_⟩
      refine ⟨_, a, S3, ρ3, _, hact, hk, ⟨hs.nodef, hs.size, hs.small, fun m => hx4.R (hsl m), hh4⟩, (hx.trans hx3).trans hx4⟩
end
end Go.AL

namespace Go.AL
open Go Go.RowKit

section
variable {P : Program} {γ : Nat → Option AV}

/-- what holds at the end of the body, the mark's calls taken over -/
def endF (T : Nat → TI) (rs : List ResultVar) (F : AV → List Blk → Prop) (D bD : Nat) (oD oD' : Obj) (e : Exit) (A : St) : Prop :=
  A.h[bD]? = some (.obj D oD .nil #[]) ∧ bodyQ T rs F e ⟨A.n, A.s, A.h.set bD (.obj D oD' .nil #[])⟩

/-- what the loop asks of the state that comes to it -/
def RFp (P : Program) (γ : Nat → Option AV) (T : Nat → TI) (C : EC) (D : Array Oper → (St → Prop) → St → Prop) (F : AV → List Blk → Prop) (g : Operand) (ps : Array Tmp) (asg bd : Code) (rs : List ResultVar) (post : List Code) (A : St) : Prop :=
  ∃ A' gf cs, Step γ A A' ∧ A'.ev γ g = .fn gf [] cs ∧ (ps.toList.all fun p => decide (p < A'.n)) = true ∧ ∀ (l DD : Nat) (t : Array Value) (oR oB oX oE oEX oD oD' : Obj),
    (∀ (args : List AV) (H : List Blk) (Q : AV → List Blk → Prop), ps.toList.length = args.length → H[A'.h.length + 1]? = some (.obj l oR A'.s t) →
      vc T γ C D (fun _ _ _ => False) asg (thenE (fun A1 => A1.h[A'.h.length + 1]? = some (.obj l oR A'.s t) ∧ vc T γ C D (fun _ _ _ => False) bd (endQ (A'.h.length + 1) l oB oR (some oX) A'.s t Q) ⟨A1.n, A1.s, A1.h.set (A'.h.length + 1) (.obj l oB A'.s t)⟩) fun _ _ => False) ⟨A'.n, sets (ps.toList.zip args) A'.s, H⟩ → YCall P γ l args H Q) →
    SCalls P γ gf (.raw (.func (.yield l) #[] #[]) :: cs) (A'.h ++ [.obj DD oD .nil #[], .obj l oR A'.s t]) fun _ h' =>
      (h'[A'.h.length + 1]? = some (.obj l oR A'.s t) ∧ vcl T γ C D (fun _ _ _ => False) post (endF T rs F DD A'.h.length oD oD') ⟨A'.n, A'.s, h'.set (A'.h.length + 1) (.obj l oE A'.s t)⟩) ∨
      (h'[A'.h.length + 1]? = some (.obj l oX A'.s t) ∧ endF T rs F DD A'.h.length oD oD' .ret ⟨A'.n, A'.s, h'.set (A'.h.length + 1) (.obj l oEX A'.s t)⟩)

theorem endF_run {τ : Nat → TI} (hτ : ∀ t, τ t = tiOf P t) {fn : Func} {F : AV → List Blk → Prop} {D bD : Nat} {e : Exit} {A : St} (h : endF τ fn.results.toList F D bD oDef (.deferred none) e A) {B : Nat} {S : Nat → Prop} {ρ : List Loc} {a : Act} {w : World} (hs : Sim B S γ ρ A a w) {R' : Ending → World → Prop}
    (hR : ∀ h' w' v v', F v h' → HeapR B S γ ρ h' w' → R S w' (some ρ) v v' → Ext B S ρ w S ρ w' → R' (.returned v') w') {n : Nat} : bodyPostM Fence.wide n P fn R' e (df [mark D] a) w := by
  obtain ⟨hb, hq⟩ := h
  obtain ⟨hD, hh, hx, _⟩ := hs.heap.putObj (.deferred none) hb oDef_nc fun _ _ _ h => by cases h
  have hs' : Sim B S γ ρ ⟨A.n, A.s, A.h.set bD (.obj D (.deferred none) .nil #[])⟩ a (w.putObj D (.deferred none)) := ⟨hs.nodef, hs.size, hs.small, fun m => hx.R (hs.slot m), hh⟩
  have := bodyQ_run hτ hq hs' (R' := R') fun v v' hv hr => hR _ _ v v' hv hh hr hx
  have go : (a.defers = [] ∧ ∃ v, (results fn a.tmps).run P (w.putObj D (.deferred none)) = .ok v (w.putObj D (.deferred none)) ∧ R' (.returned v) (w.putObj D (.deferred none))) → LeavesInM Fence.wide n P fn a.tmps R' (a.defers ++ [mark D]) .returning w := fun ⟨hd, v, h1, h2⟩ => by
    rw [hd]
    exact ⟨by simp, .inl ⟨D, _, rfl, run_takeDeferred hD, v, h1, h2⟩⟩
  cases e with
  | normal => exact go this
  | ret => exact go this
  | _ => exact hq.elim

/-- A CONTRACT ON DATA, of a function with a range over a function. -/
theorem Pure.goR {ty : Program → Nat → TI} (hτ : ∀ t, ty P t = tiOf P t) (hm : P.follows .mixedOrders = true) {f : FuncId} {fn : Func} {n : Nat} {rs : Array ResultVar}
    (hf : P.funcs[f]? = some fn) (hb : fn.body = some (fn.body.getD .skip)) (hn : fn.ntmps = n) (hr : fn.results = rs) (he : Enters P f) {args : List AV} {y : AV} (hsz : args.length ≤ n ∧ n < 1000)
    (k : Nat) {id : Nat} {g : Operand} {ps : Array Tmp} {asg bd : Code} {pre post : List Code} (hk : citems (fn.body.getD .skip) = pre ++ .block id (.rangeFunc g ps asg bd) :: post) (hnd : (noDef asg && noDef bd && post.all noDef) = true)
    (h : ∀ (P' : Program) (C : EC) (CQ : List Blk → QC) (D : Array Oper → (St → Prop) → St → Prop) (W : Code → (Exit → St → Prop) → St → Prop) (C2 : EC) (CQ2 : List Blk → QC) (D2 : Array Oper → (St → Prop) → St → Prop) (F : AV → List Blk → Prop) (RQ : St → Prop), Env P γ C CQ (ty P') D W → EnvX P γ C2 CQ2 (ty P') D2 →
      (∀ {v h}, fz h y v → F v h) → (∀ {A}, RFp P γ (ty P') C2 D2 F g ps asg bd rs.toList post A → RQ A) → vcl (ty P') γ C D W pre (thenE RQ (bodyQ (ty P') rs.toList F)) (start n args [])) : Pure P γ false f args y := by
  subst hn; subst hr
  simp only [Bool.and_eq_true] at hnd
  obtain ⟨⟨hnd1, hnd2⟩, hnd3⟩ := hnd
  refine ⟨he, fun S w vals hS hg hargs => callsIn_wide.1 (callsIn_of_wp_marks (F := Fence.wide) (n := 0) hf hb trivial ?_)⟩
  have hh : HeapR w.heap.size S γ [] [] w := ⟨rfl, fun b blk loc h _ => by simp at h, fun b loc K h _ => by simp at h, fun b b' loc loc' K h _ _ _ => by simp at h, hS, hg, Nat.le_refl _, fun b loc h => by simp at h⟩
  have hs0 := Sim.start hh (Rs.mono (S := S) (fun _ h => h) (fun _ _ => rfl) (ρ := none) (ρ' := some []) trivial _ _ hargs) hsz.1 hsz.2
  have E := Env.top (γ := γ) hτ hm
  have h0 := h P _ _ _ _ _ _ _ (fun v h => fz h y v) (RFp P γ (ty P) (PC P γ) (Dx P γ) (fun v h => fz h y v) g ps asg bd fn.results.toList post) E (EnvX.top hτ hm) (fun h => h) (fun h => h)
  have fin0 : ∀ h'' w'' (X : (Nat → Prop) × List Loc) v v', fz h'' y v → HeapR w.heap.size X.1 γ X.2 h'' w'' → R X.1 w'' (some X.2) v v' → Ext w.heap.size S [] w X.1 X.2 w'' → ∃ v'' S', Ending.returned v' = .returned v'' ∧ R S' w'' none y v'' ∧ ExtQ (fun k => false = false ∧ S k) w S' w'' := fun h'' w'' ⟨S', ρ'⟩ v v' hv hh2 hr h3 => by
    refine ⟨v', Froz S' ρ', rfl, fz_sound hh2 y v v' hv hr, h3.fr, h3.below, fun k hk => .inl (h3.sub k hk.2), fun k hk => ?_⟩
    rcases hk with hk | ⟨b, loc, hb, hk⟩
    · rcases h3.grow k hk with h4 | h4
      · exact .inl ⟨rfl, h4⟩
      · exact .inr ⟨h4, hh2.sle k hk⟩
    · obtain ⟨_, h5, h6⟩ := hh2.own b loc k hb hk
      exact .inr ⟨h6, h5⟩
  have fin : ∀ D bD e A S' ρ' a' w', endF (ty P) fn.results.toList (fun v h => fz h y v) D bD oDef (.deferred none) e A → Sim w.heap.size S' γ ρ' A a' w' → Ext w.heap.size S [] w S' ρ' w' →
      bodyPostM Fence.wide 0 P fn (fun e w' => ∃ v' S', e = .returned v' ∧ R S' w' none y v' ∧ ExtQ (fun k => false = false ∧ S k) w S' w') e (df [mark D] a') w' := fun D bD e A S' ρ' a' w' h1 h2 h3 => by
    exact endF_run hτ h1 h2 fun h'' w'' v v' hv hh2 hr hx => fin0 _ _ (S', ρ') v v' hv hh2 hr (h3.trans hx)
  refine wpInL_items _ ?_
  rw [hk]
  refine wpInL_app (wpInL_mono ?_ (pre_sound E _ _ _ h0 _ _ _ _ w hs0))
  rintro e a1 w1 ⟨S1, ρ1, A1, h1, hs1, hx1⟩
  cases e with
  | normal =>
    obtain ⟨A2, gf, cs, hstep, hg2, hps, hit⟩ := h1
    obtain ⟨S2, ρ2, hs2, hx2⟩ := hstep _ _ _ _ _ hs1
    have hps : ∀ p ∈ ps.toList, p < A2.n := fun p hp => by simpa using List.all_eq_true.1 hps p hp
    refine wpIn_mono (rf_sound (id := id) (K := fun D e A => match e with | .normal => vcl (ty P) γ (PC P γ) (Dx P γ) (fun _ _ _ => False) post (endF (ty P) fn.results.toList (fun v h => fz h y v) D A2.h.length oDef (.deferred none)) A | .ret => endF (ty P) fn.results.toList (fun v h => fz h y v) D A2.h.length oDef (.deferred none) .ret A | _ => False) hg2 (fun l D fn' t ht => ?_) hs2) ?_
    · refine (hit l D t (recOf fn' t ps asg bd D .ready none) (recOf fn' t ps asg bd D .busy none) (recOf fn' t ps asg bd D .done (some .ret)) (recOf fn' t ps asg bd D .exhausted none) (recOf fn' t ps asg bd D .exhausted (some .ret)) oDef (.deferred none) fun args H Q hl hH hv => ?_).mono fun v h' h3 => h3
      refine YCall.of_body ht hs2.small hl hps hH ?_
      refine (EnvX.to (ro := some l) (ds := []) hτ hm hnd1 hv).mono fun e A' h' => ?_
      cases e with
      | normal => exact ⟨h'.1, EnvX.to (ro := some l) (ds := []) hτ hm hnd2 h'.2⟩
      | _ => exact h'.elim
    · rintro e a3 w3 ⟨D, a4, S3, ρ3, A3, rfl, h3, hs3, hx3⟩
      have hx := (hx1.trans hx2).trans hx3
      cases e with
      | normal =>
        refine wpInL_mono ?_ (post_sound (ds := [mark D]) hτ hm post _ _ hnd3 h3 _ _ _ _ _ hs3)
        rintro e a5 w5 ⟨a6, S5, ρ5, A5, rfl, h5, hs5, hx5⟩
        exact fin _ _ _ _ _ _ _ _ h5 hs5 (hx.trans hx5)
      | ret => exact fin _ _ _ _ _ _ _ _ h3 hs3 hx
      | _ => exact h3.elim
  | ret =>
    obtain ⟨hd, v, k1, k2⟩ := bodyQ_run (R' := fun e w' => ∃ v' S', e = .returned v' ∧ R S' w' none y v' ∧ ExtQ (fun k => false = false ∧ S k) w S' w') hτ (show bodyQ (ty P) fn.results.toList (fun v h => fz h y v) .ret A1 from h1) hs1 fun v v' hv hr => fin0 _ _ (S1, ρ1) v v' hv hs1.heap hr hx1
    show LeavesInM Fence.wide 0 P fn a1.tmps _ a1.defers .returning w1
    rw [hd]
    exact ⟨v, k1, k2⟩
  | _ => exact h1.elim

def rfOf : Option Code → Nat × Operand × Array Tmp × Code × Code
  | some (.block id (.rangeFunc g ps asg bd)) => (id, g, ps, asg, bd)
  | _ => (0, .const Go.undef, #[], .skip, .skip)
def rfAt (c : Code) (k : Nat) : Nat × Operand × Array Tmp × Code × Code := rfOf (citems c)[k]?
def rfB (c : Code) (k : Nat) : Bool := match (citems c)[k]? with | some (.block _ (.rangeFunc ..)) => noDef (rfAt c k).2.2.2.1 && noDef (rfAt c k).2.2.2.2 && ((citems c).drop (k + 1)).all noDef | _ => false
theorem rf_split {c : Code} {k : Nat} (h : rfB c k = true) : citems c = (citems c).take k ++ .block (rfAt c k).1 (.rangeFunc (rfAt c k).2.1 (rfAt c k).2.2.1 (rfAt c k).2.2.2.1 (rfAt c k).2.2.2.2) :: (citems c).drop (k + 1) ∧ (noDef (rfAt c k).2.2.2.1 && noDef (rfAt c k).2.2.2.2 && ((citems c).drop (k + 1)).all noDef) = true := by
  unfold rfB at h
  split at h
  · rename_i id g ps asg bd hk
    refine ⟨?_, h⟩
    have e : rfAt c k = (id, g, ps, asg, bd) := by unfold rfAt; rw [hk]; rfl
    rw [e]
    obtain ⟨hlt, hk⟩ := List.getElem?_eq_some_iff.1 hk
    rw [← hk, ← List.drop_eq_getElem_cons hlt, List.take_append_drop]
  · cases h

/-- the same; the loop is the k-th item -/
theorem Pure.goK {ty : Program → Nat → TI} (hτ : ∀ t, ty P t = tiOf P t) (hm : P.follows .mixedOrders = true) {f : FuncId} {fn : Func} {n : Nat} {rs : Array ResultVar}
    (hf : P.funcs[f]? = some fn) (hb : fn.body = some (fn.body.getD .skip)) (hn : fn.ntmps = n) (hr : fn.results = rs) (he : Enters P f) {args : List AV} {y : AV} (hsz : args.length ≤ n ∧ n < 1000)
    (k : Nat) (hk : rfB (fn.body.getD .skip) k = true)
    (h : ∀ (P' : Program) (C : EC) (CQ : List Blk → QC) (D : Array Oper → (St → Prop) → St → Prop) (W : Code → (Exit → St → Prop) → St → Prop) (C2 : EC) (CQ2 : List Blk → QC) (D2 : Array Oper → (St → Prop) → St → Prop) (F : AV → List Blk → Prop) (RQ : St → Prop), Env P γ C CQ (ty P') D W → EnvX P γ C2 CQ2 (ty P') D2 →
      (∀ {v h}, fz h y v → F v h) → (∀ {A}, RFp P γ (ty P') C2 D2 F (rfAt (fn.body.getD .skip) k).2.1 (rfAt (fn.body.getD .skip) k).2.2.1 (rfAt (fn.body.getD .skip) k).2.2.2.1 (rfAt (fn.body.getD .skip) k).2.2.2.2 rs.toList ((citems (fn.body.getD .skip)).drop (k + 1)) A → RQ A) →
      vcl (ty P') γ C D W ((citems (fn.body.getD .skip)).take k) (thenE RQ (bodyQ (ty P') rs.toList F)) (start n args [])) : Pure P γ false f args y :=
  Pure.goR hτ hm hf hb hn hr he hsz k (rf_split hk).1 (rf_split hk).2 h

theorem Step.refl {A : St} : Step γ A A := fun _ S ρ _ _ hs => ⟨S, ρ, hs, Ext.refl _ _ _ _⟩
/-- a nil slice in a box gets a run -/
theorem Step.ghostBox {A : St} (b k : Nat) (hb : A.h[b]? = some (.box .nils)) : Step γ A ⟨A.n, A.s, (A.h ++ [Blk.run 0 k fun _ => .nil]).set b (.box (.sl A.h.length 0 k (fun _ => 0) fun _ => 0))⟩ := fun B S ρ a w hs => by
  obtain ⟨h1, h2⟩ := hs.heap.ghostR k
  have hlt : b < ρ.length := by rw [hs.heap.len]; exact (List.getElem?_eq_some_iff.1 hb).1
  refine ⟨S, _, ⟨hs.nodef, hs.size, hs.small, fun n => h2.R (hs.slot n), h1.retell b _ fun loc hloc => ?_⟩, h2⟩
  rw [List.getElem?_append_left hlt] at hloc
  obtain ⟨k1, K, ty, xv, k2, k3, k4, _⟩ := hs.heap.blk b _ loc hb hloc
  exact ⟨k1, K, ty, xv, k2, k3, by rw [← hs.heap.len]; exact R_ghost k k4, rfl⟩
end
end Go.AL

namespace Go.AL.Rl
open Go Go.AL Go.Proofs
set_option maxRecDepth 100000
set_option maxHeartbeats 3200000
variable {γ : Nat → Option AV}

def racesV (v : RV) : List Rc := (rpA v v.ids.length v.ids.length).map (rcOf v)
theorem rvG_wf {g : Gr} (h : GOk g) : RWf (rvG g) := by
  have hV := viewG_wf h
  have hl : (hbF (viewG g) (nG g)).length = nG g := by have := (hb_fits (viewG g) hV.small).2.2.1; omega
  have e : nG g = g.init.length + (idsT g g.th.length).length := by unfold nG idsG; simp [idsI_len]
  have h1 := hV.small
  unfold rvG
  constructor
  · exact (idsT_len g g.th.length).symm
  · simp only; omega
  · simp only; omega
  · simp only; omega
theorem vall_ok (v : RV) : Pure Try.prog γ false 29 [aRV v] (.fn 40 [] [.vp (fun _ => aRV v) 0]) := by
  unfold aRV
  refine Pure.go (ty := ty) ty_eq mo Try.func29 rfl Try.ntmps29 Try.results29 Try.call29 (by simp) fun P C CQ D W F E hF => ?_
  cbv
  repeat' (first
    | (refine ⟨fun _ h_s => ?_, fun _ h_s => ?_⟩ <;> (cbv; (try simp only [nc] at *); try simp (disch := (first | omega | (simp only [lnS]; omega))) only [rdT, rdS, reduceCtorEq, trT] at h_s))
    | (refine hF ?_; intro _; clear hF)
    | (refine hF ?_; cbv; clear hF)
    | (refine ⟨fun _ => ?_, ?_⟩; (· ((try simp only [nc] at *); first | done | omega | exact ⟨by omega, rfl⟩ | (simp (disch := (first | omega | (simp only [lnS]; omega))) only [rdT, rdS]; first | done | omega | rfl | exact ⟨by omega, rfl⟩ | (simp; done) | (simp; omega)) | (intros; trivial))); (try (simp only [nc] at *)); (try simp (disch := (first | omega | (simp only [lnS]; omega))) only [rdT, rdS]); (try cbv))
    | fail
  )
  simp
theorem rall_yes (g : Gr) (hg : Rd g) (h : GOk g) : Pure Try.prog γ false 11 [aGr g] (.tup [.vs 5 fun _ => rcs (racesV (rvG g)), .i fun _ => 0]) := by
  have kl := rlook_yes (γ := γ) g hg h
  have hw := rvG_wf h
  have hsm : (rvG g).ids.length ≤ 64 := by have := hw.big; have := hw.small; have := hw.sh; omega
  generalize rvG g = v at *
  have ka := vall_ok (γ := γ) v
  unfold aRV at kl ka
  obtain ⟨rg, hrg⟩ : ∃ rg, rg = rcs (racesV v) := ⟨_, rfl⟩
  rw [← hrg]
  refine Pure.goK (ty := ty) ty_eq mo Try.func11 rfl Try.ntmps11 Try.results11 Try.call11 (by simp) 6 (by kernel_rfl) fun P C CQ D W C2 CQ2 D2 F RQ E E2 hF hR => ?_
  cbv
  repeat' (first
    | (refine E.c (SCalls.of_le (ka) ?_ ?_); (· (cbv; (try simp only [nc] at *); first | done | (simp; done) | (simp (disch := (first | omega | (simp only [lnS]; omega))) only [rdT, rdS, anT]; first | done | omega | (refine ⟨?_, ?_⟩ <;> omega)) | (simp (disch := (first | omega | (simp only [lnS]; omega))) [rdT, rdS]; done))); cbv)
    | (refine E.c (SCalls.of_le (kl) ?_ ?_); (· (cbv; (try simp only [nc] at *); first | done | (simp; done) | (simp (disch := (first | omega | (simp only [lnS]; omega))) only [rdT, rdS, anT]; first | done | omega | (refine ⟨?_, ?_⟩ <;> omega)) | (simp (disch := (first | omega | (simp only [lnS]; omega))) [rdT, rdS]; done))); cbv)
    | (refine ⟨fun _ h_s => ?_, fun _ h_s => ?_⟩ <;> (cbv; (try simp only [nc] at *); try simp (disch := (first | omega | (simp only [lnS]; omega))) only [rdT, rdS, reduceCtorEq, trT] at h_s))
    | (refine hF ?_; intro _; clear hF)
    | (refine hF ?_; cbv; clear hF)
    | (refine ⟨fun _ => ?_, ?_⟩; (· ((try simp only [nc] at *); first | done | omega | exact ⟨by omega, rfl⟩ | (simp (disch := (first | omega | (simp only [lnS]; omega))) only [rdT, rdS]; first | done | omega | rfl | exact ⟨by omega, rfl⟩ | (simp; done) | (simp; omega)) | (intros; trivial))); (try (simp only [nc] at *)); (try simp (disch := (first | omega | (simp only [lnS]; omega))) only [rdT, rdS]); (try cbv))
    | (refine E.d 19 (by decide +kernel) ?_; cbv; (fail_if_success guard_target =~ False))
    | fail
  )
  obtain ⟨G, hG⟩ : ∃ G : List (Nat × Nat) → Nat, ∀ l, G l = l.length := ⟨_, fun _ => rfl⟩
  have hG0 : G [] = 0 := by rw [hG]; rfl
  have hGS : ∀ l x, G (l ++ [x]) = G l + 1 := fun l x => by rw [hG, hG]; simp
  refine hR ⟨_, _, _, Step.ghostBox 2 5 rfl, rfl, by cbv, fun l D t oR oB oX oE oEX oD oD' hY => ?_⟩
  refine SCalls.mono (h := hpA g v 0 [] l D oR oD _ t) (hG0 ▸ allA_to g v hw hsm l D oR oD _ t ?a G fun pre a b hb hab ho hp => hY _ _ _ rfl rfl ?b) fun _ h' hh' => .inl ?c
  case a => cbv; simp
  case c =>
    have e : racesV v = (rpA v v.ids.length v.ids.length).map (rcOf v) := rfl
    rw [e] at hrg
    generalize rpA v v.ids.length v.ids.length = L at *
    generalize L.map (rcOf v) = M at *
    subst hh'
    cbv
    repeat' (first
      | (refine ⟨fun _ h_s => ?_, fun _ h_s => ?_⟩ <;> (cbv; (try simp only [nc] at *); try simp (disch := (first | omega | (simp only [lnS]; omega))) only [rdT, rdS, reduceCtorEq, trT] at h_s))
      | (refine hF ?_; intro _; clear hF)
      | (refine hF ?_; cbv; clear hF)
      | (refine ⟨fun _ => ?_, ?_⟩; (· ((try simp only [nc] at *); first | done | omega | exact ⟨by omega, rfl⟩ | (simp (disch := (first | omega | (simp only [lnS]; omega))) only [rdT, rdS]; first | done | omega | rfl | exact ⟨by omega, rfl⟩ | (simp; done) | (simp; omega)) | (intros; trivial))); (try (simp only [nc] at *)); (try simp (disch := (first | omega | (simp only [lnS]; omega))) only [rdT, rdS]); (try cbv))
      | (refine E.d 19 (by decide +kernel) ?_; cbv; (fail_if_success guard_target =~ False))
      | fail
    )
    simp [hrg]
    exact List.take_of_length_le (by simp)
  case b =>
    have e1 := hw.len
    have e3 : pre.map (rcOf v) ++ [rcOf v (a, b)] = (pre ++ [(a, b)]).map (rcOf v) := by simp
    have e4 := hGS pre (a, b)
    have e5 : pre.length = (pre.map (rcOf v)).length := by simp
    have e6 : rcOf v (a, b) = ⟨(rAt v a).loc, v.ids.getD a id0, v.ids.getD b id0⟩ := rfl
    have e7 := hG pre
    rw [← e3, e4]
    rw [e5] at hp e7
    obtain ⟨P2, hP2⟩ : ∃ P2, P2 = pre.map (rcOf v) ++ [rcOf v (a, b)] := ⟨_, rfl⟩
    rw [← hP2]
    generalize pre.map (rcOf v) = Pr at *
    generalize G pre = gp at *
    cbv
    refine E2.d 19 (by decide +kernel) ?_
    cbv
    repeat' (first
      | (refine ⟨fun _ h_s => ?_, fun _ h_s => ?_⟩ <;> (cbv; (try simp only [nc] at *); try simp (disch := (first | omega | (simp only [lnS]; omega))) only [rdT, rdS, reduceCtorEq, trT] at h_s))
      | (refine hF ?_; intro _; clear hF)
      | (refine hF ?_; cbv; clear hF)
      | (refine ⟨fun _ => ?_, ?_⟩; (· ((try simp only [nc] at *); first | done | omega | exact ⟨by omega, rfl⟩ | (simp (disch := (first | omega | (simp only [lnS]; omega))) only [rdT, rdS]; first | done | omega | rfl | exact ⟨by omega, rfl⟩ | (simp; done) | (simp; omega)) | (intros; trivial))); (try (simp only [nc] at *)); (try simp (disch := (first | omega | (simp only [lnS]; omega))) only [rdT, rdS]); (try cbv))
      | (refine E.d 19 (by decide +kernel) ?_; cbv; (fail_if_success guard_target =~ False))
      | fail
    )
    refine ⟨fun _ => ⟨trivial, trivial, by simp, by simp; omega, by simp; omega, by simp [AV.flat, AV.cells, AV.one, setAll, AV.nrm, nrms, nrm1]⟩, ?_⟩
    simp [hP2, e6, rcs, aRc, setAll, AV.nrm, nrms, nrm1, rAt, ev0, id0]
end Go.AL.Rl

namespace Go.AL.Rl
open Go Go.AL Go.Proofs
set_option maxRecDepth 100000
set_option maxHeartbeats 3200000

section
variable {g : Gr} {l : List EId} (hg : GOk g) (hC : ClG g l)
include hg hC
end
end Go.AL.Rl

namespace Go.AL.Rl
open Go Go.AL Go.Proofs
set_option maxRecDepth 100000
set_option maxHeartbeats 3200000
variable {γ : Nat → Option AV}

end Go.AL.Rl

namespace Go.AL.Rl
open Go Go.AL Go.Proofs
set_option maxRecDepth 100000
set_option maxHeartbeats 3200000
variable {γ : Nat → Option AV}

theorem rone_int (v : RV) (hv : RWf v) (a b : Int) (ha : 0 ≤ a ∧ a < v.ids.length) (hb : 0 ≤ b ∧ b < v.ids.length) : Pure Try.prog γ false 33 [aRV v, .i fun _ => a, .i fun _ => b] (.b fun _ => oneM v a.toNat b.toNat) := by
  have := rone_ok (γ := γ) v hv a.toNat b.toNat (by omega) (by omega)
  rwa [Int.toNat_of_nonneg ha.1, Int.toNat_of_nonneg hb.1] at this
def btM (v : RV) (a b : EId) : Bool := decide (0 ≤ numI v.ids a) && decide (0 ≤ numI v.ids b) && oneM v (numI v.ids a).toNat (numI v.ids b).toNat
theorem rbetween_yes (g : Gr) (hg : Rd g) (h : GOk g) (a b : EId) : Pure Try.prog γ false 14 [aGr g, aId a, aId b] (.b fun _ => btM (rvG g) a b) := by
  have kl := rlook_yes (γ := γ) g hg h
  have hw := rvG_wf h
  generalize rvG g = v at *
  have hsm : (v.ids.length : Int) ≤ 9223372036854775807 := by have := hw.big; have := hw.small; have := hw.sh; omega
  have ka := index_ok (γ := γ) v.ids a hsm
  have kb := index_ok (γ := γ) v.ids b hsm
  have ko := rone_int (γ := γ) v hw (numI v.ids a) (numI v.ids b)
  have la := numI_lt v.ids a
  have lb := numI_lt v.ids b
  unfold btM
  generalize numI v.ids a = x at *
  generalize numI v.ids b = y at *
  unfold aRV at kl ko
  refine Pure.go (ty := ty) ty_eq mo Try.func14 rfl Try.ntmps14 Try.results14 Try.call14 (by simp) fun P C CQ D W F E hF => ?_
  cbv
  repeat' (first
    | (refine E.c (SCalls.of_le (ko (by ((try simp only [nc] at *); omega)) (by ((try simp only [nc] at *); omega))) ?_ ?_); (· (cbv; (try simp only [nc] at *); first | done | (simp; done) | (simp (disch := (first | omega | (simp only [lnS]; omega))) only [rdT, rdS, anT]; first | done | omega | (refine ⟨?_, ?_⟩ <;> omega)) | (simp (disch := (first | omega | (simp only [lnS]; omega))) [rdT, rdS]; done))); cbv)
    | ((first | refine E.c (SCalls.of_le (kb) ?_ ?_) | refine E.q (QCalls.of_le (kb) ?_ ?_)); (· (cbv; (try simp only [nc] at *); first | done | (simp; done) | (simp (disch := (first | omega | (simp only [lnS]; omega))) only [rdT, rdS, anT]; first | done | omega | (refine ⟨?_, ?_⟩ <;> omega)) | (simp (disch := (first | omega | (simp only [lnS]; omega))) [rdT, rdS]; done))); cbv)
    | ((first | refine E.c (SCalls.of_le (ka) ?_ ?_) | refine E.q (QCalls.of_le (ka) ?_ ?_)); (· (cbv; (try simp only [nc] at *); first | done | (simp; done) | (simp (disch := (first | omega | (simp only [lnS]; omega))) only [rdT, rdS, anT]; first | done | omega | (refine ⟨?_, ?_⟩ <;> omega)) | (simp (disch := (first | omega | (simp only [lnS]; omega))) [rdT, rdS]; done))); cbv)
    | (refine E.c (SCalls.of_le (kl) ?_ ?_); (· (cbv; (try simp only [nc] at *); first | done | (simp; done) | (simp (disch := (first | omega | (simp only [lnS]; omega))) only [rdT, rdS, anT]; first | done | omega | (refine ⟨?_, ?_⟩ <;> omega)) | (simp (disch := (first | omega | (simp only [lnS]; omega))) [rdT, rdS]; done))); cbv)
    | (refine ⟨fun _ h_s => ?_, fun _ h_s => ?_⟩ <;> (cbv; (try simp only [nc] at *); try simp (disch := (first | omega | (simp only [lnS]; omega))) only [rdT, rdS, reduceCtorEq, trT] at h_s))
    | (refine hF ?_; intro _; clear hF)
    | (refine hF ?_; cbv; clear hF)
    | (refine ⟨fun _ => ?_, ?_⟩; (· ((try simp only [nc] at *); first | done | omega | exact ⟨by omega, rfl⟩ | (simp (disch := (first | omega | (simp only [lnS]; omega))) only [rdT, rdS]; first | done | omega | rfl | exact ⟨by omega, rfl⟩ | (simp; done) | (simp; omega)) | (intros; trivial))); (try (simp only [nc] at *)); (try simp (disch := (first | omega | (simp only [lnS]; omega))) only [rdT, rdS]); (try cbv))
    | (refine E.d 7 (by decide +kernel) ?_; cbv; (fail_if_success guard_target =~ False))
    | fail
  )
  all_goals (try simp only [nc] at *)
  all_goals (try simp (disch := (first | omega | (simp only [lnS]; omega))) only [rdT, rdS])
  all_goals first
    | (simp_all; done)
    | (simp_all; intros; omega)
theorem Rc.ext' {a b : Rc} (h1 : a.loc = b.loc) (h2 : a.a = b.a) (h3 : a.b = b.b) : a = b := by cases a; cases b; simp_all
theorem kraces_ok (a b : List Rc) (ha : (a.length : Int) ≤ 9223372036854775807) : Pure Try.prog γ false 24 [.vs 5 fun _ => rcs a, .vs 5 fun _ => rcs b] (.b fun _ => decide (a = b)) := by
  refine Pure.go (ty := ty) ty_eq mo Try.func24 rfl Try.ntmps24 Try.results24 Try.call24 (by simp) fun P C CQ D W F E hF => ?_
  cbv
  skip
  repeat' (first
    | (refine ⟨fun _ h_s => ?_, fun _ h_s => ?_⟩ <;> (cbv; (try simp only [nc] at *); try simp (disch := (first | omega | (simp only [lnS, rcs_len]; omega))) only [rdT, rdS, rcs_len, rcs_at, reduceCtorEq, trT] at h_s))
    | (refine hF ?_; intro _; clear hF)
    | (refine hF ?_; cbv; clear hF)
    | (refine ⟨fun _ => ?_, ?_⟩; (· ((try simp only [nc] at *); first | done | omega | exact ⟨by omega, rfl⟩ | (simp (disch := (first | omega | (simp only [lnS, rcs_len]; omega))) only [rdT, rdS, rcs_len, rcs_at]; first | done | omega | rfl | exact ⟨by omega, rfl⟩ | (simp; done) | (simp; omega)) | (intros; trivial))); (try (simp only [nc] at *)); (try simp (disch := (first | omega | (simp only [lnS, rcs_len]; omega))) only [rdT, rdS, rcs_len, rcs_at]); (try cbv))
    | (refine E.d 8 (by decide +kernel) ?_; cbv; (fail_if_success guard_target =~ False))
    | fail
  )
  · simp
    intro e; subst e; simp_all
  · refine E.loopS (ι := Nat) (fun i => i ≤ a.length ∧ (∀ k < i, a.getD k rc0 = b.getD k rc0)) (fun i => a.length - i) (fun i => [(5, .i fun _ => ((i : Nat) : Int))]) (fun i h => h) 0 (fun _ => by first | rfl | simp) ⟨Nat.zero_le _, ?_⟩ ?_ fun i hi I hI => ?_
    · intro k hk; omega
    · cbv; simp
    cbv
    obtain ⟨hi, hp⟩ := hi
    repeat' (first
      | (refine hI (i + 1) ?_ ?_ ?_; rotate_left 1; (· ((try simp only [nc] at *); omega)); (cbv; clear hI; (try clear hF); (try simp only [nc] at *); (try simp (disch := (first | omega | (simp only [lnS, rcs_len]; omega))) only [rdT, rdS, rcs_len, rcs_at, anT])); rotate_left 1; (try ((try simp only [nc] at *); omega)))
      | (refine ⟨fun _ h_s => ?_, fun _ h_s => ?_⟩ <;> (cbv; (try simp only [nc] at *); try simp (disch := (first | omega | (simp only [lnS, rcs_len]; omega))) only [rdT, rdS, rcs_len, rcs_at, reduceCtorEq, trT] at h_s))
      | (refine hF ?_; intro _; clear hF)
      | (refine hF ?_; cbv; clear hF)
      | (refine ⟨fun _ => ?_, ?_⟩; (· ((try simp only [nc] at *); first | done | omega | exact ⟨by omega, rfl⟩ | (simp (disch := (first | omega | (simp only [lnS, rcs_len]; omega))) only [rdT, rdS, rcs_len, rcs_at]; first | done | omega | rfl | exact ⟨by omega, rfl⟩ | (simp; done) | (simp; omega)) | (intros; trivial))); (try (simp only [nc] at *)); (try simp (disch := (first | omega | (simp only [lnS, rcs_len]; omega))) only [rdT, rdS, rcs_len, rcs_at]); (try cbv))
      | (refine E.d 8 (by decide +kernel) ?_; cbv; (fail_if_success guard_target =~ False))
      | fail
    )
    · refine decide_eq_false fun e => ?_
      subst e
      simp at h_s
    · refine ⟨by ((try simp only [nc] at *); omega), fun k hk => ?_⟩
      rcases Nat.lt_or_ge k i with h1 | h1
      · exact hp k h1
      · obtain rfl : k = i := by omega
        have h2 : (a.getD k rc0).loc = (b.getD k rc0).loc ∧ (a.getD k rc0).a.t = (b.getD k rc0).a.t ∧ (a.getD k rc0).a.i = (b.getD k rc0).a.i ∧ (a.getD k rc0).b.t = (b.getD k rc0).b.t ∧ (a.getD k rc0).b.i = (b.getD k rc0).b.i := by simpa using h_s
        exact Rc.ext' h2.1 (EId.ext' h2.2.1 h2.2.2.1) (EId.ext' h2.2.2.2.1 h2.2.2.2.2)
    · push_cast; rfl
    · refine decide_eq_true (List.ext_getElem (by ((try simp only [nc] at *); omega)) fun k h1 h2 => ?_)
      have := hp k (by ((try simp only [nc] at *); omega))
      simpa [h1, h2] using this

def gW (o : Int) : Gr := ⟨[0, 0], [[⟨2, 1, 1, 0, 5⟩, ⟨2, 0, 4, 0, 1⟩], [⟨1, 0, o, 1, 0⟩, ⟨1, 1, 1, 5, 0⟩]], [[⟨0, 0⟩, ⟨0, 0⟩], [⟨1, 1⟩, ⟨1, 0⟩]], [[⟨1, 1⟩], [⟨1, 0⟩]]⟩
theorem example17_ok (o : Int) : Pure Try.prog γ false 22 [.i fun _ => o] (aGr (gW o)) := by
  refine Pure.go (ty := ty) ty_eq mo Try.func22 rfl Try.ntmps22 Try.results22 Try.call22 (by simp) fun P C CQ D W F E hF => ?_
  cbv
  repeat' (first
    | (refine ⟨fun _ h_s => ?_, fun _ h_s => ?_⟩ <;> (cbv; (try simp only [nc] at *); try simp (disch := (first | omega | (simp only [lnS, rcs_len]; omega))) only [rdT, rdS, rcs_len, rcs_at, reduceCtorEq, trT] at h_s))
    | (refine hF ?_; intro _; clear hF)
    | (refine hF ?_; cbv; clear hF)
    | (refine ⟨fun _ => ?_, ?_⟩; (· ((try simp only [nc] at *); first | done | omega | exact ⟨by omega, rfl⟩ | (simp (disch := (first | omega | (simp only [lnS, rcs_len]; omega))) only [rdT, rdS, rcs_len, rcs_at]; first | done | omega | rfl | exact ⟨by omega, rfl⟩ | (simp; done) | (simp; omega)) | (intros; trivial))); (try (simp only [nc] at *)); (try simp (disch := (first | omega | (simp only [lnS, rcs_len]; omega))) only [rdT, rdS, rcs_len, rcs_at]); (try cbv))
    | fail
  )
theorem rdW (o : Int) : Rd (gW o) := by
  refine ⟨by simp [gW], by simp [gW], by simp [gW], by simp [gW], ?_, ?_, ?_⟩ <;> simp [gW]
theorem gW3 : GOk (gW 3) := by decide +kernel
theorem gW2 : GOk (gW 2) := by decide +kernel
def vW (o : Int) : Vw := ⟨[⟨0, 0⟩, ⟨0, 1⟩, ⟨1, 0⟩, ⟨1, 1⟩, ⟨2, 0⟩, ⟨2, 1⟩], [⟨2, 0, 1, 0, 0⟩, ⟨2, 1, 1, 0, 0⟩, ⟨2, 1, 1, 0, 5⟩, ⟨2, 0, 4, 0, 1⟩, ⟨1, 0, o, 1, 0⟩, ⟨1, 1, 1, 5, 0⟩], [-1, -1, -1, -1, 3, 2], [0, 0, 1, 1, -1, -1]⟩
theorem gW3v : viewG (gW 3) = vW 3 := by
  unfold viewG vW
  simp only [Vw.mk.injEq]
  decide +kernel
theorem gW2v : viewG (gW 2) = vW 2 := by
  unfold viewG vW
  simp only [Vw.mk.injEq]
  decide +kernel
theorem nGW (o : Int) : nG (gW o) = 6 := rfl
theorem races3 : racesV (rvG (gW 3)) = [] := by
  unfold rvG
  rw [gW3v, nGW]
  unfold hbF
  rw [swC_eq (by omega) (by decide +kernel)]
  decide +kernel
theorem races2 : racesV (rvG (gW 2)) = [⟨1, ⟨1, 0⟩, ⟨2, 1⟩⟩] := by
  unfold rvG
  rw [gW2v, nGW]
  unfold hbF
  rw [swC_eq (by omega) (by decide +kernel)]
  decide +kernel
theorem lives17_ok : Pure Try.prog γ false 8 [] (.b fun _ => true) := by
  have k1 := example17_ok (γ := γ) 3
  have k2 := example17_ok (γ := γ) 2
  have k3 := rall_yes (γ := γ) (gW 3) (rdW 3) gW3
  have k4 := rall_yes (γ := γ) (gW 2) (rdW 2) gW2
  have k5 := kraces_ok (γ := γ) [⟨1, ⟨1, 0⟩, ⟨2, 1⟩⟩] [⟨1, ⟨1, 0⟩, ⟨2, 1⟩⟩] (by simp)
  rw [races3] at k3
  rw [races2] at k4
  generalize gW 3 = g3 at *
  generalize gW 2 = g2 at *
  refine Pure.go (ty := ty) ty_eq mo Try.func8 rfl Try.ntmps8 Try.results8 Try.call8 (by simp) fun P C CQ D W F E hF => ?_
  cbv
  skip
  repeat' (first
    | (refine E.c (SCalls.of_le k5 (by cbv; simp [rcs, setAll, AV.nrm, nrms, nrm1]) ?_); cbv)
    | (refine E.c (SCalls.of_le (k4) ?_ ?_); (· (cbv; (try simp only [nc] at *); first | done | (simp; done) | (simp (disch := (first | omega | (simp only [lnS, rcs_len, rcs_len]; omega))) only [rdT, rdS, rcs_len, rcs_at, rcs_len, anT]; first | done | omega | (refine ⟨?_, ?_⟩ <;> omega)) | (simp (disch := (first | omega | (simp only [lnS, rcs_len, rcs_len]; omega))) [rdT, rdS, rcs_len, rcs_at, rcs_len]; done))); cbv)
    | (refine E.c (SCalls.of_le (k3) ?_ ?_); (· (cbv; (try simp only [nc] at *); first | done | (simp; done) | (simp (disch := (first | omega | (simp only [lnS, rcs_len, rcs_len]; omega))) only [rdT, rdS, rcs_len, rcs_at, rcs_len, anT]; first | done | omega | (refine ⟨?_, ?_⟩ <;> omega)) | (simp (disch := (first | omega | (simp only [lnS, rcs_len, rcs_len]; omega))) [rdT, rdS, rcs_len, rcs_at, rcs_len]; done))); cbv)
    | (refine E.c (SCalls.of_le (k2) ?_ ?_); (· (cbv; (try simp only [nc] at *); first | done | (simp; done) | (simp (disch := (first | omega | (simp only [lnS, rcs_len, rcs_len]; omega))) only [rdT, rdS, rcs_len, rcs_at, rcs_len, anT]; first | done | omega | (refine ⟨?_, ?_⟩ <;> omega)) | (simp (disch := (first | omega | (simp only [lnS, rcs_len, rcs_len]; omega))) [rdT, rdS, rcs_len, rcs_at, rcs_len]; done))); cbv)
    | (refine E.c (SCalls.of_le (k1) ?_ ?_); (· (cbv; (try simp only [nc] at *); first | done | (simp; done) | (simp (disch := (first | omega | (simp only [lnS, rcs_len, rcs_len]; omega))) only [rdT, rdS, rcs_len, rcs_at, rcs_len, anT]; first | done | omega | (refine ⟨?_, ?_⟩ <;> omega)) | (simp (disch := (first | omega | (simp only [lnS, rcs_len, rcs_len]; omega))) [rdT, rdS, rcs_len, rcs_at, rcs_len]; done))); cbv)
    | (refine ⟨fun _ h_s => ?_, fun _ h_s => ?_⟩ <;> (cbv; (try simp only [nc] at *); try simp (disch := (first | omega | (simp only [lnS, rcs_len, rcs_len]; omega))) only [rdT, rdS, rcs_len, rcs_at, rcs_len, reduceCtorEq, trT] at h_s))
    | (refine hF ?_; intro _; clear hF)
    | (refine hF ?_; cbv; clear hF)
    | (refine ⟨fun _ => ?_, ?_⟩; (· ((try simp only [nc] at *); first | done | omega | exact ⟨by omega, rfl⟩ | (simp (disch := (first | omega | (simp only [lnS, rcs_len, rcs_len]; omega))) only [rdT, rdS, rcs_len, rcs_at, rcs_len]; first | done | omega | rfl | exact ⟨by omega, rfl⟩ | (simp; done) | (simp; omega)) | (intros; trivial))); (try (simp only [nc] at *)); (try simp (disch := (first | omega | (simp only [lnS, rcs_len, rcs_len]; omega))) only [rdT, rdS, rcs_len, rcs_at, rcs_len]); (try cbv))
    | fail
  )
  all_goals (try simp only [nc] at *)
  all_goals (try simp (disch := (first | omega | (simp only [lnS, rcs_len, rcs_len]; omega))) only [rdT, rdS, rcs_len, rcs_at, rcs_len])
  all_goals simp_all
end Go.AL.Rl

namespace Go.AL.Rl
open Go Go.AL Go.Proofs
set_option maxRecDepth 100000
set_option maxHeartbeats 3200000
variable {γ : Nat → Option AV}

def evL (l : List (List Ev)) : List LV := l.map evs
def idL (l : List (List EId)) : List LV := l.map ids
theorem evss_L (l : List (List Ev)) : (evss l).l = (evL l).map fun x => .vs 5 fun _ => x := by simp [evss, evL]
theorem idss_L (l : List (List EId)) : (idss l).l = (idL l).map fun x => .vs 2 fun _ => x := by simp [idss, idL]
theorem evL_len (l : List (List Ev)) : (evL l).length = l.length := by simp [evL]
theorem idL_len (l : List (List EId)) : (idL l).length = l.length := by simp [idL]
theorem evs_flat (l : List Ev) : ∀ v ∈ (evs l).l, v.flat = true := by
  intro v hv
  simp only [evs, LV.l_of, List.mem_map] at hv
  obtain ⟨x, _, rfl⟩ := hv
  rfl
theorem id_flat (l : List EId) : ∀ v ∈ (ids l).l, v.flat = true := by
  intro v hv
  simp only [ids, LV.l_of, List.mem_map] at hv
  obtain ⟨x, _, rfl⟩ := hv
  rfl
theorem set_last {α : Type} (l : List α) (a b : α) : (l ++ [a]).set l.length b = l ++ [b] := by simp
/-- a copied graph: where its lists lie -/
abbrev cpV (g : Gr) (n1 n2 n3 a b c d : Nat) : AV := .agg [.sl a 0 1 (fun _ => 0) fun _ => g.init.length, .sl b n1 1 (fun _ => 0) fun _ => g.th.length, .sl c n2 1 (fun _ => 0) fun _ => g.fr.length, .sl d n3 1 (fun _ => 0) fun _ => g.ord.length]
theorem rcopy_own0 (g : Gr) (hb : RdB g) (hR : Rd g) : Owns Try.prog γ 16 [aGr g] (cpV g g.th.length g.fr.length g.ord.length 2 4 5 6)
    [.any, .any, .run 0 1 fun _ => is g.init, .any, .nest g.th.length 5 (fun _ => evL g.th) none, .nest g.fr.length 2 (fun _ => idL g.fr) none, .nest g.ord.length 2 (fun _ => idL g.ord) none] := by
  have b0 := hb.init
  have b1 := hb.th
  have b2 := hb.fr
  have b3 := hb.ord
  have c1 : ∀ t, (g.th.getD t []).length * 40 ≤ 140737488351232 := fun t => by
    rcases Nat.lt_or_ge t g.th.length with h1 | h1
    · exact hb.ths _ (getD_mem h1)
    · simp [List.getElem?_eq_none h1]
  have c2 : ∀ t, (g.fr.getD t []).length * 16 ≤ 140737488351232 := fun t => by
    rcases Nat.lt_or_ge t g.fr.length with h1 | h1
    · exact hb.frs _ (getD_mem h1)
    · simp [List.getElem?_eq_none h1]
  have c3 : ∀ t, (g.ord.getD t []).length * 16 ≤ 140737488351232 := fun t => by
    rcases Nat.lt_or_ge t g.ord.length with h1 | h1
    · exact hb.ords _ (getD_mem h1)
    · simp [List.getElem?_eq_none h1]
  obtain ⟨TH, hTH⟩ : ∃ TH : Nat → List LV, ∀ i, TH i = evL (g.th.take i) := ⟨_, fun _ => rfl⟩
  obtain ⟨FR, hFR⟩ : ∃ FR : Nat → List LV, ∀ i, FR i = idL (g.fr.take i) := ⟨_, fun _ => rfl⟩
  obtain ⟨OR, hOR⟩ : ∃ OR : Nat → List LV, ∀ i, OR i = idL (g.ord.take i) := ⟨_, fun _ => rfl⟩
  have t0 : TH 0 = [] := by rw [hTH]; rfl
  have f0 : FR 0 = [] := by rw [hFR]; rfl
  have o0 : OR 0 = [] := by rw [hOR]; rfl
  have tS : ∀ i, i < g.th.length → TH (i + 1) = TH i ++ [evs (g.th.getD i [])] := fun i hi => by rw [hTH, hTH, take_succ' _ i [] hi]; simp [evL]
  have fS : ∀ i, i < g.fr.length → FR (i + 1) = FR i ++ [ids (g.fr.getD i [])] := fun i hi => by rw [hFR, hFR, take_succ' _ i [] hi]; simp [idL]
  have oS : ∀ i, i < g.ord.length → OR (i + 1) = OR i ++ [ids (g.ord.getD i [])] := fun i hi => by rw [hOR, hOR, take_succ' _ i [] hi]; simp [idL]
  have tl : ∀ i, i ≤ g.th.length → (TH i).length = i := fun i hi => by rw [hTH, evL_len]; simp; omega
  have fl : ∀ i, i ≤ g.fr.length → (FR i).length = i := fun i hi => by rw [hFR, idL_len]; simp; omega
  have ol : ∀ i, i ≤ g.ord.length → (OR i).length = i := fun i hi => by rw [hOR, idL_len]; simp; omega
  have te : TH g.th.length = evL g.th := by rw [hTH, List.take_length]
  have fe : FR g.fr.length = idL g.fr := by rw [hFR, List.take_length]
  have oe : OR g.ord.length = idL g.ord := by rw [hOR, List.take_length]
  clear hTH hFR hOR
  obtain ⟨G, hG⟩ : ∃ G : Nat → Nat, ∀ x, G x = x := ⟨_, fun _ => rfl⟩
  have hG0 : G 0 = 0 := hG 0
  refine Owns.go (ty := ty) ty_eq mo Try.func16 rfl Try.ntmps16 Try.results16 Try.call16 (by simp) fun P C CQ D W F E hF => ?_
  cbv
  skip
  repeat' (first
    | (refine ⟨fun _ h_s => ?_, fun _ h_s => ?_⟩ <;> (cbv; (try simp only [nc] at *); try simp (disch := (first | omega | (simp only [lnS]; omega))) only [rdT, rdS, reduceCtorEq, trT] at h_s))
    | (refine hF ?_; intro _; clear hF)
    | (refine hF ?_; cbv; clear hF)
    | (refine ⟨fun _ => ?_, ?_⟩; (· ((try simp only [nc] at *); first | done | omega | exact ⟨by omega, rfl⟩ | (simp (disch := (first | omega | (simp only [lnS]; omega))) only [rdT, rdS]; first | done | omega | rfl | exact ⟨by omega, rfl⟩ | (simp; done) | (simp; omega)) | (intros; trivial) | (refine ⟨by simp; omega, by simp; omega, fun v hv => ?_⟩; simp only [is, evs, ids, LV.l_of, List.mem_map] at hv; obtain ⟨_, _, rfl⟩ := hv; rfl))); (try (simp only [nc] at *)); (try simp (disch := (first | omega | (simp only [lnS]; omega))) only [rdT, rdS]); (try cbv))
    | fail
  )
  skip
  skip
  refine E.w (AWP.ghostField 3 1 1 rfl rfl ?_)
  refine AWP.step (Step.unrun 4 5 rfl) ?_
  refine E.loopSA (ι := Nat) (fun i => i ≤ g.th.length) (fun i => g.th.length - i) (fun i => [(4, .i fun _ => ((i : Nat) : Int))]) (fun i h => (h.set 3 (.box (.agg [.sl 2 0 1 (fun _ => 0) fun _ => g.init.length, .sl 4 (G i) 1 (fun _ => 0) fun _ => i, .nils, .nils]))).set 4 (.nest (G i) 5 (fun _ => TH i) none)) 0 (fun _ => by first | rfl | simp) (Nat.zero_le _) ?_ fun i hi I hI => ?_
  · cbv; simp [t0, hG0]
  cbv
  have e1 := tS i
  have e2 := tl i hi
  have e3 := c1 i
  repeat' (first
    | (refine hI (i + 1) ?_ ?_ ?_; rotate_left 1; (· ((try simp only [nc] at *); omega)); (cbv; clear hI; (try clear hF); (try simp only [nc] at *); (try simp (disch := (first | omega | (simp only [lnS]; omega))) only [rdT, rdS, anT])); rotate_left 1; (try ((try simp only [nc] at *); omega)))
    | (refine hJ (Step.put 4 5 rfl rfl fun _ => ⟨rfl, rfl, ?_⟩) ?_)
    | (refine E.st fun J hJ => ?_; refine E.de 10 [] [some 5] (by decide +kernel) ?_; cbv; (fail_if_success guard_target =~ False))
    | (refine ⟨fun _ h_s => ?_, fun _ h_s => ?_⟩ <;> (cbv; (try simp only [nc] at *); try simp (disch := (first | omega | (simp only [lnS]; omega))) only [rdT, rdS, reduceCtorEq, trT] at h_s))
    | (refine hF ?_; intro _; clear hF)
    | (refine hF ?_; cbv; clear hF)
    | (refine ⟨fun _ => ?_, ?_⟩; (· ((try simp only [nc] at *); first | done | omega | exact ⟨by omega, rfl⟩ | (simp (disch := (first | omega | (simp only [lnS]; omega))) only [rdT, rdS]; first | done | omega | rfl | exact ⟨by omega, rfl⟩ | (simp; done) | (simp; omega)) | (intros; trivial) | (refine ⟨by simp; omega, by simp; omega, fun v hv => ?_⟩; simp only [is, evs, ids, LV.l_of, List.mem_map] at hv; obtain ⟨_, _, rfl⟩ := hv; rfl) | exact ⟨by first | trivial | rfl, by first | trivial | rfl, by first | trivial | rfl | (simp [LV.l]; done), by first | omega | (simp; omega), by first | omega | (simp; omega), by first | exact evs_flat _ | exact id_flat _⟩ | exact ⟨by first | trivial | rfl, by first | trivial | rfl, by first | omega | (simp [e2]; done), by omega, by omega⟩)); (try (simp only [nc] at *)); (try simp (disch := (first | omega | (simp only [lnS]; omega))) only [rdT, rdS]); (try cbv))
    | fail
  )
  · rw [LV.l_of]; simp [LV.l]
  · rw [e1 (by omega), set_last]
    simp [hG, LV.l]
  obtain rfl : i = g.th.length := by ((try simp only [nc] at *); omega)
  clear e1 e2 e3
  refine E.w (AWP.ghostField 3 2 1 rfl rfl ?_)
  refine AWP.step (Step.unrun 5 2 rfl) ?_
  refine E.loopSA (ι := Nat) (fun i => i ≤ g.fr.length) (fun i => g.fr.length - i) (fun i => [(5, .i fun _ => ((i : Nat) : Int))]) (fun i h => (h.set 3 (.box (.agg [.sl 2 0 1 (fun _ => 0) fun _ => g.init.length, .sl 4 (G g.th.length) 1 (fun _ => 0) fun _ => g.th.length, .sl 5 (G i) 1 (fun _ => 0) fun _ => i, .nils]))).set 5 (.nest (G i) 2 (fun _ => FR i) none)) 0 (fun _ => by first | rfl | simp) (Nat.zero_le _) ?_ fun i hi I hI => ?_
  · cbv; simp [f0, hG0]
  cbv
  have e1 := fS i
  have e2 := fl i hi
  have e3 := c2 i
  repeat' (first
    | (refine hI (i + 1) ?_ ?_ ?_; rotate_left 1; (· ((try simp only [nc] at *); omega)); (cbv; clear hI; (try clear hF); (try simp only [nc] at *); (try simp (disch := (first | omega | (simp only [lnS]; omega))) only [rdT, rdS, anT])); rotate_left 1; (try ((try simp only [nc] at *); omega)))
    | (refine hJ (Step.put 5 6 rfl rfl fun _ => ⟨rfl, rfl, ?_⟩) ?_)
    | (refine E.st fun J hJ => ?_; refine E.de 10 [] [some 2] (by decide +kernel) ?_; cbv; (fail_if_success guard_target =~ False))
    | (refine ⟨fun _ h_s => ?_, fun _ h_s => ?_⟩ <;> (cbv; (try simp only [nc] at *); try simp (disch := (first | omega | (simp only [lnS]; omega))) only [rdT, rdS, reduceCtorEq, trT] at h_s))
    | (refine hF ?_; intro _; clear hF)
    | (refine hF ?_; cbv; clear hF)
    | (refine ⟨fun _ => ?_, ?_⟩; (· ((try simp only [nc] at *); first | done | omega | exact ⟨by omega, rfl⟩ | (simp (disch := (first | omega | (simp only [lnS]; omega))) only [rdT, rdS]; first | done | omega | rfl | exact ⟨by omega, rfl⟩ | (simp; done) | (simp; omega)) | (intros; trivial) | (refine ⟨by simp; omega, by simp; omega, fun v hv => ?_⟩; simp only [is, evs, ids, LV.l_of, List.mem_map] at hv; obtain ⟨_, _, rfl⟩ := hv; rfl) | exact ⟨by first | trivial | rfl, by first | trivial | rfl, by first | trivial | rfl | (simp [LV.l]; done), by first | omega | (simp; omega), by first | omega | (simp; omega), by first | exact evs_flat _ | exact id_flat _⟩ | exact ⟨by first | trivial | rfl, by first | trivial | rfl, by first | omega | (simp [e2]; done), by omega, by omega⟩)); (try (simp only [nc] at *)); (try simp (disch := (first | omega | (simp only [lnS]; omega))) only [rdT, rdS]); (try cbv))
    | fail
  )
  · rw [LV.l_of]; simp [LV.l]
  · rw [e1 (by omega), set_last]
    simp [hG, LV.l]
  obtain rfl : i = g.fr.length := by ((try simp only [nc] at *); omega)
  clear e1 e2 e3
  refine E.w (AWP.ghostField 3 3 1 rfl rfl ?_)
  refine AWP.step (Step.unrun 6 2 rfl) ?_
  refine E.loopSA (ι := Nat) (fun i => i ≤ g.ord.length) (fun i => g.ord.length - i) (fun i => [(6, .i fun _ => ((i : Nat) : Int))]) (fun i h => (h.set 3 (.box (.agg [.sl 2 0 1 (fun _ => 0) fun _ => g.init.length, .sl 4 (G g.th.length) 1 (fun _ => 0) fun _ => g.th.length, .sl 5 (G g.fr.length) 1 (fun _ => 0) fun _ => g.fr.length, .sl 6 (G i) 1 (fun _ => 0) fun _ => i]))).set 6 (.nest (G i) 2 (fun _ => OR i) none)) 0 (fun _ => by first | rfl | simp) (Nat.zero_le _) ?_ fun i hi I hI => ?_
  · cbv; simp [o0, hG0]
  cbv
  have e1 := oS i
  have e2 := ol i hi
  have e3 := c3 i
  repeat' (first
    | (refine hI (i + 1) ?_ ?_ ?_; rotate_left 1; (· ((try simp only [nc] at *); omega)); (cbv; clear hI; (try clear hF); (try simp only [nc] at *); (try simp (disch := (first | omega | (simp only [lnS]; omega))) only [rdT, rdS, anT])); rotate_left 1; (try ((try simp only [nc] at *); omega)))
    | (refine hJ (Step.put 6 7 rfl rfl fun _ => ⟨rfl, rfl, ?_⟩) ?_)
    | (refine E.st fun J hJ => ?_; refine E.de 10 [] [some 2] (by decide +kernel) ?_; cbv; (fail_if_success guard_target =~ False))
    | (refine ⟨fun _ h_s => ?_, fun _ h_s => ?_⟩ <;> (cbv; (try simp only [nc] at *); try simp (disch := (first | omega | (simp only [lnS]; omega))) only [rdT, rdS, reduceCtorEq, trT] at h_s))
    | (refine hF ?_; intro _; clear hF)
    | (refine hF ?_; cbv; clear hF)
    | (refine ⟨fun _ => ?_, ?_⟩; (· ((try simp only [nc] at *); first | done | omega | exact ⟨by omega, rfl⟩ | (simp (disch := (first | omega | (simp only [lnS]; omega))) only [rdT, rdS]; first | done | omega | rfl | exact ⟨by omega, rfl⟩ | (simp; done) | (simp; omega)) | (intros; trivial) | (refine ⟨by simp; omega, by simp; omega, fun v hv => ?_⟩; simp only [is, evs, ids, LV.l_of, List.mem_map] at hv; obtain ⟨_, _, rfl⟩ := hv; rfl) | exact ⟨by first | trivial | rfl, by first | trivial | rfl, by first | trivial | rfl | (simp [LV.l]; done), by first | omega | (simp; omega), by first | omega | (simp; omega), by first | exact evs_flat _ | exact id_flat _⟩ | exact ⟨by first | trivial | rfl, by first | trivial | rfl, by first | omega | (simp [e2]; done), by omega, by omega⟩)); (try (simp only [nc] at *)); (try simp (disch := (first | omega | (simp only [lnS]; omega))) only [rdT, rdS]); (try cbv))
    | fail
  )
  · rw [LV.l_of]; simp [LV.l]
  · rw [e1 (by omega), set_last]
    simp [hG, LV.l]
  obtain rfl : i = g.ord.length := by ((try simp only [nc] at *); omega)
  clear e1 e2 e3
  refine hF ?_ ?_
  all_goals simp [leV, leVs, leH, leB, vresult, AV.cells, hG, te, fe, oe]
theorem rcopy_own (g : Gr) (hb : RdB g) (hR : Rd g) : ∃ n1 n2 n3, Owns Try.prog γ 16 [aGr g] (cpV g n1 n2 n3 2 4 5 6)
    [.any, .any, .run 0 1 fun _ => is g.init, .any, .nest n1 5 (fun _ => evL g.th) none, .nest n2 2 (fun _ => idL g.fr) none, .nest n3 2 (fun _ => idL g.ord) none] := ⟨_, _, _, rcopy_own0 g hb hR⟩
end Go.AL.Rl

namespace Go.AL.Rl
open Go Go.AL Go.Proofs
set_option maxRecDepth 100000
set_option maxHeartbeats 3200000
variable {γ : Nat → Option AV}

/-- an event behind a thread's others, from where it reads -/
def addS (g : Gr) (t : Nat) (e : Ev) (d : EId) : Gr := ⟨g.init, g.th.set t (g.th.getD t [] ++ [e]), g.fr.set t (g.fr.getD t [] ++ [d]), g.ord⟩
/-- where it stands among the writes -/
def addO (g : Gr) (t : Nat) (e : Ev) (p : Int) : List EId := (g.ord.getD e.loc.toNat []).take (p - 1).toNat ++ [⟨(t : Int) + 1, ((g.th.getD t []).length : Int)⟩] ++ (g.ord.getD e.loc.toNat []).drop (p - 1).toNat
def addG (g : Gr) (t : Nat) (e : Ev) (d : EId) (p : Int) : Gr := ⟨g.init, (addS g t e d).th, (addS g t e d).fr, if writesM e = true then g.ord.set e.loc.toNat (addO g t e p) else g.ord⟩
def addC (g : Gr) (t : Nat) (e : Ev) (d : EId) (p : Int) : Prop := fineM g.init.length e = true ∧ (if writesM e = true then 1 ≤ p ∧ p ≤ ((g.ord.getD e.loc.toNat []).length : Nat) + 1 else p = 0) ∧ GOk (addG g t e d p)
instance (g : Gr) (t : Nat) (e : Ev) (d : EId) (p : Int) : Decidable (addC g t e d p) := inferInstanceAs (Decidable (_ ∧ _))
theorem rdb_ok {g : Gr} (h : GOk g) : RdB g := by
  have hs := h.short
  have h1 := hs.th
  have h2 := hs.init
  have h3 := h.lfr
  have h4 := h.lord
  have e2 : ∀ l ∈ g.fr, l.length ≤ 14 := fun l hl => by
    obtain ⟨t, ht, rfl⟩ := List.getElem_of_mem hl
    have := (h.events t (by omega)).1
    have h5 := hs.at t
    rw [show g.fr.getD t [] = g.fr[t] by simp [ht]] at this
    omega
  have e3 : ∀ l ∈ g.ord, l.length ≤ 56 := fun l hl => by
    obtain ⟨x, hx, rfl⟩ := List.getElem_of_mem hl
    have := h.orders x (by omega)
    unfold orderedM at this
    have hc : cntT x g.th ≤ 56 := by have := cntT_take hs x g.th.length; rw [List.take_length] at this; omega
    rw [show g.ord.getD x [] = g.ord[x] by simp [hx]] at this
    simp only [Bool.and_eq_true, decide_eq_true_eq] at this
    omega
  exact ⟨by omega, by omega, by omega, by omega, fun l hl => by have := hs.ths l hl; omega, fun l hl => by have := e2 l hl; omega, fun l hl => by have := e3 l hl; omega⟩
theorem rd_short {g : Gr} (h : GOk g) : Rd g := by
  have hb := rdb_ok h
  exact ⟨by have := hb.init; omega, by have := hb.th; omega, by have := hb.fr; omega, by have := hb.ord; omega, fun l hl => by have := hb.ths l hl; omega, fun l hl => by have := hb.frs l hl; omega, fun l hl => by have := hb.ords l hl; omega⟩
end Go.AL.Rl

namespace Go.AL.Rl
open Go Go.AL Go.Proofs
set_option maxRecDepth 100000
set_option maxHeartbeats 3200000
variable {γ : Nat → Option AV}

theorem evL_set (l : List (List Ev)) (t : Nat) (x : List Ev) : (evL l).set t (evs x) = evL (l.set t x) := by simp [evL, List.map_set]
theorem evL_get (l : List (List Ev)) (t : Nat) : (evL l).getD t .nil = evs (l.getD t []) := by
  unfold evL
  rcases Nat.lt_or_ge t l.length with h | h
  · simp [h]
  · simp [List.getElem?_eq_none h, evs, LV.of]
end Go.AL.Rl

namespace Go.AL.Rl
open Go Go.AL Go.Proofs
set_option maxRecDepth 100000
set_option maxHeartbeats 1600000

structure Tail (V U : Vw) (n m : Nat) (f : Nat → Nat) (N : Nat) : Prop where
  cov : ∀ a < m, (∃ i < n, a = f i) ∨ a = N
  nim : ∀ i < n, f i ≠ N
  po : ∀ b < m, poM U N b = false
  rf : ∀ b < m, U.fr.getD b 0 ≠ (N : Nat)
  frn : ∀ i < n, V.fr.getD i 0 < 0 → U.fr.getD (f i) 0 < 0
  pln : ∀ i < n, 0 ≤ U.pl.getD (f i) 0 → 0 ≤ V.pl.getD i 0
  plu : ∀ i < n, ∀ j < n, nearM V i j = true → 0 ≤ V.pl.getD i 0 → V.pl.getD i 0 = V.pl.getD j 0 → i = j
  plh : ∀ i < n, ∀ j < n, nearM V i j = true → 0 ≤ V.pl.getD i 0 → 0 ≤ U.pl.getD (f j) 0 → 0 ≤ V.pl.getD j 0
section
variable {V U : Vw} {n m : Nat} {f : Nat → Nat} {N : Nat} (E : Emb V U n m f) (Y : Tail V U n m f N) (hV : Wf V n) (hU : Wf U m)
include E Y
include hV
include hU
end
end Go.AL.Rl

namespace Go.AL.Rl
open Go Go.AL Go.Proofs
set_option maxRecDepth 100000
set_option maxHeartbeats 1600000

theorem getD_set' {α : Type} (l : List α) (i j : Nat) (x d : α) (hi : i < l.length) : (l.set i x).getD j d = if j = i then x else l.getD j d := by
  rw [List.getD_eq_getElem?_getD, List.getElem?_set, List.getD_eq_getElem?_getD]
  by_cases e : i = j
  · subst e; simp [hi]
  · rw [if_neg e, if_neg fun h => e h.symm]
theorem gD' {α : Type} {l : List α} {i : Nat} {d : α} (h : i < l.length) : l.getD i d = l[i] := by simp [h]
section
variable {g : Gr} {t : Nat} {e : Ev} {d : EId} {p : Int} (hg : GOk g) (ht : t < g.th.length) (hh : GOk (addG g t e d p))
include ht
include hg
include hh
end
end Go.AL.Rl

namespace Go.AL.Rl
open Go Go.AL Go.Proofs
set_option maxRecDepth 100000
set_option maxHeartbeats 3200000
variable {γ : Nat → Option AV}

end Go.AL.Rl

namespace Go.AL.Rl
open Go Go.AL Go.Proofs
set_option maxRecDepth 100000
set_option maxHeartbeats 3200000
variable {γ : Nat → Option AV}

section
variable {g : Gr} {t : Nat} {e : Ev} {d : EId} {p : Int} (hg : GOk g) (ht : t < g.th.length) (hh : GOk (addG g t e d p)) {x y : Nat} (hx : x < nG g) (hy : y < nG g)
include hg ht hh hx hy
end
end Go.AL.Rl

namespace Go.AL.Rl
open Go Go.AL Go.Proofs
set_option maxRecDepth 100000
set_option maxHeartbeats 3200000

theorem rpB_mem {v : RV} {a : Nat} {p : Nat × Nat} : ∀ b, p ∈ rpB v a b → p.1 = a ∧ a < p.2 ∧ p.2 < b ∧ oneM v a p.2 = true
  | 0, h => by simp [rpB] at h
  | b + 1, h => by
    rw [rpB, List.mem_append] at h
    rcases h with h | h
    · obtain ⟨h1, h2, h3, h4⟩ := rpB_mem b h
      exact ⟨h1, h2, by omega, h4⟩
    · split at h
      · rename_i hc
        have : p = (a, b) := by simpa using h
        subst this
        exact ⟨rfl, hc.1, Nat.lt_succ_self _, hc.2⟩
      · simp at h
theorem rpA_mem {v : RV} {m : Nat} {p : Nat × Nat} : ∀ a, p ∈ rpA v m a → p.1 < p.2 ∧ p.2 < m ∧ oneM v p.1 p.2 = true
  | 0, h => by simp [rpA] at h
  | a + 1, h => by
    rw [rpA, List.mem_append] at h
    rcases h with h | h
    · exact rpA_mem a h
    · obtain ⟨h1, h2, h3, h4⟩ := rpB_mem m h
      rw [h1]; exact ⟨h2, h3, h4⟩
theorem races_mem {v : RV} {i : Nat} (h : i < (racesV v).length) : ∃ a b, a < b ∧ b < v.ids.length ∧ oneM v a b = true ∧ (racesV v).getD i rc0 = ⟨(rAt v a).loc, v.ids.getD a id0, v.ids.getD b id0⟩ := by
  have hm : (racesV v).getD i rc0 ∈ racesV v := by rw [gD' h]; exact List.getElem_mem h
  unfold racesV at hm
  rw [List.mem_map] at hm
  obtain ⟨p, hp, e⟩ := hm
  obtain ⟨h1, h2, h3⟩ := rpA_mem _ hp
  exact ⟨p.1, p.2, h1, h2, h3, e.symm⟩
theorem races_len {g : Gr} (h : GOk g) : (racesV (rvG g)).length ≤ 4096 := by
  have hw := rvG_wf h
  have hl : (rvG g).ids.length ≤ 64 := by have := hw.big; have := hw.small; have := hw.sh; omega
  unfold racesV
  rw [List.length_map]
  exact Nat.le_trans (rpA_len _ _ _) (Nat.mul_le_mul hl hl)
theorem oneM_iff {v : RV} {a b : Nat} : oneM v a b = true ↔ (v.ids.getD a id0).t ≠ (v.ids.getD b id0).t ∧ (rAt v a).kind ≠ 4 ∧ (rAt v b).kind ≠ 4 ∧ (rAt v a).loc = (rAt v b).loc ∧ (rWr (rAt v a) = true ∨ rWr (rAt v b) = true) ∧ (rPl (rAt v a) = true ∨ rPl (rAt v b) = true) ∧ rAhead v a b = false ∧ rAhead v b a = false := by
  unfold oneM
  simp only [Bool.and_eq_true, Bool.not_eq_true', Bool.or_eq_false_iff, Bool.or_eq_true, decide_eq_false_iff_not, ne_eq, Classical.not_not, and_assoc]
theorem idsG_getT {g : Gr} {k : Nat} : (idsG g).getD (g.init.length + k) id0 = (idsT g g.th.length).getD k id0 := by
  unfold idsG
  rw [List.getD_eq_getElem?_getD, List.getElem?_append_right (by rw [idsI_len]; omega), idsI_len, Nat.add_sub_cancel_left, ← List.getD_eq_getElem?_getD]
theorem numG_T {g : Gr} {k : Nat} (hk : k < (idsT g g.th.length).length) : numOf (idsG g) ((idsT g g.th.length).getD k id0) = g.init.length + k := by
  have hl : g.init.length + k < (idsG g).length := by unfold idsG; rw [List.length_append, idsI_len]; omega
  have := numOf_at (idsG_nodup g) hl
  rwa [idsG_getT] at this
theorem numI_T {g : Gr} {d : EId} (h : d ∈ idsT g g.th.length) : ∃ k, k < (idsT g g.th.length).length ∧ (idsT g g.th.length).getD k id0 = d ∧ numI (idsT g g.th.length) d = (k : Nat) := by
  have h1 := numOf_lt h
  have h2 := numOf_get h
  refine ⟨_, h1, h2, numI_at h1 h2 fun j hj he => ?_⟩
  have := getD_inj (idsT_nodup g _) (by omega) h1 (he.trans h2.symm)
  omega
theorem one_keep {g h : Gr} {a b : Nat} (ha : a < (idsT g g.th.length).length) (hb : b < (idsT g g.th.length).length)
    (m1 : (idsT g g.th.length).getD a id0 ∈ idsT h h.th.length) (m2 : (idsT g g.th.length).getD b id0 ∈ idsT h h.th.length)
    (ev : ∀ k < (idsT g g.th.length).length, ∀ e, eventM h ((idsT g g.th.length).getD k id0) = some e → e.kind = ((evsT g g.th.length).getD k ev0).kind ∧ e.loc = ((evsT g g.th.length).getD k ev0).loc ∧ (((evsT g g.th.length).getD k ev0).order = 1 → e.order = 1))
    (hbb : ∀ i < (idsT g g.th.length).length, ∀ j < (idsT g g.th.length).length, bit (hbF (viewG h) (nG h)) (numOf (idsG h) ((idsT g g.th.length).getD i id0)) (numOf (idsG h) ((idsT g g.th.length).getD j id0)) = true → bit (hbF (viewG g) (nG g)) (g.init.length + i) (g.init.length + j) = true)
    (h1 : oneM (rvG g) a b = true) : btM (rvG h) ((idsT g g.th.length).getD a id0) ((idsT g g.th.length).getD b id0) = true := by
  obtain ⟨x, hx, ex, nx⟩ := numI_T m1
  obtain ⟨y, hy, ey, ny⟩ := numI_T m2
  have e1 := evsT_get h h.th.length x (Nat.le_refl _) hx
  have e2 := evsT_get h h.th.length y (Nat.le_refl _) hy
  rw [ex] at e1
  rw [ey] at e2
  have q1 := ev a ha _ e1
  have q2 := ev b hb _ e2
  have p1 := hbb a ha b hb
  have p2 := hbb b hb a ha
  have gx := numG_T hx
  have gy := numG_T hy
  rw [ex] at gx
  rw [ey] at gy
  rw [gx, gy] at p1 p2
  rw [oneM_iff] at h1
  unfold btM
  show (decide (0 ≤ numI (idsT h h.th.length) _) && decide (0 ≤ numI (idsT h h.th.length) _) && oneM (rvG h) (numI (idsT h h.th.length) _).toNat (numI (idsT h h.th.length) _).toNat) = true
  rw [nx, ny, Int.toNat_natCast, Int.toNat_natCast]
  simp only [Bool.and_eq_true, decide_eq_true_eq]
  refine ⟨⟨by omega, by omega⟩, oneM_iff.2 ?_⟩
  obtain ⟨c1, c2, c3, c4, c5, c6, c7, c8⟩ := h1
  have sh : ∀ g : Gr, (rvG g).sh.toNat = g.init.length := fun g => Int.toNat_natCast _
  unfold rAhead at c7 c8 ⊢
  unfold rWr rPl rAt at *
  rw [sh] at c7 c8
  rw [sh]
  simp only [rvG] at *
  rw [Nat.add_comm a, Nat.add_comm b] at c7
  rw [Nat.add_comm a, Nat.add_comm b] at c8
  rw [Nat.add_comm x, Nat.add_comm y]
  rw [ex, ey]
  refine ⟨c1, by rw [q1.1]; exact c2, by rw [q2.1]; exact c3, by rw [q1.2.1, q2.2.1]; exact c4, by simp only [q1.1, q2.1]; exact c5, ?_, ?_, ?_⟩
  · exact c6.imp (fun h => decide_eq_true (q1.2.2 (of_decide_eq_true h))) fun h => decide_eq_true (q2.2.2 (of_decide_eq_true h))
  · exact Bool.eq_false_iff.2 fun h => by rw [p1 h] at c7; cases c7
  · exact Bool.eq_false_iff.2 fun h => by rw [p2 h] at c8; cases c8

section
variable {g : Gr} {t : Nat} {e : Ev} {d : EId} {p : Int} (hg : GOk g) (ht : t < g.th.length) (hh : GOk (addG g t e d p))
include hg ht hh
end
end Go.AL.Rl

namespace Go.AL.Rl
open Go Go.AL Go.Proofs
set_option maxRecDepth 100000
set_option maxHeartbeats 3200000
variable {γ : Nat → Option AV}

structure RcOk (g : Gr) (r : Rc) : Prop where
  thr : r.a.t ≠ r.b.t
  ord : ((eventM g r.a).getD ev0).order = 1 ∨ ((eventM g r.b).getD ev0).order = 1
  kind : ((eventM g r.a).getD ev0).kind ≠ 1 ∨ ((eventM g r.b).getD ev0).kind ≠ 1
end Go.AL.Rl

namespace Go.AL.Rl
open Go Go.AL Go.Proofs
set_option maxRecDepth 100000
set_option maxHeartbeats 1600000

structure Wke (a b : Ev) : Prop where
  kind : b.kind = a.kind
  loc : b.loc = a.loc
  rd : b.rd = a.rd
  wr : b.wr = a.wr
  ord : 1 ≤ a.order → a.order ≤ 6 → 1 ≤ b.order ∧ b.order ≤ 6
  acq : acqM b = true → acqM a = true
  rel : relM b = true → relM a = true
  na : b.order ≠ 1 → a.order ≠ 1
theorem Wke.refl (a : Ev) : Wke a a := ⟨rfl, rfl, rfl, rfl, fun h k => ⟨h, k⟩, id, id, id⟩
theorem Wke.reads {a b : Ev} (h : Wke a b) : readsM b = readsM a := by unfold readsM; rw [h.kind]
theorem Wke.writes {a b : Ev} (h : Wke a b) : writesM b = writesM a := by unfold writesM; rw [h.kind]
theorem Wke.fence {a b : Ev} (h : Wke a b) : fenceM b = fenceM a := by unfold fenceM; rw [h.kind]
structure Wk (g h : Gr) : Prop where
  init : h.init = g.init
  fr : h.fr = g.fr
  ord : h.ord = g.ord
  len : h.th.length = g.th.length
  lens : ∀ t, (h.th.getD t []).length = (g.th.getD t []).length
  evs : ∀ t i, Wke ((g.th.getD t []).getD i ev0) ((h.th.getD t []).getD i ev0)
section
variable {g h : Gr} (W : Wk g h)
include W
theorem wk_event (d : EId) : (eventM h d).isSome = (eventM g d).isSome ∧ Wke ((eventM g d).getD ev0) ((eventM h d).getD ev0) := by
  unfold eventM
  rw [W.init, W.len, W.lens]
  split
  · exact ⟨rfl, Wke.refl _⟩
  · split
    · exact ⟨rfl, W.evs _ _⟩
    · exact ⟨rfl, Wke.refl _⟩
theorem wk_some {d : EId} {e : Ev} (he : eventM g d = some e) : ∃ e', eventM h d = some e' ∧ Wke e e' := by
  obtain ⟨h1, h2⟩ := wk_event W d
  rw [he] at h1 h2
  obtain ⟨e', h3⟩ := Option.isSome_iff_exists.1 h1
  rw [h3] at h2
  exact ⟨e', h3, h2⟩
theorem wk_idsT (t : Nat) : idsT h t = idsT g t := by
  unfold idsT
  simp only [W.lens]
theorem wk_ids : idsG h = idsG g := by unfold idsG; rw [W.init, W.len, wk_idsT W]
theorem wk_src (d : EId) : srcOf h d = srcOf g d := by unfold srcOf; rw [W.fr]
theorem wk_fr (d : EId) : frOf h d = frOf g d := by
  unfold frOf
  rw [(wk_event W d).2.reads, wk_ids W, wk_src W]
theorem wk_n : nG h = nG g := by unfold nG; rw [wk_ids W]
theorem wk_ev {k : Nat} (hk : k < nG g) : Wke ((viewG g).ev.getD k ev0) ((viewG h).ev.getD k ev0) := by
  have h1 := evsG_get g k hk
  have h2 := evsG_get h k (by rw [wk_ids W]; exact hk)
  have h3 := (wk_event W ((idsG g).getD k id0)).2
  rw [wk_ids W] at h2
  rw [h1, h2] at h3
  exact h3
theorem wk_isW (x : Int) (d : EId) : isW h x d = isW g x d := by
  unfold isW
  cases he : eventM g d with
  | none =>
    have := (wk_event W d).1
    rw [he] at this
    have : eventM h d = none := by simpa using this
    rw [this]
  | some e =>
    obtain ⟨e', h1, h2⟩ := wk_some W he
    rw [h1]
    simp only [h2.writes, h2.loc]
theorem wk_cnt (x : Int) : cntT x h.th = cntT x g.th := by
  unfold cntT
  congr 1
  refine List.ext_getElem (by simp [W.len]) fun t h1 h2 => ?_
  rw [List.getElem_map, List.getElem_map]
  have ht : t < g.th.length := by simpa using h2
  have ht' : t < h.th.length := by rw [W.len]; exact ht
  have e1 := W.lens t
  rw [gD' ht, gD' ht'] at e1
  have key : ∀ k, k ≤ (g.th[t]).length → cntE x ((h.th[t]).take k) = cntE x ((g.th[t]).take k) := fun k => by
    induction k with
    | zero => intro _; rfl
    | succ k ih =>
      intro hk
      rw [cntE_succ x _ k (by omega), cntE_succ x _ k (by omega), ih (by omega)]
      have := W.evs t k
      rw [gD' ht, gD' ht'] at this
      rw [this.writes, this.loc]
  have := key _ (Nat.le_refl _)
  rwa [List.take_of_length_le (by omega), List.take_of_length_le (Nat.le_refl _)] at this
theorem wk_ok (hg : GOk g) : GOk h where
  short := by
    refine ⟨by rw [W.len]; exact hg.short.th, by rw [W.init]; exact hg.short.init, fun l hl => ?_⟩
    obtain ⟨t, ht, rfl⟩ := List.getElem_of_mem hl
    have := W.lens t
    rw [gD' ht] at this
    rw [this]; exact hg.short.at t
  lfr := by rw [W.fr, W.len]; exact hg.lfr
  lord := by rw [W.ord, W.init]; exact hg.lord
  events := fun t ht => by
    rw [W.len] at ht
    obtain ⟨h1, h2⟩ := hg.events t ht
    refine ⟨by rw [W.fr, W.lens]; exact h1, fun i hi => ?_⟩
    rw [W.lens] at hi
    have h3 := h2 i hi
    have h4 := W.evs t i
    unfold fineM at h3 ⊢
    rw [h4.reads, h4.writes, h4.kind, h4.loc, h4.rd, h4.wr, W.init]
    simp only [Bool.and_eq_true, decide_eq_true_eq] at h3 ⊢
    obtain ⟨⟨⟨⟨c1, c2, c3, c4⟩, c5⟩, c6⟩, c7⟩ := h3
    exact ⟨⟨⟨⟨c1, c2, h4.ord c3 c4⟩, c5⟩, c6⟩, c7⟩
  sources := fun t ht i hi => by
    rw [W.len] at ht
    rw [W.lens] at hi
    have h1 := hg.sources t ht i hi
    rw [W.fr]
    unfold sourceM at h1 ⊢
    have h2 := (wk_event W ⟨t + 1, i⟩).2
    rw [h2.reads, h2.loc, h2.rd]
    split at h1
    · rename_i hr
      rw [if_pos hr]
      cases he : eventM g ((g.fr.getD t []).getD i id0) with
      | none => rw [he] at h1; cases h1
      | some e =>
        rw [he] at h1
        obtain ⟨e', h3, h4⟩ := wk_some W he
        rw [h3]
        simp only [h4.writes, h4.loc, h4.wr]
        exact h1
    · rename_i hr
      rw [if_neg hr]; exact h1
  orders := fun x hx => by
    rw [W.init] at hx
    have h1 := (ordered_iff g x).1 (hg.orders x hx)
    refine (ordered_iff h x).2 ⟨by rw [W.ord]; exact h1.1, fun d hd => ?_, by rw [W.ord, wk_cnt W]; exact h1.2.2⟩
    rw [W.ord] at hd
    rw [wk_isW W]; exact h1.2.1 d hd
theorem wk_po (a b : Nat) : poM (viewG h) a b = poM (viewG g) a b := by
  unfold poM
  show _ = _
  have e : (viewG h).ids = (viewG g).ids := wk_ids W
  rw [e]
theorem wk_vfr : (viewG h).fr = (viewG g).fr := by
  show tabI (nG h) _ = tabI (nG g) _
  rw [wk_n W, wk_ids W]
  exact tabI_congr fun i _ => wk_fr W _
theorem wk_seq {w i : Nat} (hi : InSeq (viewG h) (nG g) w i) : InSeq (viewG g) (nG g) w i := by
  induction hi with
  | base => exact .base
  | step h1 h2 _ ih =>
    rw [wk_vfr W] at ih
    exact .step h1 (by rw [← (wk_ev W h1).kind]; exact h2) ih
theorem wk_sw (hg : GOk g) {r a : Nat} (hb : bit (swF (viewG h) (nG g)) r a = true) : bit (swF (viewG g) (nG g)) r a = true := by
  have hs := (viewG_wf hg).small
  rw [sw_iffE hs] at hb ⊢
  obtain ⟨hr, ha, w, hw, h1, b, hbn, h2, h3⟩ := hb
  refine ⟨hr, ha, w, hw, ?_, b, hbn, ?_, ?_⟩
  · unfold swR at h1 ⊢
    have ew := wk_ev W hw
    have er := wk_ev W hr
    rw [ew.writes, er.fence, wk_po W] at h1
    simp only [Bool.and_eq_true, decide_eq_true_eq] at h1 ⊢
    exact ⟨⟨⟨h1.1.1.1, ew.na h1.1.1.2⟩, er.rel h1.1.2⟩, h1.2⟩
  · unfold rdrM at h2 ⊢
    have eb := wk_ev W hbn
    rw [eb.reads, wk_vfr W] at h2
    simp only [Bool.and_eq_true, decide_eq_true_eq] at h2 ⊢
    refine ⟨⟨h2.1.1, eb.na h2.1.2⟩, ?_⟩
    rw [seq_bit (by omega) hw] at h2 ⊢
    exact wk_seq W h2.2
  · unfold caM at h3 ⊢
    have ea := wk_ev W ha
    rw [ea.fence, wk_po W] at h3
    simp only [Bool.and_eq_true] at h3 ⊢
    exact ⟨ea.acq h3.1, h3.2⟩
theorem wk_hb (hg : GOk g) {i j : Nat} (hb : bit (hbF (viewG h) (nG h)) i j = true) : bit (hbF (viewG g) (nG g)) i j = true := by
  have hs := (viewG_wf hg).small
  rw [wk_n W] at hb
  have hn : nG h = nG g := wk_n W
  have hsh : nG h ≤ 62 := by rw [hn]; exact hs
  have f1 := fits_poF (viewG g) hs
  have f2 := fits_swF (viewG g) hs
  have f3 : Fits (nG g) (poF (viewG h) (nG g)) := fits_poF (viewG h) hs
  have f4 : Fits (nG g) (swF (viewG h) (nG g)) := fits_swF (viewG h) hs
  unfold hbF at hb ⊢
  refine plus_least (fun i j => bit (plusM (nG g) (orM (nG g) [((nG g : Int), poF (viewG g) (nG g)), ((nG g : Int), swF (viewG g) (nG g))])) i j = true) (fun i j h1 => plus_edge ?_) (fun i k j h1 h2 => plus_trans (fits_or2 f1 f2) h1 h2) hb
  rw [bit_or2 f3 f4] at h1
  rw [bit_or2 f1 f2]
  refine h1.imp (fun h => ?_) fun h => wk_sw W hg h
  unfold poF at h ⊢
  rw [bit_relI hs] at h ⊢
  rw [wk_po W] at h
  exact h
end
end Go.AL.Rl

namespace Go.AL.Rl
open Go Go.AL Go.Proofs
set_option maxRecDepth 100000
set_option maxHeartbeats 3200000
variable {γ : Nat → Option AV}

def naE (e : Ev) : Ev := ⟨e.kind, e.loc, 1, e.rd, e.wr⟩
def naG (g : Gr) (t k : Nat) : Gr := ⟨g.init, g.th.set t ((g.th.getD t []).set k (naE ((g.th.getD t []).getD k ev0))), g.fr, g.ord⟩
theorem naE_wk (e : Ev) : Wke e (naE e) := ⟨rfl, rfl, rfl, rfl, fun _ _ => ⟨by show (1 : Int) ≤ 1; omega, by show (1 : Int) ≤ 6; omega⟩, fun h => by simp [acqM, naE] at h, fun h => by simp [relM, naE] at h, fun h => absurd rfl h⟩
theorem naG_wk {g : Gr} {t k : Nat} (ht : t < g.th.length) (hk : k < (g.th.getD t []).length) : Wk g (naG g t k) where
  init := rfl
  fr := rfl
  ord := rfl
  len := by show (g.th.set t _).length = _; simp
  lens := fun s => by
    show ((g.th.set t _).getD s []).length = _
    rw [getD_set' _ _ _ _ _ ht]
    split
    · rename_i e; subst e; simp
    · rfl
  evs := fun s i => by
    show Wke _ (((g.th.set t _).getD s []).getD i ev0)
    rw [getD_set' _ _ _ _ _ ht]
    split
    · rename_i e
      subst e
      rw [getD_set' _ _ _ _ _ hk]
      split
      · rename_i e; subst e; exact naE_wk _
      · exact Wke.refl _
    · exact Wke.refl _
theorem plain_one {g h : Gr} (W : Wk g h) (hg : GOk g) {a b : Nat} (ha : a < (idsT g g.th.length).length) (hb : b < (idsT g g.th.length).length) (h1 : oneM (rvG g) a b = true) :
    btM (rvG h) ((idsT g g.th.length).getD a id0) ((idsT g g.th.length).getD b id0) = true := by
  have hin : ∀ k < (idsT g g.th.length).length, (idsT g g.th.length).getD k id0 ∈ idsT h h.th.length := fun k hk => by
    rw [W.len, wk_idsT W]; exact getD_mem hk
  refine one_keep ha hb (hin a ha) (hin b hb) (fun k hk e' he' => ?_) (fun i hi j hj hbit => ?_) h1
  · have h2 := evsT_get g g.th.length k (Nat.le_refl _) hk
    obtain ⟨e2, h3, h4⟩ := wk_some W h2
    rw [he'] at h3
    cases h3
    exact ⟨h4.kind, h4.loc, fun ho => Classical.byContradiction fun hn => h4.na hn ho⟩
  · rw [wk_ids W, numG_T hi, numG_T hj] at hbit
    exact wk_hb W hg hbit
theorem plain_races {g h : Gr} (W : Wk g h) (hg : GOk g) {i : Nat} (hi : i < (racesV (rvG g)).length) : btM (rvG h) ((racesV (rvG g)).getD i rc0).a ((racesV (rvG g)).getD i rc0).b = true := by
  obtain ⟨a, b, hab, hb, ho, e⟩ := races_mem hi
  rw [e]
  exact plain_one W hg (Nat.lt_trans hab hb) hb ho
end Go.AL.Rl

namespace Go.AL.Rl
open Go Go.AL Go.Proofs
set_option maxRecDepth 100000
set_option maxHeartbeats 3200000
variable {γ : Nat → Option AV}

def pickM (n : Int) (m : Nat) : Nat := (if n.tmod m < 0 then n.tmod m + m else n.tmod m).toNat
theorem pick_lt (n : Int) {m : Nat} (h : 0 < m) : pickM n m < m := by
  have h1 := Int.tmod_lt_of_pos n (show (0 : Int) < m by omega)
  have h2 : -(m : Int) < n.tmod m := by
    exact Int.lt_tmod_of_pos n (by omega)
  unfold pickM
  split <;> omega
theorem pick_ok (n : Int) (m : Nat) (h : 0 < m) (hm : m ≤ 1000) : Pure Try.prog γ false 15 [.i fun _ => n, .i fun _ => (m : Int)] (.i fun _ => (pickM n m : Int)) := by
  have h1 := Int.tmod_lt_of_pos n (show (0 : Int) < m by omega)
  refine Pure.go (ty := ty) ty_eq mo Try.func15 rfl Try.ntmps15 Try.results15 Try.call15 (by simp) fun P C CQ D W F E hF => ?_
  cbv
  repeat' (first
    | (refine ⟨fun _ h_s => ?_, fun _ h_s => ?_⟩ <;> (cbv; (try simp only [nc] at *); try simp (disch := (first | omega | (simp only [lnS]; omega))) only [rdT, rdS, reduceCtorEq, trT] at h_s))
    | (refine hF ?_; intro _; clear hF)
    | (refine hF ?_; cbv; clear hF)
    | (refine ⟨fun _ => ?_, ?_⟩; (· ((try simp only [nc] at *); first | done | omega | exact ⟨by omega, rfl⟩ | (simp (disch := (first | omega | (simp only [lnS]; omega))) only [rdT, rdS]; first | done | omega | rfl | exact ⟨by omega, rfl⟩ | (simp; done) | (simp; omega)) | (intros; trivial))); (try (simp only [nc] at *)); (try simp (disch := (first | omega | (simp only [lnS]; omega))) only [rdT, rdS]); (try cbv))
    | fail
  )
  · have h2 := Int.lt_tmod_of_pos n (show (0 : Int) < m by omega)
    show w64 (n.tmod m + m) = (pickM n m : Int)
    have hs : n.tmod m < 0 := by ((try simp only [nc] at *); omega)
    unfold pickM
    rw [if_pos hs, w64_of (by omega) (by omega)]
    omega
  · show n.tmod m = (pickM n m : Int)
    have hs : ¬ n.tmod m < 0 := by ((try simp only [nc] at *); omega)
    unfold pickM
    rw [if_neg hs]
    omega
theorem racePlain_main (g : Gr) (hg : GOk g) (thread index : Int) (hli : lightM 60 g = true) (h0 : 0 < g.th.length) (h1 : 0 < (g.th.getD (pickM thread g.th.length) []).length) :
    Pure Try.prog γ false 4 [aGr g, .i fun _ => thread, .i fun _ => index] (.b fun _ => true) := by
  have hR := rd_short hg
  have kl := lives17_ok (γ := γ)
  have ki := light_ok (γ := γ) g hR 60 (by omega) (by omega)
  rw [hli] at ki
  have kc := check14_ok (γ := γ) g hR
  rw [gcheck0 hg] at kc
  have kr := rall_yes (γ := γ) g hR hg
  have hs := hg.short
  have hth := hs.th
  have hle := hs.at (pickM thread g.th.length)
  have kp := pick_ok (γ := γ) thread g.th.length h0 (by omega)
  have kp2 := pick_ok (γ := γ) index _ h1 (by omega)
  have ht := pick_lt thread h0
  have hk := pick_lt index h1
  obtain ⟨n1, n2, n3, ko⟩ := rcopy_own (γ := γ) g (rdb_ok hg) hR
  generalize pickM thread g.th.length = t at *
  generalize pickM index (g.th.getD t []).length = k at *
  have W := naG_wk ht hk
  have hgh := wk_ok W hg
  have rl := races_len hg
  have rb := fun i (hi : i < (racesV (rvG g)).length) => plain_races W hg hi
  have kc2 := check14_ok (γ := γ) (naG g t k) (rd_short hgh)
  rw [gcheck0 hgh] at kc2
  have kb := fun x y => rbetween_yes (γ := γ) (naG g t k) (rd_short hgh) hgh x y
  obtain ⟨H, hH⟩ : ∃ H, H = naG g t k := ⟨_, rfl⟩
  rw [← hH] at kc2 kb rb
  generalize rvG H = vh at *
  generalize racesV (rvG g) = L at *
  refine Pure.goL (ty := ty) ty_eq mo Try.func4 rfl Try.ntmps4 Try.results4 Try.call4 (by simp) fun P C CQ D W F E hF => ?_
  refine E.at 10 fun I hI => ?_
  cbv
  repeat' (first
    | (refine E.c (SCalls.of_owns (ko) ?_ ?_); (· (cbv; (try simp only [nc] at *); first | done | (simp; done) | (simp (disch := (first | omega | (simp only [lnS]; omega))) only [rdT, rdS, anT]; first | done | omega | (refine ⟨?_, ?_⟩ <;> omega)) | (simp (disch := (first | omega | (simp only [lnS]; omega))) [rdT, rdS]; done))); cbv)
    | (refine E.c (SCalls.of_le (kp2) ?_ ?_); (· (cbv; (try simp only [nc] at *); first | done | (simp; done) | (simp (disch := (first | omega | (simp only [lnS]; omega))) only [rdT, rdS, anT]; first | done | omega | (refine ⟨?_, ?_⟩ <;> omega)) | (simp (disch := (first | omega | (simp only [lnS]; omega))) [rdT, rdS]; done))); cbv)
    | (refine E.c (SCalls.of_le (kp) ?_ ?_); (· (cbv; (try simp only [nc] at *); first | done | (simp; done) | (simp (disch := (first | omega | (simp only [lnS]; omega))) only [rdT, rdS, anT]; first | done | omega | (refine ⟨?_, ?_⟩ <;> omega)) | (simp (disch := (first | omega | (simp only [lnS]; omega))) [rdT, rdS]; done))); cbv)
    | (refine E.c (SCalls.of_le (kc) ?_ ?_); (· (cbv; (try simp only [nc] at *); first | done | (simp; done) | (simp (disch := (first | omega | (simp only [lnS]; omega))) only [rdT, rdS, anT]; first | done | omega | (refine ⟨?_, ?_⟩ <;> omega)) | (simp (disch := (first | omega | (simp only [lnS]; omega))) [rdT, rdS]; done))); cbv)
    | (refine E.c (SCalls.of_le (ki) ?_ ?_); (· (cbv; (try simp only [nc] at *); first | done | (simp; done) | (simp (disch := (first | omega | (simp only [lnS]; omega))) only [rdT, rdS, anT]; first | done | omega | (refine ⟨?_, ?_⟩ <;> omega)) | (simp (disch := (first | omega | (simp only [lnS]; omega))) [rdT, rdS]; done))); cbv)
    | (refine E.c (SCalls.of_le (kl) ?_ ?_); (· (cbv; (try simp only [nc] at *); first | done | (simp; done) | (simp (disch := (first | omega | (simp only [lnS]; omega))) only [rdT, rdS, anT]; first | done | omega | (refine ⟨?_, ?_⟩ <;> omega)) | (simp (disch := (first | omega | (simp only [lnS]; omega))) [rdT, rdS]; done))); cbv)
    | (refine ⟨fun _ h_s => ?_, fun _ h_s => ?_⟩ <;> (cbv; (try simp only [nc] at *); try simp (disch := (first | omega | (simp only [lnS]; omega))) only [rdT, rdS, reduceCtorEq, trT] at h_s))
    | (refine hF ?_; intro _; clear hF)
    | (refine hF ?_; cbv; clear hF)
    | (refine ⟨fun _ => ?_, ?_⟩; (· ((try simp only [nc] at *); first | done | omega | exact ⟨by omega, rfl⟩ | (simp (disch := (first | omega | (simp only [lnS]; omega))) only [rdT, rdS]; first | done | omega | rfl | exact ⟨by omega, rfl⟩ | (simp; done) | (simp; omega)) | (intros; trivial))); (try (simp only [nc] at *)); (try simp (disch := (first | omega | (simp only [lnS]; omega))) only [rdT, rdS]); (try cbv))
    | (refine E.d 11 (by decide +kernel) ?_; cbv; (fail_if_success guard_target =~ False))
    | fail
  )
  · rfl
  · exfalso; ((try simp only [nc] at *); omega)
  · rfl
  have q1 := evs_len (g.th.getD t [])
  refine hI (AWPl.step (Step.takeE 5 rfl (fun _ => t) (fun _ => evs (g.th.getD t [])) (fun _ => (g.th.getD t []).length) (fun _ => by rw [evL_len]; exact ht) fun _ => ⟨evL_get _ _, q1⟩) rfl ?_)
  clear hI
  refine E.at 3 fun I hI => ?_
  cbv
  skip
  skip
  skip
  repeat' (first
    | (refine ⟨fun _ h_s => ?_, fun _ h_s => ?_⟩ <;> (cbv; (try simp only [nc] at *); try simp (disch := (first | omega | (simp only [lnS]; omega))) only [rdT, rdS, Nat.zero_add, reduceCtorEq, trT] at h_s))
    | (refine hF ?_; intro _; clear hF)
    | (refine hF ?_; cbv; clear hF)
    | (refine ⟨fun _ => ?_, ?_⟩; (· ((try simp only [nc] at *); first | done | omega | exact ⟨by omega, rfl⟩ | (simp (disch := (first | omega | (simp only [lnS]; omega))) only [rdT, rdS, Nat.zero_add]; first | done | omega | rfl | exact ⟨by omega, rfl⟩ | (simp; done) | (simp; omega)) | (intros; trivial) | exact ⟨by first | trivial | rfl, by first | rfl | trivial | omega, by rw [evL_len]; exact ht⟩ | exact ⟨by first | trivial | rfl, by omega⟩)); (try (simp only [nc] at *)); (try simp (disch := (first | omega | (simp only [lnS]; omega))) only [rdT, rdS, Nat.zero_add]); (try cbv))
    | (refine E.d 11 (by decide +kernel) ?_; cbv; (fail_if_success guard_target =~ False))
    | fail
  )
  · rfl
  have hHi : H.init = g.init := by rw [hH]; rfl
  have hHf : H.fr = g.fr := by rw [hH]; rfl
  have hHo : H.ord = g.ord := by rw [hH]; rfl
  have hS1 : (evss H.th).l = (evL H.th).map fun x => .vs 5 fun _ => x := evss_L _
  have hS2 : (idss g.fr).l = (idL g.fr).map fun x => .vs 2 fun _ => x := idss_L _
  have hS3 : (idss g.ord).l = (idL g.ord).map fun x => .vs 2 fun _ => x := idss_L _
  have hS5 : (evL H.th).length = g.th.length := by rw [evL_len, hH]; simp [naG]
  have hS6 : (idL g.fr).length = g.fr.length := idL_len _
  have hS7 : (idL g.ord).length = g.ord.length := idL_len _
  have hS8 : List.take g.init.length (is g.init).l = (is g.init).l := List.take_of_length_le (by simp)
  refine hI (AWPl.step (Step.putE 5 9 (fun _ => evL H.th) rfl rfl fun _ => ⟨⟨rfl, rfl, ?_⟩, ?_⟩) rfl (E.bl ?_))
  · simp [LV.l_of]
  · show (evL g.th).set t _ = evL H.th
    rw [hH]
    show (evL g.th).set t _ = evL (g.th.set t _)
    rw [← evL_set]
    congr 1
    simp [evs, naE, AV.upd, AV.cells, List.map_set, aEv, ev0]
  cbv
  repeat' (first
    | (refine E.c (SCalls.of_bare kc2 rfl (by cbv; simp [hHi, hHf, hHo, hS1, hS2, hS3, hS5, hS6, hS7, hS8]; done) ?_); cbv)
    | (refine E.c (SCalls.of_le (kr) ?_ ?_); (· (cbv; (try simp only [nc] at *); first | done | (simp; done) | (simp (disch := (first | omega | (simp only [lnS]; omega))) only [rdT, rdS, Nat.zero_add, anT]; first | done | omega | (refine ⟨?_, ?_⟩ <;> omega)) | (simp (disch := (first | omega | (simp only [lnS]; omega))) [rdT, rdS, Nat.zero_add]; done))); cbv)
    | (refine ⟨fun _ h_s => ?_, fun _ h_s => ?_⟩ <;> (cbv; (try simp only [nc] at *); try simp (disch := (first | omega | (simp only [lnS]; omega))) only [rdT, rdS, Nat.zero_add, reduceCtorEq, trT] at h_s))
    | (refine hF ?_; intro _; clear hF)
    | (refine hF ?_; cbv; clear hF)
    | (refine ⟨fun _ => ?_, ?_⟩; (· ((try simp only [nc] at *); first | done | omega | exact ⟨by omega, rfl⟩ | (simp (disch := (first | omega | (simp only [lnS]; omega))) only [rdT, rdS, Nat.zero_add]; first | done | omega | rfl | exact ⟨by omega, rfl⟩ | (simp; done) | (simp; omega)) | (intros; trivial) | exact ⟨by first | trivial | rfl, by first | rfl | trivial | omega, by rw [evL_len]; exact ht⟩ | exact ⟨by first | trivial | rfl, by omega⟩)); (try (simp only [nc] at *)); (try simp (disch := (first | omega | (simp only [lnS]; omega))) only [rdT, rdS, Nat.zero_add]); (try cbv))
    | (refine E.d 11 (by decide +kernel) ?_; cbv; (fail_if_success guard_target =~ False))
    | fail
  )
  · exfalso; revert h_s; simp
  · exfalso; revert h_s; simp
  skip
  refine E.loopS (ι := Nat) (fun i => i ≤ L.length) (fun i => L.length - i) (fun i => [(12, .i fun _ => ((i : Nat) : Int))]) (fun i h => h) 0 (fun _ => by first | rfl | simp) (Nat.zero_le _) ?_ fun i hi I3 hI3 => ?_
  · cbv; simp
  cbv
  have rb := rb i
  have kb := kb (L.getD i rc0).a (L.getD i rc0).b
  repeat' (first
    | (refine hI3 (i + 1) ?_ ?_ ?_; rotate_left 1; (· ((try simp only [nc] at *); omega)); (cbv; clear hI3; (try clear hF); (try simp only [nc] at *); (try simp (disch := (first | omega | (simp only [lnS, rcs_len]; omega))) only [rdT, rdS, Nat.zero_add, rcs_len, rcs_at, anT])); rotate_left 1; (try ((try simp only [nc] at *); omega)))
    | (refine E.c (SCalls.of_bare kb rfl (by cbv; simp [hHi, hHf, hHo, hS1, hS2, hS3, hS5, hS6, hS7, hS8]; done) ?_); cbv)
    | (refine ⟨fun _ h_s => ?_, fun _ h_s => ?_⟩ <;> (cbv; (try simp only [nc] at *); try simp (disch := (first | omega | (simp only [lnS, rcs_len]; omega))) only [rdT, rdS, Nat.zero_add, rcs_len, rcs_at, reduceCtorEq, trT] at h_s))
    | (refine hF ?_; intro _; clear hF)
    | (refine hF ?_; cbv; clear hF)
    | (refine ⟨fun _ => ?_, ?_⟩; (· ((try simp only [nc] at *); first | done | omega | exact ⟨by omega, rfl⟩ | (simp (disch := (first | omega | (simp only [lnS, rcs_len]; omega))) only [rdT, rdS, Nat.zero_add, rcs_len, rcs_at]; first | done | omega | rfl | exact ⟨by omega, rfl⟩ | (simp; done) | (simp; omega)) | (intros; trivial) | exact ⟨by first | trivial | rfl, by first | rfl | trivial | omega, by rw [evL_len]; exact ht⟩ | exact ⟨by first | trivial | rfl, by omega⟩)); (try (simp only [nc] at *)); (try simp (disch := (first | omega | (simp only [lnS, rcs_len]; omega))) only [rdT, rdS, Nat.zero_add, rcs_len, rcs_at]); (try cbv))
    | (refine E.d 11 (by decide +kernel) ?_; cbv; (fail_if_success guard_target =~ False))
    | fail
  )
  all_goals first
    | (push_cast; rfl)
    | rfl
    | (exfalso
       have rb := rb (by ((try simp only [nc] at *); omega))
       simp_all)

theorem racePlain_ok (g : Gr) (hR : Rd g) (thread index : Int) : Pure Try.prog γ false 4 [aGr g, .i fun _ => thread, .i fun _ => index] (.b fun _ => true) := by
  have kl := lives17_ok (γ := γ)
  have ki := light_ok (γ := γ) g hR 60 (by omega) (by omega)
  have kc := check14_ok (γ := γ) g hR
  by_cases hli : lightM 60 g = true
  · by_cases hg : GOk g
    · by_cases h0 : 0 < g.th.length
      · by_cases h1 : 0 < (g.th.getD (pickM thread g.th.length) []).length
        · exact racePlain_main g hg thread index hli h0 h1
        · rw [hli] at ki
          rw [gcheck0 hg] at kc
          have hth := hg.short.th
          have kp := pick_ok (γ := γ) thread g.th.length h0 (by omega)
          have ht := pick_lt thread h0
          generalize pickM thread g.th.length = t at *
          refine Pure.go (ty := ty) ty_eq mo Try.func4 rfl Try.ntmps4 Try.results4 Try.call4 (by simp) fun P C CQ D W F E hF => ?_
          cbv
          repeat' (first
            | (refine E.c (SCalls.of_le (kp) ?_ ?_); (· (cbv; (try simp only [nc] at *); first | done | (simp; done) | (simp (disch := (first | omega | (simp only [lnS, rcs_len]; omega))) only [rdT, rdS, Nat.zero_add, rcs_len, rcs_at, anT]; first | done | omega | (refine ⟨?_, ?_⟩ <;> omega)) | (simp (disch := (first | omega | (simp only [lnS, rcs_len]; omega))) [rdT, rdS, Nat.zero_add, rcs_len, rcs_at]; done))); cbv)
            | (refine E.c (SCalls.of_le (kc) ?_ ?_); (· (cbv; (try simp only [nc] at *); first | done | (simp; done) | (simp (disch := (first | omega | (simp only [lnS, rcs_len]; omega))) only [rdT, rdS, Nat.zero_add, rcs_len, rcs_at, anT]; first | done | omega | (refine ⟨?_, ?_⟩ <;> omega)) | (simp (disch := (first | omega | (simp only [lnS, rcs_len]; omega))) [rdT, rdS, Nat.zero_add, rcs_len, rcs_at]; done))); cbv)
            | (refine E.c (SCalls.of_le (ki) ?_ ?_); (· (cbv; (try simp only [nc] at *); first | done | (simp; done) | (simp (disch := (first | omega | (simp only [lnS, rcs_len]; omega))) only [rdT, rdS, Nat.zero_add, rcs_len, rcs_at, anT]; first | done | omega | (refine ⟨?_, ?_⟩ <;> omega)) | (simp (disch := (first | omega | (simp only [lnS, rcs_len]; omega))) [rdT, rdS, Nat.zero_add, rcs_len, rcs_at]; done))); cbv)
            | (refine E.c (SCalls.of_le (kl) ?_ ?_); (· (cbv; (try simp only [nc] at *); first | done | (simp; done) | (simp (disch := (first | omega | (simp only [lnS, rcs_len]; omega))) only [rdT, rdS, Nat.zero_add, rcs_len, rcs_at, anT]; first | done | omega | (refine ⟨?_, ?_⟩ <;> omega)) | (simp (disch := (first | omega | (simp only [lnS, rcs_len]; omega))) [rdT, rdS, Nat.zero_add, rcs_len, rcs_at]; done))); cbv)
            | (refine ⟨fun _ h_s => ?_, fun _ h_s => ?_⟩ <;> (cbv; (try simp only [nc] at *); try simp (disch := (first | omega | (simp only [lnS, rcs_len]; omega))) only [rdT, rdS, Nat.zero_add, rcs_len, rcs_at, reduceCtorEq, trT] at h_s))
            | (refine hF ?_; intro _; clear hF)
            | (refine hF ?_; cbv; clear hF)
            | (refine ⟨fun _ => ?_, ?_⟩; (· ((try simp only [nc] at *); first | done | omega | exact ⟨by omega, rfl⟩ | (simp (disch := (first | omega | (simp only [lnS, rcs_len]; omega))) only [rdT, rdS, Nat.zero_add, rcs_len, rcs_at]; first | done | omega | rfl | exact ⟨by omega, rfl⟩ | (simp; done) | (simp; omega)) | (intros; trivial) | exact ⟨by first | trivial | rfl, by first | rfl | trivial | omega, by rw [evL_len]; exact ht⟩ | exact ⟨by first | trivial | rfl, by omega⟩)); (try (simp only [nc] at *)); (try simp (disch := (first | omega | (simp only [lnS, rcs_len]; omega))) only [rdT, rdS, Nat.zero_add, rcs_len, rcs_at]); (try cbv))
            | (refine E.d 11 (by decide +kernel) ?_; cbv; (fail_if_success guard_target =~ False))
            | fail
          )
          all_goals first
            | rfl
            | (exfalso; ((try simp only [nc] at *); omega))
      · rw [hli] at ki
        rw [gcheck0 hg] at kc
        refine Pure.go (ty := ty) ty_eq mo Try.func4 rfl Try.ntmps4 Try.results4 Try.call4 (by simp) fun P C CQ D W F E hF => ?_
        cbv
        repeat' (first
          | (refine E.c (SCalls.of_le (kc) ?_ ?_); (· (cbv; (try simp only [nc] at *); first | done | (simp; done) | (simp (disch := (first | omega | (simp only [lnS, rcs_len]; omega))) only [rdT, rdS, Nat.zero_add, rcs_len, rcs_at, anT]; first | done | omega | (refine ⟨?_, ?_⟩ <;> omega)) | (simp (disch := (first | omega | (simp only [lnS, rcs_len]; omega))) [rdT, rdS, Nat.zero_add, rcs_len, rcs_at]; done))); cbv)
          | (refine E.c (SCalls.of_le (ki) ?_ ?_); (· (cbv; (try simp only [nc] at *); first | done | (simp; done) | (simp (disch := (first | omega | (simp only [lnS, rcs_len]; omega))) only [rdT, rdS, Nat.zero_add, rcs_len, rcs_at, anT]; first | done | omega | (refine ⟨?_, ?_⟩ <;> omega)) | (simp (disch := (first | omega | (simp only [lnS, rcs_len]; omega))) [rdT, rdS, Nat.zero_add, rcs_len, rcs_at]; done))); cbv)
          | (refine E.c (SCalls.of_le (kl) ?_ ?_); (· (cbv; (try simp only [nc] at *); first | done | (simp; done) | (simp (disch := (first | omega | (simp only [lnS, rcs_len]; omega))) only [rdT, rdS, Nat.zero_add, rcs_len, rcs_at, anT]; first | done | omega | (refine ⟨?_, ?_⟩ <;> omega)) | (simp (disch := (first | omega | (simp only [lnS, rcs_len]; omega))) [rdT, rdS, Nat.zero_add, rcs_len, rcs_at]; done))); cbv)
          | (refine ⟨fun _ h_s => ?_, fun _ h_s => ?_⟩ <;> (cbv; (try simp only [nc] at *); try simp (disch := (first | omega | (simp only [lnS, rcs_len]; omega))) only [rdT, rdS, Nat.zero_add, rcs_len, rcs_at, reduceCtorEq, trT] at h_s))
          | (refine hF ?_; intro _; clear hF)
          | (refine hF ?_; cbv; clear hF)
          | (refine ⟨fun _ => ?_, ?_⟩; (· ((try simp only [nc] at *); first | done | omega | exact ⟨by omega, rfl⟩ | (simp (disch := (first | omega | (simp only [lnS, rcs_len]; omega))) only [rdT, rdS, Nat.zero_add, rcs_len, rcs_at]; first | done | omega | rfl | exact ⟨by omega, rfl⟩ | (simp; done) | (simp; omega)) | (intros; trivial) | exact ⟨by first | trivial | rfl, by first | rfl | trivial | omega, by rw [evL_len]; exact ht⟩ | exact ⟨by first | trivial | rfl, by omega⟩)); (try (simp only [nc] at *)); (try simp (disch := (first | omega | (simp only [lnS, rcs_len]; omega))) only [rdT, rdS, Nat.zero_add, rcs_len, rcs_at]); (try cbv))
          | (refine E.d 11 (by decide +kernel) ?_; cbv; (fail_if_success guard_target =~ False))
          | fail
        )
        all_goals first
          | rfl
          | (exfalso; ((try simp only [nc] at *); omega))
    · have hc : gcheckM g ≠ 0 := by unfold gcheckM; split <;> simp [hg]
      rw [hli] at ki
      generalize gcheckM g = c0 at *
      refine Pure.go (ty := ty) ty_eq mo Try.func4 rfl Try.ntmps4 Try.results4 Try.call4 (by simp) fun P C CQ D W F E hF => ?_
      cbv
      repeat' (first
        | (refine E.c (SCalls.of_le (kc) ?_ ?_); (· (cbv; (try simp only [nc] at *); first | done | (simp; done) | (simp (disch := (first | omega | (simp only [lnS, rcs_len]; omega))) only [rdT, rdS, Nat.zero_add, rcs_len, rcs_at, anT]; first | done | omega | (refine ⟨?_, ?_⟩ <;> omega)) | (simp (disch := (first | omega | (simp only [lnS, rcs_len]; omega))) [rdT, rdS, Nat.zero_add, rcs_len, rcs_at]; done))); cbv)
        | (refine E.c (SCalls.of_le (ki) ?_ ?_); (· (cbv; (try simp only [nc] at *); first | done | (simp; done) | (simp (disch := (first | omega | (simp only [lnS, rcs_len]; omega))) only [rdT, rdS, Nat.zero_add, rcs_len, rcs_at, anT]; first | done | omega | (refine ⟨?_, ?_⟩ <;> omega)) | (simp (disch := (first | omega | (simp only [lnS, rcs_len]; omega))) [rdT, rdS, Nat.zero_add, rcs_len, rcs_at]; done))); cbv)
        | (refine E.c (SCalls.of_le (kl) ?_ ?_); (· (cbv; (try simp only [nc] at *); first | done | (simp; done) | (simp (disch := (first | omega | (simp only [lnS, rcs_len]; omega))) only [rdT, rdS, Nat.zero_add, rcs_len, rcs_at, anT]; first | done | omega | (refine ⟨?_, ?_⟩ <;> omega)) | (simp (disch := (first | omega | (simp only [lnS, rcs_len]; omega))) [rdT, rdS, Nat.zero_add, rcs_len, rcs_at]; done))); cbv)
        | (refine ⟨fun _ h_s => ?_, fun _ h_s => ?_⟩ <;> (cbv; (try simp only [nc] at *); try simp (disch := (first | omega | (simp only [lnS, rcs_len]; omega))) only [rdT, rdS, Nat.zero_add, rcs_len, rcs_at, reduceCtorEq, trT] at h_s))
        | (refine hF ?_; intro _; clear hF)
        | (refine hF ?_; cbv; clear hF)
        | (refine ⟨fun _ => ?_, ?_⟩; (· ((try simp only [nc] at *); first | done | omega | exact ⟨by omega, rfl⟩ | (simp (disch := (first | omega | (simp only [lnS, rcs_len]; omega))) only [rdT, rdS, Nat.zero_add, rcs_len, rcs_at]; first | done | omega | rfl | exact ⟨by omega, rfl⟩ | (simp; done) | (simp; omega)) | (intros; trivial) | exact ⟨by first | trivial | rfl, by first | rfl | trivial | omega, by rw [evL_len]; exact ht⟩ | exact ⟨by first | trivial | rfl, by omega⟩)); (try (simp only [nc] at *)); (try simp (disch := (first | omega | (simp only [lnS, rcs_len]; omega))) only [rdT, rdS, Nat.zero_add, rcs_len, rcs_at]); (try cbv))
        | (refine E.d 11 (by decide +kernel) ?_; cbv; (fail_if_success guard_target =~ False))
        | fail
      )
      all_goals first
        | rfl
        | (exfalso; ((try simp only [nc] at *); omega))
  · rw [show lightM 60 g = false by simpa using hli] at ki
    refine Pure.go (ty := ty) ty_eq mo Try.func4 rfl Try.ntmps4 Try.results4 Try.call4 (by simp) fun P C CQ D W F E hF => ?_
    cbv
    repeat' (first
      | (refine E.c (SCalls.of_le (ki) ?_ ?_); (· (cbv; (try simp only [nc] at *); first | done | (simp; done) | (simp (disch := (first | omega | (simp only [lnS, rcs_len]; omega))) only [rdT, rdS, Nat.zero_add, rcs_len, rcs_at, anT]; first | done | omega | (refine ⟨?_, ?_⟩ <;> omega)) | (simp (disch := (first | omega | (simp only [lnS, rcs_len]; omega))) [rdT, rdS, Nat.zero_add, rcs_len, rcs_at]; done))); cbv)
      | (refine E.c (SCalls.of_le (kl) ?_ ?_); (· (cbv; (try simp only [nc] at *); first | done | (simp; done) | (simp (disch := (first | omega | (simp only [lnS, rcs_len]; omega))) only [rdT, rdS, Nat.zero_add, rcs_len, rcs_at, anT]; first | done | omega | (refine ⟨?_, ?_⟩ <;> omega)) | (simp (disch := (first | omega | (simp only [lnS, rcs_len]; omega))) [rdT, rdS, Nat.zero_add, rcs_len, rcs_at]; done))); cbv)
      | (refine ⟨fun _ h_s => ?_, fun _ h_s => ?_⟩ <;> (cbv; (try simp only [nc] at *); try simp (disch := (first | omega | (simp only [lnS, rcs_len]; omega))) only [rdT, rdS, Nat.zero_add, rcs_len, rcs_at, reduceCtorEq, trT] at h_s))
      | (refine hF ?_; intro _; clear hF)
      | (refine hF ?_; cbv; clear hF)
      | (refine ⟨fun _ => ?_, ?_⟩; (· ((try simp only [nc] at *); first | done | omega | exact ⟨by omega, rfl⟩ | (simp (disch := (first | omega | (simp only [lnS, rcs_len]; omega))) only [rdT, rdS, Nat.zero_add, rcs_len, rcs_at]; first | done | omega | rfl | exact ⟨by omega, rfl⟩ | (simp; done) | (simp; omega)) | (intros; trivial) | exact ⟨by first | trivial | rfl, by first | rfl | trivial | omega, by rw [evL_len]; exact ht⟩ | exact ⟨by first | trivial | rfl, by omega⟩)); (try (simp only [nc] at *)); (try simp (disch := (first | omega | (simp only [lnS, rcs_len]; omega))) only [rdT, rdS, Nat.zero_add, rcs_len, rcs_at]); (try cbv))
      | (refine E.d 11 (by decide +kernel) ?_; cbv; (fail_if_success guard_target =~ False))
      | fail
    )
    all_goals first
      | rfl
      | (exfalso; ((try simp only [nc] at *); omega))
end Go.AL.Rl

namespace Go.AL
open Go Go.RowKit Go.ChangeShapes Go.WideShapes

section
variable {H : Type} {enc : TypeId × Value → H} {P : Program} {w : World} {spare : Nat → Bool} {held : Bool}

abbrev Old (w : World) : Nat → Prop := fun k => k < w.heap.size

/-- Whatever reads by the type 't' is told by an 'a'. -/
def Dec (P : Program) (t : TypeId) (α : Type) (en : α → List AV) (ok : α → Prop) : Prop :=
  ∀ {H : Type} (enc : TypeId × Value → H) (w : World) (spare : Nat → Bool) (held : Bool) (fuel : Nat) (cs : List Value) (x : DataW H × List MemPlace),
    DataW.trod enc P w 0 spare held fuel t cs = some x → ∃ a, ok a ∧ Rs (Old w) w none (en a) cs

theorem Dec.int {t : TypeId} (ht : P.underlying t = some (.int .i64)) : Dec P t Int (fun n => [.i fun _ => n]) fun n => -9223372036854775808 ≤ n ∧ n ≤ 9223372036854775807 := by
  intro H enc w spare held fuel cs x h
  obtain ⟨n, rfl, _, h2⟩ := DataW.trod_int ht h
  exact ⟨n, bounds_i64 h2, _, _, rfl, rfl, rfl⟩
theorem Dec.u64 {t : TypeId} (ht : P.underlying t = some (.int .u64)) : Dec P t (BitVec 64) (fun n => [.u fun _ => n]) fun _ => True := by
  intro H enc w spare held fuel cs x h
  obtain ⟨n, rfl, _, h2⟩ := DataW.trod_int ht h
  have := bounds_u64 h2
  refine ⟨BitVec.ofInt 64 n, trivial, _, _, rfl, ?_, rfl⟩
  simp only [R]
  congr 1
  simp only [BitVec.toNat_ofInt]
  omega
theorem Dec.bool {t : TypeId} (ht : P.underlying t = some .bool) : Dec P t Bool (fun b => [.b fun _ => b]) fun _ => True := by
  intro H enc w spare held fuel cs x h
  obtain ⟨b, rfl, _⟩ := DataW.trod_bool ht h
  exact ⟨b, trivial, _, _, rfl, rfl, rfl⟩

theorem cells?_get {w : World} {a : Addr} {n : Nat} {cs : List Value} (h : w.cells? 0 a n = some cs) : cs.length = n ∧ ∀ (i : Nat) (c : Value), cs[i]? = some c → w.cell? (a.add i) = some c := by
  simp only [World.cells?, Nat.zero_le, if_true] at h
  have hl : cs.length = n := by have := mapM_some_length h; simpa using this
  refine ⟨hl, fun i c hc => ?_⟩
  have hi : i < n := by have := (List.getElem?_eq_some_iff.1 hc).1; omega
  rw [mapM_some_get h i i (by simp [hi])]; exact hc

theorem list_of_all {α β : Type} {R' : α → β → Prop} : ∀ (l : List β), (∀ b ∈ l, ∃ a, R' a b) → ∃ r : List α, r.length = l.length ∧ ∀ (i : Nat) (a : α) (b : β), r[i]? = some a → l[i]? = some b → R' a b
  | [], _ => ⟨[], rfl, fun i a b h => by simp at h⟩
  | b :: l, h => by
    obtain ⟨a, ha⟩ := h b (by simp)
    obtain ⟨r, h1, h2⟩ := list_of_all l fun b hb => h b (by simp [hb])
    refine ⟨a :: r, by simp [h1], fun i a' b' ha' hb' => ?_⟩
    cases i with
    | zero => simp at ha' hb'; subst ha'; subst hb'; exact ha
    | succ i => exact h2 i a' b' (by simpa using ha') (by simpa using hb')

/-- the elements' values: 'mk' is '.agg' or the one cell -/
structure Elem (mk : List AV → AV) (k : Nat) : Prop where
  val : ∀ {S : Nat → Prop} {w : World} {l : List AV} {cs : List Value}, cs.length = k → l.all AV.one = true → Rs S w none l cs → ∃ v, v.cells.toList = cs ∧ R S w none (mk l) v
theorem Elem.agg (k : Nat) : Elem .agg k := ⟨fun {S w l cs} _ _ h => ⟨.agg cs.toArray, by simp [Value.cells], cs, rfl, h⟩⟩
theorem Elem.one : Elem (fun l => l.headD .any) 1 := ⟨fun {S w l cs} hl h1 h => by
  match cs, hl with
  | [c], _ =>
    match l, h with
    | x :: _, ⟨v, _, e, hx, hr⟩ =>
      cases e
      simp only [List.all_cons, Bool.and_eq_true] at h1
      exact ⟨c, by rw [cells_of_one (R_one hx h1.1)], hx⟩⟩

theorem Dec.slice {t e : TypeId} (ht : P.underlying t = some (.slice e)) {k : Nat} (hk : P.cellsOf e = k) (hk0 : 0 < k) {α : Type} {en : α → List AV} {ok : α → Prop} {mk : List AV → AV} (he : Dec P e α en ok) (hone : ∀ a, (en a).all AV.one = true) (hm : Elem mk k) :
    Dec P t (List α) (fun l => [.vs k fun _ => LV.of (l.map fun a => mk (en a))]) fun l => l.length ≤ maxLen ∧ ∀ a ∈ l, ok a := by
  subst hk
  intro H enc w spare held fuel cs x h
  rcases DataW.trod_slice ht h with ⟨rfl, _⟩ | ⟨a, len, cap, elems, rest, n, rfl, rfl, rfl, _, h2, h3, h4, h5, _⟩
  · exact ⟨[], ⟨by simp, by simp⟩, _, _, rfl, ⟨none, 0, [], rfl, Nat.le_refl _, rfl, .inl rfl⟩, rfl⟩
  · have key : ∀ i : Nat, i < len → ∃ (c : List Value) (a' : α), w.cells? 0 (a.add (i * P.cellsOf e)) (P.cellsOf e) = some c ∧ ok a' ∧ Rs (Old w) w none (en a') c := by
      intro i hi
      have := h5 i hi
      rw [List.getElem?_eq_getElem (by omega)] at this
      simp only [Option.bind_eq_some_iff] at this
      obtain ⟨c, hc, hd⟩ := this
      obtain ⟨a', ha, hr⟩ := he _ _ _ _ _ _ _ hd
      exact ⟨c, a', hc, ha, hr⟩
    have hlist := list_of_all (R' := fun (q : α × Value) (i : Nat) => ok q.1 ∧ q.2.cells.size = P.cellsOf e ∧ (∀ (j : Nat) (c : Value), q.2.cells[j]? = some c → w.cell? ((a.add (i * P.cellsOf e)).add j) = some c) ∧ R (Old w) w none (mk (en q.1)) q.2) (List.range len) fun i hi => by
      obtain ⟨c, a', hc, ha, hr⟩ := key i (by simpa using hi)
      obtain ⟨hl, hg⟩ := cells?_get hc
      obtain ⟨v, hv, hr'⟩ := hm.val hl (hone a') hr
      refine ⟨(a', v), ha, by rw [← Array.length_toList, hv]; exact hl, fun j c' hj => hg j c' ?_, hr'⟩
      rw [← hv]; simpa using hj
    obtain ⟨qs, hq1, hq2⟩ := hlist
    rw [List.length_range] at hq1
    have hq : ∀ (i : Nat) (q : α × Value), qs[i]? = some q → ok q.1 ∧ q.2.cells.size = P.cellsOf e ∧ (∀ (j : Nat) (c : Value), q.2.cells[j]? = some c → w.cell? ((a.add (i * P.cellsOf e)).add j) = some c) ∧ R (Old w) w none (mk (en q.1)) q.2 := fun i q hi =>
      hq2 i q i hi (by
        have := (List.getElem?_eq_some_iff.1 hi).1
        rw [List.getElem?_range (by omega)])
    refine ⟨qs.map (·.1), ⟨by simp; omega, fun a' ha' => ?_⟩, _, _, rfl, ⟨some a, cap, qs.map (·.2), by simp [hq1], by simp; omega, ?_, ?_⟩, rfl⟩
    · obtain ⟨q, hqm, rfl⟩ := List.mem_map.1 ha'
      obtain ⟨i, hi, rfl⟩ := List.mem_iff_getElem.1 hqm
      exact (hq i _ (List.getElem?_eq_getElem hi)).1
    · rw [RL_iff, LV.l_of, Rs_iff]
      refine ⟨by simp, fun i c v hc hv => ?_⟩
      simp only [List.map_map, List.getElem?_map, Option.map_eq_some_iff] at hc hv
      obtain ⟨q, hq', rfl⟩ := hc
      obtain ⟨q', hq'', rfl⟩ := hv
      rw [hq'] at hq''; cases hq''
      exact (hq i q hq').2.2.2
    · cases hqs : qs with
      | nil => exact .inl rfl
      | cons q0 qr =>
        right
        have hlen : 0 < len := by rw [← hq1, hqs]; simp
        obtain ⟨_, hsz, hcell, _⟩ := hq 0 q0 (by rw [hqs]; rfl)
        have hc0 : ∃ c, q0.2.cells[0]? = some c := ⟨_, Array.getElem?_eq_getElem (by omega)⟩
        obtain ⟨c, hc⟩ := hc0
        have hw := hcell 0 c hc
        have ha0 : a.spot = none ∧ a.block < w.heap.size := by
          simp only [Nat.zero_mul, Addr.add, if_true] at hw
          unfold World.cell? at hw
          split at hw
          · rename_i hb
            split at hw
            · cases hw
            · rename_i hs
              exact ⟨by simpa using hs, (Array.getElem?_eq_some_iff.1 hb).1⟩
          · cases hw
        refine ⟨a, rfl, ha0.1, ha0.2, fun i ev hi => ?_⟩
        rw [← hqs] at hi
        simp only [List.getElem?_map, Option.map_eq_some_iff] at hi
        obtain ⟨q, hq', rfl⟩ := hi
        obtain ⟨_, h1, h2, _⟩ := hq i q hq'
        refine ⟨h1, fun j c hj => ?_⟩
        have := h2 j c hj
        have ea : (a.add (i * P.cellsOf e)).add j = ⟨a.block, a.off + (i * P.cellsOf e + j), none⟩ := by
          obtain ⟨b, o, s⟩ := a
          simp only at ha0
          obtain ⟨rfl, _⟩ := ha0
          simp only [Addr.add]
          by_cases h0 : i * P.cellsOf e = 0 <;> by_cases h1 : j = 0 <;> simp [h0, h1] <;> omega
        rw [← ea]; exact this

/-- fields, one behind the other -/
theorem Dec.fields {t : TypeId} {fs : List Field} {a : Array Field} (ht : P.underlying t = some (.struct a)) (hfs : a.toList = fs) {α : Type} {en : α → List AV} {ok : α → Prop}
    (h : ∀ {H : Type} (enc : TypeId × Value → H) (w : World) (spare : Nat → Bool) (held : Bool) (n : Nat) (cs : List Value), cs.length = P.cellsOf t →
      (∀ f ∈ fs, ∃ x, DataW.trod enc P w 0 spare held n f.type ((cs.drop f.offset).take (P.cellsOf f.type)) = some x) → ∃ a, ok a ∧ Rs (Old w) w none (en a) cs) : Dec P t α en ok := by
  intro H enc w spare held fuel cs x hx
  obtain ⟨xs, n, rfl, rfl, h1, h2, h3⟩ := DataW.trod_struct ht hx
  refine h enc w spare held n cs h1 fun f hf => ?_
  rw [← hfs] at hf
  obtain ⟨i, hi, rfl⟩ := List.mem_iff_getElem.1 hf
  have hi' : i < a.size := by simpa using hi
  have := h3 i a[i] (Array.getElem?_eq_getElem hi')
  rw [List.getElem?_eq_getElem (by omega)] at this
  exact ⟨_, by simpa using this⟩
theorem cut3 (cs : List Value) (o s n : Nat) (h : cs.length = n) (ho : o + s = n) : cs = cs.take o ++ (cs.drop o).take s := by
  have : (cs.drop o).take s = cs.drop o := List.take_of_length_le (by simp; omega)
  rw [this, List.take_append_drop]

theorem Dec.struct2 {t : TypeId} {a : Array Field} (ht : P.underlying t = some (.struct a)) {t0 t1 : TypeId} {s0 s1 : Nat} (hfs : a.toList.map (fun f => (f.type, f.offset)) = [(t0, 0), (t1, s0)]) (h0 : P.cellsOf t0 = s0) (h1 : P.cellsOf t1 = s1) (hs : P.cellsOf t = s0 + s1)
    {α β : Type} {e0 : α → List AV} {e1 : β → List AV} {k0 : α → Prop} {k1 : β → Prop} (d0 : Dec P t0 α e0 k0) (d1 : Dec P t1 β e1 k1) : Dec P t (α × β) (fun p => e0 p.1 ++ e1 p.2) fun p => k0 p.1 ∧ k1 p.2 := by
  refine Dec.fields ht rfl fun {H} enc w spare held n cs hl hf => ?_
  have get : ∀ t o, (t, o) ∈ a.toList.map (fun f => (f.type, f.offset)) → ∃ x, DataW.trod enc P w 0 spare held n t ((cs.drop o).take (P.cellsOf t)) = some x := fun t o hm => by
    obtain ⟨f, hf1, hf2⟩ := List.mem_map.1 hm
    cases hf2
    exact hf f hf1
  rw [hfs] at get
  obtain ⟨x0, g0⟩ := get t0 0 (by simp)
  obtain ⟨x1, g1⟩ := get t1 s0 (by simp)
  obtain ⟨a0, o0, r0⟩ := d0 _ _ _ _ _ _ _ g0
  obtain ⟨a1, o1, r1⟩ := d1 _ _ _ _ _ _ _ g1
  refine ⟨(a0, a1), ⟨o0, o1⟩, ?_⟩
  rw [cut3 cs s0 s1 _ (hl.trans hs) rfl]
  rw [h0] at r0; rw [h1] at r1
  exact Rs_append (by simpa using r0) r1

theorem trodAll_len {W : World} {b : Nat} : ∀ {ts : List TypeId} {vs : List Value} {ds : List (DataW H)} {p : List MemPlace}, DataW.TrodAll enc P W b spare held ts vs ds p → ds.length = ts.length
  | [], [], [], _, _ => rfl
  | _ :: _, _ :: _, _ :: _, _, ⟨_, _, _, h, _⟩ => by simp [trodAll_len h]
  | [], [], _ :: _, _, h => h.elim
  | [], _ :: _, _, _, h => h.elim
  | _ :: _, [], _, _, h => h.elim
  | _ :: _, _ :: _, [], _, h => h.elim
theorem trodAll_carry {W W' : World} (hq : ∀ k, k < W.heap.size → W'.heap[k]? = W.heap[k]?) : ∀ {ts : List TypeId} {vs : List Value} {ds : List (DataW H)} {p : List MemPlace},
    DataW.TrodAll enc P W 0 spare held ts vs ds p → (∀ p' ∈ p, p'.block < W.heap.size) → DataW.TrodAll enc P W' 0 spare held ts vs ds p
  | [], [], [], _, h, _ => h
  | _ :: _, _ :: _, _ :: _, _, ⟨p0, q0, ⟨n, h1⟩, h2, e⟩, lt => by
    subst e
    refine ⟨p0, q0, ⟨n, DataW.trod_carry _ _ _ _ h1 fun pl hpl => ?_⟩, trodAll_carry hq h2 fun p' hp => lt p' (List.mem_append_right _ hp), rfl⟩
    have hlt := lt pl (List.mem_append_left _ hpl)
    cases pl with
    | cell b off => exact World.cell?_of_block (hq b hlt)
    | map b => exact hq b hlt
  | [], [], _ :: _, _, h, _ => h.elim
  | [], _ :: _, _, _, h, _ => h.elim
  | _ :: _, [], _, _, h, _ => h.elim
  | _ :: _, _ :: _, [], _, h, _ => h.elim
theorem post_true {H : Type} {enc : TypeId × Value → H} {f : Func} {s : ChangeSpec} {W W' : World} {args : Array Value} {ds gs : List (DataW H)} {before : List MemPlace} {tb : TypeId}
    (hW : DataW.Whole enc P f.params.toList s.vars false W args.toList ds gs before) (hv : s.vars = []) (hres : f.resultTypes = #[tb]) (htb : P.underlying tb = some .bool)
    (hs : ∀ ds' : List (DataW H), ds'.length = f.params.size → s.fn H ds' = { results := [.lit (.bool true)], args := ds' })
    (hl : laidOutB P = true) (hm : mapsRowed P = true) (hz : ((List.range P.types.size).all fun t => match P.underlying t with | some (.slice e) => decide (0 < P.cellsOf e) | _ => true) = true) (hT : ∀ t ∈ f.params.toList, t < P.types.size)
    (hq : ∀ k, k < W.heap.size → W'.heap[k]? = W.heap[k]?) (fr : Fr W W') : s.post enc P f false true false false W args (.bool true) W' := by
  have hW' := hW
  obtain ⟨p, q, hA, hV, rfl, hfz, hnd⟩ := hW
  rw [hv] at hV
  obtain ⟨rfl, rfl⟩ := trodVars_none hV
  have hlen : ds.length = f.params.size := by have := trodAll_len hA; simpa using this
  have hsd := hs (ds ++ []) (by simpa using hlen)
  have hall : ∀ (b : Nat) (sp : Nat → Bool) (hd : Bool), DataW.TrodAll enc P W' b sp hd [tb] [.bool true] [.lit (.bool true)] [] := fun b sp hd => ⟨[], [], ⟨1, by simp [DataW.trod, htb, Value.cells]⟩, rfl, rfl⟩
  refine post_of_same (pa := p) (pv := []) hW' (fun b sp hd => ?_) (fun sp hsp => ?_) (fun sp _ => ?_) (by simp) ?_ fr.frozen ?_
  · rw [hsd, hres]; exact hall b sp hd
  · rw [hsd]
    simp only [List.append_nil]
    have carry : DataW.TrodAll enc P W' 0 (fun _ => true) true f.params.toList args.toList ds p := trodAll_carry hq hA fun p' hp => hW'.lt p' (by simpa using hp)
    exact carry.respare (kids_rows hl hm) (fun t e ht hu => slices_full_of P hz t e ht hu) hT fun p' hp => hsp p' (by simpa using hp)
  · rw [hsd, hv]; rfl
  · refine ⟨fr.os, fr.output, fun i hi => ?_⟩
    rw [hq i hi]
    cases h : W.heap[i]? with
    | none => trivial
    | some o => cases o <;> simp
  · exact ok_one hres rfl (okWide_bool_mk htb _)

def Arg (P : Program) (t : TypeId) (α : Type) (en : α → AV) (ok : α → Prop) : Prop :=
  ∀ {H : Type} (enc : TypeId × Value → H) (W : World) (base : Nat) (v : Value) (d : DataW H) (p : List MemPlace), Value.okWide P W .any base t v → DataW.Trod enc P W 0 (fun _ => true) true t v d p → ∃ a, ok a ∧ R (Old W) W none (en a) v
theorem Arg.agg {t : TypeId} {a : Array Field} (ht : P.underlying t = some (.struct a)) {α : Type} {en : α → List AV} {ok : α → Prop} (h : Dec P t α en ok) : Arg P t α (fun a => .agg (en a)) ok := by
  intro H enc W base v d p hok ⟨n, hn⟩
  simp only [Value.okWide, ht] at hok
  obtain ⟨cs, rfl, _⟩ := hok
  obtain ⟨x, h1, h2⟩ := h _ _ _ _ _ _ _ hn
  exact ⟨x, h1, cs.toList, by simp, by simpa [Value.cells] using h2⟩
theorem Arg.one {t : TypeId} {k : TypeDesc} (ht : P.underlying t = some k) (hk : match k with | .int _ | .bool | .slice _ => True | _ => False) {α : Type} {en : α → AV} {ok : α → Prop} (h : Dec P t α (fun a => [en a]) ok) : Arg P t α en ok := by
  intro H enc W base v d p hok ⟨n, hn⟩
  obtain ⟨x, h1, y, ys, h2, h3, h4⟩ := h _ _ _ _ _ _ _ hn
  have h4 : ys = [] := h4
  subst h4
  have hv : v = y := by
    cases v
    case agg cs => cases k <;> first | exact hk.elim | simp [Value.okWide, ht, Cell.okWide, Cell.ok] at hok
    all_goals (simp [Value.cells] at h2; exact h2)
  subst hv
  exact ⟨x, h1, h3⟩

/-- A LAW, from its contract. -/
theorem law_true {γ : Nat → Option AV} {f : FuncId} {fn : Func} {s : ChangeSpec} {W : World} {args : Array Value} {ds gs : List (DataW H)} {before : List MemPlace} {tb : TypeId} {avs : List AV} (hp : Pure P γ false f avs (.b fun _ => true)) (hr : Rs (Old W) W none avs args.toList)
    (hγ : ∀ g x, γ g = some x → R (Old W) W none (.vp (fun _ => x) 0) (.pointer (some ⟨g, 0, none⟩)))
    (hW : DataW.Whole enc P fn.params.toList s.vars false W args.toList ds gs before) (hv : s.vars = []) (hres : fn.resultTypes = #[tb]) (htb : P.underlying tb = some .bool)
    (hs : ∀ ds' : List (DataW H), ds'.length = fn.params.size → s.fn H ds' = { results := [.lit (.bool true)], args := ds' })
    (hl : laidOutB P = true) (hm : mapsRowed P = true) (hz : ((List.range P.types.size).all fun t => match P.underlying t with | some (.slice e) => decide (0 < P.cellsOf e) | _ => true) = true) (hT : ∀ t ∈ fn.params.toList, t < P.types.size) :
    Calls P f args W fun e W' => ∃ v, e = .returned v ∧ s.post enc P fn false true false false W args v W' := by
  have := hp.2 (Old W) W args.toList (fun k hk => hk) hγ hr
  refine (this.mono fun e w' ⟨v', S', h1, h2, h3⟩ => ?_)
  have h2 : v' = .bool true := h2
  subst h2
  exact ⟨_, h1, post_true hW hv hres htb hs hl hm hz hT h3.same h3.fr⟩
end
end Go.AL

namespace Go.AL
open Go Go.RowKit Go.ChangeShapes Go.WideShapes
section
variable {P : Program}
theorem Dec.imap {t : TypeId} {α β : Type} {en : α → List AV} {ok : α → Prop} {en' : β → List AV} {ok' : β → Prop} (d : Dec P t α en ok) (f : α → β) (he : ∀ a, en a = en' (f a)) (hk : ∀ a, ok a → ok' (f a)) : Dec P t β en' ok' := by
  intro H enc w spare held fuel cs x h
  obtain ⟨a, h1, h2⟩ := d _ _ _ _ _ _ _ h
  exact ⟨f a, hk a h1, by rw [← he]; exact h2⟩
theorem Dec.struct4 {t : TypeId} {a : Array Field} (ht : P.underlying t = some (.struct a)) {t0 t1 t2 t3 : TypeId} (hfs : a.toList.map (fun f => (f.type, f.offset)) = [(t0, 0), (t1, 1), (t2, 2), (t3, 3)])
    (h0 : P.cellsOf t0 = 1) (h1 : P.cellsOf t1 = 1) (h2 : P.cellsOf t2 = 1) (h3 : P.cellsOf t3 = 1) (hs : P.cellsOf t = 4)
    {A0 A1 A2 A3 : Type} {e0 : A0 → List AV} {e1 : A1 → List AV} {e2 : A2 → List AV} {e3 : A3 → List AV} {k0 : A0 → Prop} {k1 : A1 → Prop} {k2 : A2 → Prop} {k3 : A3 → Prop}
    (d0 : Dec P t0 A0 e0 k0) (d1 : Dec P t1 A1 e1 k1) (d2 : Dec P t2 A2 e2 k2) (d3 : Dec P t3 A3 e3 k3) :
    Dec P t (A0 × A1 × A2 × A3) (fun p => e0 p.1 ++ (e1 p.2.1 ++ (e2 p.2.2.1 ++ e3 p.2.2.2))) fun p => k0 p.1 ∧ k1 p.2.1 ∧ k2 p.2.2.1 ∧ k3 p.2.2.2 := by
  refine Dec.fields ht rfl fun {H} enc w spare held n cs hl hf => ?_
  have get : ∀ t o, (t, o) ∈ a.toList.map (fun f => (f.type, f.offset)) → ∃ x, DataW.trod enc P w 0 spare held n t ((cs.drop o).take (P.cellsOf t)) = some x := fun t o hm => by
    obtain ⟨f, hf1, hf2⟩ := List.mem_map.1 hm
    cases hf2
    exact hf f hf1
  rw [hfs] at get
  rw [hs] at hl
  match cs, hl with
  | [c0, c1, c2, c3], _ =>
    obtain ⟨x0, g0⟩ := get t0 0 (by simp)
    obtain ⟨x1, g1⟩ := get t1 1 (by simp)
    obtain ⟨x2, g2⟩ := get t2 2 (by simp)
    obtain ⟨x3, g3⟩ := get t3 3 (by simp)
    obtain ⟨a0, o0, r0⟩ := d0 _ _ _ _ _ _ _ g0
    obtain ⟨a1, o1, r1⟩ := d1 _ _ _ _ _ _ _ g1
    obtain ⟨a2, o2, r2⟩ := d2 _ _ _ _ _ _ _ g2
    obtain ⟨a3, o3, r3⟩ := d3 _ _ _ _ _ _ _ g3
    rw [h0] at r0; rw [h1] at r1; rw [h2] at r2; rw [h3] at r3
    exact ⟨(a0, a1, a2, a3), ⟨o0, o1, o2, o3⟩, Rs_append (vals := [c0]) r0 (Rs_append (vals := [c1]) r1 (Rs_append (vals := [c2]) r2 r3))⟩
theorem Dec.struct5 {t : TypeId} {a : Array Field} (ht : P.underlying t = some (.struct a)) {e f : TypeId} (hfs : a.toList.map (fun f => (f.type, f.offset)) = [(e, 0), (e, 1), (e, 2), (f, 3), (f, 4)])
    (h0 : P.cellsOf e = 1) (h1 : P.cellsOf f = 1) (hs : P.cellsOf t = 5) {A0 : Type} {e0 : A0 → List AV} {k0 : A0 → Prop} (d0 : Dec P e A0 e0 k0) (d1 : Dec P f A0 e0 k0) :
    Dec P t (A0 × A0 × A0 × A0 × A0) (fun p => e0 p.1 ++ (e0 p.2.1 ++ (e0 p.2.2.1 ++ (e0 p.2.2.2.1 ++ e0 p.2.2.2.2)))) fun p => k0 p.1 ∧ k0 p.2.1 ∧ k0 p.2.2.1 ∧ k0 p.2.2.2.1 ∧ k0 p.2.2.2.2 := by
  refine Dec.fields ht rfl fun {H} enc w spare held n cs hl hf => ?_
  have get : ∀ t o, (t, o) ∈ a.toList.map (fun f => (f.type, f.offset)) → ∃ x, DataW.trod enc P w 0 spare held n t ((cs.drop o).take (P.cellsOf t)) = some x := fun t o hm => by
    obtain ⟨f, hf1, hf2⟩ := List.mem_map.1 hm
    cases hf2
    exact hf f hf1
  rw [hfs] at get
  rw [hs] at hl
  match cs, hl with
  | [c0, c1, c2, c3, c4], _ =>
    obtain ⟨x0, g0⟩ := get e 0 (by simp)
    obtain ⟨x1, g1⟩ := get e 1 (by simp)
    obtain ⟨x2, g2⟩ := get e 2 (by simp)
    obtain ⟨x3, g3⟩ := get f 3 (by simp)
    obtain ⟨x4, g4⟩ := get f 4 (by simp)
    obtain ⟨a0, o0, r0⟩ := d0 _ _ _ _ _ _ _ g0
    obtain ⟨a1, o1, r1⟩ := d0 _ _ _ _ _ _ _ g1
    obtain ⟨a2, o2, r2⟩ := d0 _ _ _ _ _ _ _ g2
    obtain ⟨a3, o3, r3⟩ := d1 _ _ _ _ _ _ _ g3
    obtain ⟨a4, o4, r4⟩ := d1 _ _ _ _ _ _ _ g4
    rw [h0] at r0 r1 r2; rw [h1] at r3 r4
    exact ⟨(a0, a1, a2, a3, a4), ⟨o0, o1, o2, o3, o4⟩, Rs_append (vals := [c0]) r0 (Rs_append (vals := [c1]) r1 (Rs_append (vals := [c2]) r2 (Rs_append (vals := [c3]) r3 r4)))⟩
end
end Go.AL

namespace Go.AL.Rl
open Go Go.AL Go.Proofs Go.RowKit Go.ChangeShapes Go.WideShapes Go.ChangeAt Go.Proofs.Ytjoggeafcdfidaa
set_option maxRecDepth 100000

theorem laidOut : laidOutB Try.prog = true := by kernel_rfl
theorem mapsOk : mapsRowed Try.prog = true := by kernel_rfl
theorem slicesOk : ((List.range Try.prog.types.size).all fun t => match Try.prog.underlying t with | some (.slice e) => decide (0 < Try.prog.cellsOf e) | _ => true) = true := by kernel_rfl
theorem own : ownKnob Try.prog.godebug = none := by kernel_rfl
def γ0 : Nat → Option AV := fun _ => none
theorem gok0 {W : World} : ∀ g x, γ0 g = some x → R (Old W) W none (.vp (fun _ => x) 0) (.pointer (some ⟨g, 0, none⟩)) := fun g x h => by cases h
theorem aInt : Arg Try.prog 3 Int (fun n => .i fun _ => n) (fun n => -9223372036854775808 ≤ n ∧ n ≤ 9223372036854775807) := Arg.one Try.underlying3 trivial (Dec.int Try.underlying3)
theorem dInts : Dec Try.prog 22 (List Int) (fun l => [.vs 1 fun _ => is l]) fun l => l.length ≤ maxLen :=
  Dec.imap (Dec.slice Try.underlying22 (k := 1) (by kernel_rfl) (by omega) (Dec.int Try.underlying2) (fun _ => rfl) Elem.one) id (fun _ => rfl) fun _ h => h.1
theorem dEv : Dec Try.prog 28 Ev (fun e => [.i fun _ => e.kind, .i fun _ => e.loc, .i fun _ => e.order, .i fun _ => e.rd, .i fun _ => e.wr]) fun _ => True :=
  Dec.imap (Dec.struct5 Try.underlying28 (e := 3) (f := 2) (by kernel_rfl) (by kernel_rfl) (by kernel_rfl) (by kernel_rfl) (Dec.int Try.underlying3) (Dec.int Try.underlying2)) (fun p => ⟨p.1, p.2.1, p.2.2.1, p.2.2.2.1, p.2.2.2.2⟩) (fun _ => rfl) fun _ _ => trivial
theorem dId : Dec Try.prog 30 EId (fun e => [.i fun _ => e.t, .i fun _ => e.i]) fun _ => True :=
  Dec.imap (Dec.struct2 Try.underlying30 (t0 := 3) (t1 := 3) (s0 := 1) (s1 := 1) (by kernel_rfl) (by kernel_rfl) (by kernel_rfl) (by kernel_rfl) (Dec.int Try.underlying3) (Dec.int Try.underlying3)) (fun p => ⟨p.1, p.2⟩) (fun _ => rfl) fun _ _ => trivial
theorem dEvs : Dec Try.prog 47 (List Ev) (fun l => [.vs 5 fun _ => evs l]) fun l => l.length ≤ maxLen :=
  Dec.imap (Dec.slice Try.underlying47 (k := 5) (by kernel_rfl) (by omega) dEv (fun _ => rfl) (Elem.agg 5)) id (fun _ => rfl) fun _ h => h.1
theorem dIds : Dec Try.prog 55 (List EId) (fun l => [.vs 2 fun _ => ids l]) fun l => l.length ≤ maxLen :=
  Dec.imap (Dec.slice Try.underlying55 (k := 2) (by kernel_rfl) (by omega) dId (fun _ => rfl) (Elem.agg 2)) id (fun _ => rfl) fun _ h => h.1
theorem dEvss : Dec Try.prog 23 (List (List Ev)) (fun l => [.vs 1 fun _ => evss l]) fun l => l.length ≤ maxLen ∧ ∀ a ∈ l, a.length ≤ maxLen :=
  Dec.imap (Dec.slice Try.underlying23 (k := 1) (by kernel_rfl) (by omega) dEvs (fun _ => rfl) Elem.one) id (fun _ => rfl) fun _ h => h
theorem dIdss : Dec Try.prog 24 (List (List EId)) (fun l => [.vs 1 fun _ => idss l]) fun l => l.length ≤ maxLen ∧ ∀ a ∈ l, a.length ≤ maxLen :=
  Dec.imap (Dec.slice Try.underlying24 (k := 1) (by kernel_rfl) (by omega) dIds (fun _ => rfl) Elem.one) id (fun _ => rfl) fun _ h => h
theorem dGr : Dec Try.prog 26 Gr (fun g => [.vs 1 fun _ => is g.init, .vs 1 fun _ => evss g.th, .vs 1 fun _ => idss g.fr, .vs 1 fun _ => idss g.ord]) Rd :=
  Dec.imap (Dec.struct4 Try.underlying26 (t0 := 22) (t1 := 23) (t2 := 24) (t3 := 24) (by kernel_rfl) (by kernel_rfl) (by kernel_rfl) (by kernel_rfl) (by kernel_rfl) (by kernel_rfl) dInts dEvss dIdss dIdss)
    (fun p => ⟨p.1, p.2.1, p.2.2.1, p.2.2.2⟩) (fun _ => rfl) fun p h => by
      have e : maxLen = 9223372036854775807 := by decide +kernel
      obtain ⟨h0, ⟨h1, h1'⟩, ⟨h2, h2'⟩, h3, h3'⟩ := h
      rw [e] at *
      exact ⟨by dsimp only; omega, by dsimp only; omega, by dsimp only; omega, by dsimp only; omega, fun l hl => by have := h1' l hl; omega, fun l hl => by have := h2' l hl; omega, fun l hl => by have := h3' l hl; omega⟩
theorem aGraph : Arg Try.prog 26 Gr aGr Rd := Arg.agg Try.underlying26 dGr
end Go.AL.Rl

namespace Go.AL.Rl
open Go Go.AL Go.Proofs
set_option maxRecDepth 100000
open Go.RowKit Go.ChangeShapes Go.WideShapes Go.ChangeAt Go.Proofs.Ytjoggeafcdfidaa
namespace RacePlain
theorem contract (H : Type) (enc : TypeId × Value → H) (W : World) (base : Nat) (args : Array Value) (ds gs : List (DataW H)) (before : List MemPlace)
    (hval : ∀ (j : Nat) t v, Try.f4.params[j]? = some t → args[j]? = some v → Value.okWide Try.prog W .any base t v)
    (hW : DataW.Whole enc Try.prog Try.f4.params.toList Rows.racePlainSpec.vars false W args.toList ds gs before) (hL : laidMet Try.prog Rows.racePlainRow.laid W) :
    Calls Try.prog 4 args W fun e W' => ∃ v, e = .returned v ∧ Rows.racePlainSpec.post enc Try.prog Try.f4 false true false false W args v W' := by
  have hW' := hW
  obtain ⟨p, q, hA, hV, rfl, hfz, hnd⟩ := hW
  rw [Try.params4] at hA hval
  obtain ⟨v0, vs0, d0, ds0, p0, q0, hargs, rfl, rfl, h0, r0⟩ := trodAll_cons hA
  obtain ⟨v1, vs1, d1, ds1, p1, q1, rfl, rfl, rfl, h1, r1⟩ := trodAll_cons r0
  obtain ⟨v2, vs2, d2, ds2, p2, q2, rfl, rfl, rfl, h2, r2⟩ := trodAll_cons r1
  obtain ⟨rfl, rfl, rfl⟩ := trodAll_nil r2
  obtain rfl : args = #[v0, v1, v2] := by cases args; simp_all
  obtain ⟨x0, k0, a0⟩ := aGraph enc W base v0 d0 p0 (hval 0 _ v0 rfl rfl) h0
  obtain ⟨x1, k1, a1⟩ := aInt enc W base v1 d1 p1 (hval 1 _ v1 rfl rfl) h1
  obtain ⟨x2, k2, a2⟩ := aInt enc W base v2 d2 p2 (hval 2 _ v2 rfl rfl) h2
  exact law_true (racePlain_ok (γ := γ0) x0 k0 x1 x2) ⟨_, _, rfl, a0, _, _, rfl, a1, _, _, rfl, a2, rfl⟩ gok0 hW' rfl (tb := 4) (by kernel_rfl) Try.underlying4
    (fun ds' h => by match ds', h with | [a, b, c], _ => rfl) laidOut mapsOk slicesOk (by rw [Try.params4]; decide +kernel)
theorem laid_met (os : Os) : laidMet Try.prog Rows.racePlainRow.laid ((World.holding Try.prog os ⟨#[], #[], []⟩).forCall (fun _ _ => 0) ⟨#[], #[.agg #[.slice none 0 0, .slice none 0 0, .slice none 0 0, .slice none 0 0], .int .i64 0, .int .i64 0], []⟩).memory :=
  laidMet_of_run' 8 (by kernel_rfl) (by kernel_rfl)
theorem reads (os : Os) {H : Type} (enc : TypeId × Value → H) : ∃ places, DataW.whole enc Try.prog ((World.holding Try.prog os ⟨#[], #[], []⟩).forCall (fun _ _ => 0) ⟨#[], #[.agg #[.slice none 0 0, .slice none 0 0, .slice none 0 0, .slice none 0 0], .int .i64 0, .int .i64 0], []⟩).memory Try.f4.params.toList Rows.racePlainSpec.vars false (#[.agg #[.slice none 0 0, .slice none 0 0, .slice none 0 0, .slice none 0 0], .int .i64 0, .int .i64 0] : Array Value).toList 8 = some ([.agg [.nil, .nil, .nil, .nil], .lit (.int .i64 0), .lit (.int .i64 0)], [], places) :=
  ⟨[], by kernel_rfl⟩
theorem lifted (os : Os) (started : os.Started) (H : Type) (enc : TypeId × Value → H) (F : Stop.Interp) :
    ReturnsInHanded {} Try.checked os 4 .any ((OpenSpec.ofChange Rows.racePlainSpec).preRow enc Try.prog Try.f4 Rows.racePlainRow.domain false Rows.racePlainRow.laid) (((OpenSpec.ofChange Rows.racePlainSpec).at F).post enc Try.prog Try.f4 false true false false) := by
  obtain ⟨places, hx⟩ := reads os enc
  refine returnsInHanded_of_row (C := Try.checked) (s := OpenSpec.ofChange Rows.racePlainSpec) own started (by kernel_rfl) Try.func4
    (witness_row_at (enc := enc) (C := Try.checked) false (World.holding Try.prog os ⟨#[], #[], []⟩) #[.agg #[.slice none 0 0, .slice none 0 0, .slice none 0 0, .slice none 0 0], .int .i64 0, .int .i64 0] rfl (by kernel_rfl) (by kernel_rfl) (by kernel_rfl)
      (OpenSpec.preRow_of_cond 8 hx (by kernel_rfl) (fun k hk => by cases hk) (by kernel_rfl) (laid_met os))) ?_
  intro W base args ds gs before hval hW _ _ _ hL _ _
  exact contract H enc W base args ds gs before hval hW hL
theorem said : Rows.RacePlainSaid :=
  OpenClaim.holds_of_cond 4 Try.f4 rfl rfl rfl rfl rfl rfl rfl ⟨rfl, rfl, rfl, rfl, rfl⟩ rfl rfl rfl rfl rfl (by kernel_rfl) Try.func4 (by kernel_rfl)
    (of_decide_eq_true (by kernel_rfl)) (by unfold Func.isWrapper; first | (rw [if_pos (by decide +kernel)]; kernel_rfl) | (rw [if_neg (by decide +kernel)]; exact ⟨rfl, rfl⟩))
    (fun os started H enc _ F => by rw [OpenClaim.pre_eq_preRow]; exact lifted os started H enc F)
end RacePlain
end Go.AL.Rl
