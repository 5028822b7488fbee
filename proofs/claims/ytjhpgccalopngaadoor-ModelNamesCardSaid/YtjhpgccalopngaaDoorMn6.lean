import Derived.Test.YtjhpgccalopngaaDoorMn5
set_option linter.unusedVariables false
set_option linter.unusedSimpArgs false
namespace Go.AL.Rl
open Go Go.AL Go.Proofs
set_option maxRecDepth 100000
set_option maxHeartbeats 1600000
variable {γ : Nat → Option AV}

structure Ft where
  a : Int
  b : Int
  br : Bool
abbrev aFt (f : Ft) : AV := .agg [.i fun _ => f.a, .i fun _ => f.b, .b fun _ => f.br]
def ft0 : Ft := ⟨0, 0, false⟩
def leadM (p : Nat → Bool) (n : Nat) : Option Nat := (List.range n).find? p
theorem leadM_succ (p : Nat → Bool) (n : Nat) : leadM p (n + 1) = (leadM p n).or (if p n = true then some n else none) := by
  unfold leadM
  rw [List.range_succ, List.find?_append]
  congr 1
  by_cases h : p n = true
  · rw [if_pos h, List.find?_cons_of_pos h]
  · rw [if_neg h, List.find?_cons_of_neg h]; rfl
theorem leadM_none {p : Nat → Bool} : ∀ {n : Nat}, (∀ k < n, p k = false) → leadM p n = none
  | 0, _ => rfl
  | n + 1, h => by rw [leadM_succ, leadM_none fun k hk => h k (by omega), h n (by omega)]; rfl
theorem leadM_some {p : Nat → Bool} {i : Nat} (hi : p i = true) (hb : ∀ k < i, p k = false) : ∀ {n : Nat}, i < n → leadM p n = some i
  | n + 1, h => by
    rw [leadM_succ]
    by_cases e : n = i
    · subst e; rw [leadM_none hb, if_pos hi]; rfl
    · rw [leadM_some hi hb (n := n) (by omega)]; rfl
def ftOf : Option Nat → Ft
  | some i => ⟨i, -1, true⟩
  | none => ft0
def circF (rows : List (BitVec 64)) : Ft := ftOf (leadM (fun i => bit rows i i) rows.length)
theorem circF_at {rows : List (BitVec 64)} {i : Nat} (hi : i < rows.length) (h : bit rows i i = true) (hb : ∀ k < i, bit rows k k = false) : circF rows = ⟨i, -1, true⟩ := by
  unfold circF; rw [leadM_some (p := fun i => bit rows i i) h hb hi]; rfl
theorem circF_no {rows : List (BitVec 64)} (hb : ∀ k < rows.length, bit rows k k = false) : circF rows = ⟨0, 0, false⟩ := by
  unfold circF; rw [leadM_none (p := fun i => bit rows i i) hb]; rfl
def updB (V : Vw) (k : Nat) : Bool := decide ((V.ev.getD k ev0).kind = 3) && decide (V.pl.getD k 0 ≠ V.pl.getD (V.fr.getD k 0).toNat 0 + 1)
def updF (V : Vw) (n : Nat) : Ft := ftOf (leadM (updB V) n)
theorem updF_at {V : Vw} {n i : Nat} (hi : i < n) (h : updB V i = true) (hb : ∀ k < i, updB V k = false) : updF V n = ⟨i, -1, true⟩ := by
  unfold updF; rw [leadM_some h hb hi]; rfl
theorem updF_no {V : Vw} {n : Nat} (hb : ∀ k < n, updB V k = false) : updF V n = ⟨0, 0, false⟩ := by
  unfold updF; rw [leadM_none hb]; rfl
def cohB (hb eco : List (BitVec 64)) (a b : Nat) : Bool := decide (a ≠ b) && bit hb a b && bit eco b a
def cohR (hb eco : List (BitVec 64)) (a : Nat) : Option Nat := leadM (cohB hb eco a) eco.length
def cohF (hb eco : List (BitVec 64)) : Ft :=
  match leadM (fun a => (cohR hb eco a).isSome) hb.length with
  | some a => ⟨a, ((cohR hb eco a).getD 0 : Nat), true⟩
  | none => ft0
theorem cohF_at {hb eco : List (BitVec 64)} {a b : Nat} (ha : a < hb.length) (hbl : b < eco.length) (h : cohB hb eco a b = true) (hr : ∀ k < b, cohB hb eco a k = false) (hp : ∀ k < a, ∀ j < eco.length, cohB hb eco k j = false) :
    cohF hb eco = ⟨a, b, true⟩ := by
  have e1 : cohR hb eco a = some b := leadM_some h hr hbl
  have e2 : leadM (fun a => (cohR hb eco a).isSome) hb.length = some a := leadM_some (by simp [e1]) (fun k hk => by
    have : cohR hb eco k = none := leadM_none (hp k hk)
    simp [this]) ha
  unfold cohF; rw [e2]; simp [e1]
theorem cohF_no {hb eco : List (BitVec 64)} (hp : ∀ k < hb.length, ∀ j < eco.length, cohB hb eco k j = false) : cohF hb eco = ⟨0, 0, false⟩ := by
  have e2 : leadM (fun a => (cohR hb eco a).isSome) hb.length = none := leadM_none fun k hk => by
    have : cohR hb eco k = none := leadM_none (hp k hk)
    simp [this]
  unfold cohF; rw [e2]; rfl
def togF (V : Vw) (n : Nat) : List (BitVec 64) := orM n [((n : Int), poF V n), ((n : Int), rfF V n), ((n : Int), coF V n), ((n : Int), frF V n)]
noncomputable def fltM (V : Vw) (n : Nat) (k : Int) : Ft :=
  if k = 2 then updF V n else if k = 3 then circF (porfF V n) else if k = 4 then circF (hbF V n) else if k = 5 then cohF (hbF V n) (ecoF V n) else if k = 6 then circF (plusM n (togF V n)) else ft0
structure Bk where
  rule : Int
  a : Int
  b : Int
  br : Bool
end Go.AL.Rl

namespace Go.AL.Rl
open Go Go.AL Go.Proofs
set_option maxRecDepth 100000
set_option maxHeartbeats 1600000
variable {γ : Nat → Option AV}

abbrev aFc (g : Gr) (n : Int) (po rf co fr eco porf loc sw hb : List (BitVec 64)) : AV :=
  .agg [.vs 1 fun _ => is g.init, .vs 1 fun _ => evss g.th, .vs 1 fun _ => idss g.fr, .vs 1 fun _ => idss g.ord, .i fun _ => n, .vs 1 fun _ => us po, .i fun _ => n, .vs 1 fun _ => us rf, .i fun _ => n, .vs 1 fun _ => us co, .i fun _ => n, .vs 1 fun _ => us fr, .i fun _ => n, .vs 1 fun _ => us eco, .i fun _ => n, .vs 1 fun _ => us porf, .i fun _ => n, .vs 1 fun _ => us loc, .i fun _ => n, .vs 1 fun _ => us sw, .i fun _ => n, .vs 1 fun _ => us hb]
theorem known_ok (m : Int) : Pure Tryd.prog γ false 14 [.i fun _ => m] (.b fun _ => decide (m = 1 ∨ m = 2)) := by
  refine Pure.go (ty := ty) ty_eq mo Tryd.func14 rfl Tryd.ntmps14 Tryd.results14 Tryd.call14 (by simp) fun P C CQ D W F E hF => ?_
  cbv
  repeat' (first
    | (refine ⟨fun _ h_s => ?_, fun _ h_s => ?_⟩ <;> (cbv; (try simp only [nc] at *); try simp (disch := (first | omega | (simp only [lnS, List.length_append, List.length_map, List.length_range, List.length_replicate]; omega))) only [nc, nct, w64_of, Int.toNat_natCast, Int.toNat_zero, List.length_map, rdS, at_agg, bofZ, bof1, bof0, List.getD_cons_zero, List.getD_cons_succ, reduceCtorEq, Bool.not_true, Bool.not_false, decide_eq_true_eq, decide_eq_false_iff_not, Bool.not_eq_true, Bool.not_eq_false, Bool.not_eq_true', Bool.not_eq_false', ne_eq, Decidable.not_not, Int.not_le, Int.not_lt, beq_iff_eq] at h_s))
    | (refine hF ?_; intro _; clear hF)
    | (refine hF ?_; cbv; clear hF)
    | (refine ⟨fun _ => ?_, ?_⟩; (· ((try simp only [nc] at *); first | done | omega | exact ⟨by omega, rfl⟩ | (simp (disch := (first | omega | (simp only [lnS, List.length_append, List.length_map, List.length_range, List.length_replicate]; omega))) only [nc, nct, w64_of, Int.toNat_natCast, Int.toNat_zero, List.length_map, rdS, at_agg, bofZ, bof1, bof0, List.getD_cons_zero, List.getD_cons_succ]; first | done | omega | rfl | exact ⟨by omega, rfl⟩ | (simp; done) | (simp; omega)) | (intros; trivial))); (try (simp only [nc] at *)); (try simp (disch := (first | omega | (simp only [lnS, List.length_append, List.length_map, List.length_range, List.length_replicate]; omega))) only [nc, nct, w64_of, Int.toNat_natCast, Int.toNat_zero, List.length_map, rdS, at_agg, bofZ, bof1, bof0, List.getD_cons_zero, List.getD_cons_succ]); (try cbv))
    | fail
  )
  all_goals simp_all
theorem rules_yes1 : Pure Tryd.prog γ false 12 [.i fun _ => 1] (.vs 1 fun _ => is [1, 2, 6]) := by
  refine Pure.go (ty := ty) ty_eq mo Tryd.func12 rfl Tryd.ntmps12 Tryd.results12 Tryd.call12 (by simp) fun P C CQ D W F E hF => ?_
  cbv
  repeat' (first
    | (refine ⟨fun _ h_s => ?_, fun _ h_s => ?_⟩ <;> (cbv; (try simp only [nc] at *); try simp (disch := (first | omega | (simp only [lnS, List.length_append, List.length_map, List.length_range, List.length_replicate]; omega))) only [nc, nct, w64_of, Int.toNat_natCast, Int.toNat_zero, List.length_map, rdS, at_agg, bofZ, bof1, bof0, List.getD_cons_zero, List.getD_cons_succ, reduceCtorEq, Bool.not_true, Bool.not_false, decide_eq_true_eq, decide_eq_false_iff_not, Bool.not_eq_true, Bool.not_eq_false, Bool.not_eq_true', Bool.not_eq_false', ne_eq, Decidable.not_not, Int.not_le, Int.not_lt, beq_iff_eq] at h_s))
    | (refine hF ?_; intro _; clear hF)
    | (refine hF ?_; cbv; clear hF)
    | (refine ⟨fun _ => ?_, ?_⟩; (· ((try simp only [nc] at *); first | done | omega | exact ⟨by omega, rfl⟩ | (simp (disch := (first | omega | (simp only [lnS, List.length_append, List.length_map, List.length_range, List.length_replicate]; omega))) only [nc, nct, w64_of, Int.toNat_natCast, Int.toNat_zero, List.length_map, rdS, at_agg, bofZ, bof1, bof0, List.getD_cons_zero, List.getD_cons_succ]; first | done | omega | rfl | exact ⟨by omega, rfl⟩ | (simp; done) | (simp; omega)) | (intros; trivial))); (try (simp only [nc] at *)); (try simp (disch := (first | omega | (simp only [lnS, List.length_append, List.length_map, List.length_range, List.length_replicate]; omega))) only [nc, nct, w64_of, Int.toNat_natCast, Int.toNat_zero, List.length_map, rdS, at_agg, bofZ, bof1, bof0, List.getD_cons_zero, List.getD_cons_succ]); (try cbv))
    | fail
  )
  all_goals simp_all [is, setAll, LV.of, AV.nrm]
theorem rules_yes2 : Pure Tryd.prog γ false 12 [.i fun _ => 2] (.vs 1 fun _ => is [1, 2, 3, 4, 5]) := by
  refine Pure.go (ty := ty) ty_eq mo Tryd.func12 rfl Tryd.ntmps12 Tryd.results12 Tryd.call12 (by simp) fun P C CQ D W F E hF => ?_
  cbv
  repeat' (first
    | (refine ⟨fun _ h_s => ?_, fun _ h_s => ?_⟩ <;> (cbv; (try simp only [nc] at *); try simp (disch := (first | omega | (simp only [lnS, List.length_append, List.length_map, List.length_range, List.length_replicate]; omega))) only [nc, nct, w64_of, Int.toNat_natCast, Int.toNat_zero, List.length_map, rdS, at_agg, bofZ, bof1, bof0, List.getD_cons_zero, List.getD_cons_succ, reduceCtorEq, Bool.not_true, Bool.not_false, decide_eq_true_eq, decide_eq_false_iff_not, Bool.not_eq_true, Bool.not_eq_false, Bool.not_eq_true', Bool.not_eq_false', ne_eq, Decidable.not_not, Int.not_le, Int.not_lt, beq_iff_eq] at h_s))
    | (refine hF ?_; intro _; clear hF)
    | (refine hF ?_; cbv; clear hF)
    | (refine ⟨fun _ => ?_, ?_⟩; (· ((try simp only [nc] at *); first | done | omega | exact ⟨by omega, rfl⟩ | (simp (disch := (first | omega | (simp only [lnS, List.length_append, List.length_map, List.length_range, List.length_replicate]; omega))) only [nc, nct, w64_of, Int.toNat_natCast, Int.toNat_zero, List.length_map, rdS, at_agg, bofZ, bof1, bof0, List.getD_cons_zero, List.getD_cons_succ]; first | done | omega | rfl | exact ⟨by omega, rfl⟩ | (simp; done) | (simp; omega)) | (intros; trivial))); (try (simp only [nc] at *)); (try simp (disch := (first | omega | (simp only [lnS, List.length_append, List.length_map, List.length_range, List.length_replicate]; omega))) only [nc, nct, w64_of, Int.toNat_natCast, Int.toNat_zero, List.length_map, rdS, at_agg, bofZ, bof1, bof0, List.getD_cons_zero, List.getD_cons_succ]); (try cbv))
    | fail
  )
  all_goals simp_all [is, setAll, LV.of, AV.nrm]
theorem rules_no (m : Int) (h1 : m ≠ 1) (h2 : m ≠ 2) : Pure Tryd.prog γ false 12 [.i fun _ => m] (.vs 1 fun _ => is []) := by
  refine Pure.go (ty := ty) ty_eq mo Tryd.func12 rfl Tryd.ntmps12 Tryd.results12 Tryd.call12 (by simp) fun P C CQ D W F E hF => ?_
  cbv
  repeat' (first
    | (refine ⟨fun _ h_s => ?_, fun _ h_s => ?_⟩ <;> (cbv; (try simp only [nc] at *); try simp (disch := (first | omega | (simp only [lnS, List.length_append, List.length_map, List.length_range, List.length_replicate]; omega))) only [nc, nct, w64_of, Int.toNat_natCast, Int.toNat_zero, List.length_map, rdS, at_agg, bofZ, bof1, bof0, List.getD_cons_zero, List.getD_cons_succ, reduceCtorEq, Bool.not_true, Bool.not_false, decide_eq_true_eq, decide_eq_false_iff_not, Bool.not_eq_true, Bool.not_eq_false, Bool.not_eq_true', Bool.not_eq_false', ne_eq, Decidable.not_not, Int.not_le, Int.not_lt, beq_iff_eq] at h_s))
    | (refine hF ?_; intro _; clear hF)
    | (refine hF ?_; cbv; clear hF)
    | (refine ⟨fun _ => ?_, ?_⟩; (· ((try simp only [nc] at *); first | done | omega | exact ⟨by omega, rfl⟩ | (simp (disch := (first | omega | (simp only [lnS, List.length_append, List.length_map, List.length_range, List.length_replicate]; omega))) only [nc, nct, w64_of, Int.toNat_natCast, Int.toNat_zero, List.length_map, rdS, at_agg, bofZ, bof1, bof0, List.getD_cons_zero, List.getD_cons_succ]; first | done | omega | rfl | exact ⟨by omega, rfl⟩ | (simp; done) | (simp; omega)) | (intros; trivial))); (try (simp only [nc] at *)); (try simp (disch := (first | omega | (simp only [lnS, List.length_append, List.length_map, List.length_range, List.length_replicate]; omega))) only [nc, nct, w64_of, Int.toNat_natCast, Int.toNat_zero, List.length_map, rdS, at_agg, bofZ, bof1, bof0, List.getD_cons_zero, List.getD_cons_succ]); (try cbv))
    | fail
  )
  all_goals simp_all [is, LV.of, LV.l]
def gB : Gr := ⟨[0, 0], [[⟨2, 0, 5, 0, 1⟩, ⟨1, 1, 5, 0, 0⟩], [⟨2, 1, 5, 0, 1⟩, ⟨1, 0, 5, 0, 0⟩]], [[⟨0, 0⟩, ⟨0, 1⟩], [⟨0, 0⟩, ⟨0, 0⟩]], [[⟨1, 0⟩], [⟨2, 0⟩]]⟩
theorem ar_ok (k l w : Int) : Pure Tryd.prog γ false 15 [.i fun _ => k, .i fun _ => l, .i fun _ => w] (aEv ⟨k, l, 5, 0, w⟩) := by
  refine Pure.go (ty := ty) ty_eq mo Tryd.func15 rfl Tryd.ntmps15 Tryd.results15 Tryd.call15 (by simp) fun P C CQ D W F E hF => ?_
  cbv
  repeat' (first
    | (refine ⟨fun _ h_s => ?_, fun _ h_s => ?_⟩ <;> (cbv; (try simp only [nc] at *); try simp (disch := (first | omega | (simp only [lnS, List.length_append, List.length_map, List.length_range, List.length_replicate]; omega))) only [nc, nct, w64_of, Int.toNat_natCast, Int.toNat_zero, List.length_map, rdS, at_agg, bofZ, bof1, bof0, List.getD_cons_zero, List.getD_cons_succ, reduceCtorEq, Bool.not_true, Bool.not_false, decide_eq_true_eq, decide_eq_false_iff_not, Bool.not_eq_true, Bool.not_eq_false, Bool.not_eq_true', Bool.not_eq_false', ne_eq, Decidable.not_not, Int.not_le, Int.not_lt, beq_iff_eq] at h_s))
    | (refine hF ?_; intro _; clear hF)
    | (refine hF ?_; cbv; clear hF)
    | (refine ⟨fun _ => ?_, ?_⟩; (· ((try simp only [nc] at *); first | done | omega | exact ⟨by omega, rfl⟩ | (simp (disch := (first | omega | (simp only [lnS, List.length_append, List.length_map, List.length_range, List.length_replicate]; omega))) only [nc, nct, w64_of, Int.toNat_natCast, Int.toNat_zero, List.length_map, rdS, at_agg, bofZ, bof1, bof0, List.getD_cons_zero, List.getD_cons_succ]; first | done | omega | rfl | exact ⟨by omega, rfl⟩ | (simp; done) | (simp; omega)) | (intros; trivial))); (try (simp only [nc] at *)); (try simp (disch := (first | omega | (simp only [lnS, List.length_append, List.length_map, List.length_range, List.length_replicate]; omega))) only [nc, nct, w64_of, Int.toNat_natCast, Int.toNat_zero, List.length_map, rdS, at_agg, bofZ, bof1, bof0, List.getD_cons_zero, List.getD_cons_succ]); (try cbv))
    | fail
  )
  all_goals (try simp only [nc] at *)
  all_goals (try simp (disch := (first | omega | (simp only [lnS, List.length_append, List.length_map, List.length_range, List.length_replicate]; omega))) only [nc, nct, w64_of, Int.toNat_natCast, Int.toNat_zero, List.length_map, rdS, at_agg, bofZ, bof1, bof0, List.getD_cons_zero, List.getD_cons_succ])
theorem buffers_ok : Pure Tryd.prog γ false 5 [] (aGr gB) := by
  refine Pure.go (ty := ty) ty_eq mo Tryd.func5 rfl Tryd.ntmps5 Tryd.results5 Tryd.call5 (by simp) fun P C CQ D W F E hF => ?_
  cbv
  repeat' (first
    | (refine E.c (SCalls.of_le (ar_ok 1 0 0) ?_ ?_); (· (cbv; (try simp only [nc] at *); first | done | (simp; done) | (simp (disch := (first | omega | (simp only [lnS, List.length_append, List.length_map, List.length_range, List.length_replicate]; omega))) only [nc, nct, w64_of, Int.toNat_natCast, Int.toNat_zero, List.length_map, rdS, at_agg, bofZ, bof1, bof0, List.getD_cons_zero, List.getD_cons_succ, implies_true, and_true, true_and, forall_const]; first | done | omega | (refine ⟨?_, ?_⟩ <;> omega)) | (simp (disch := (first | omega | (simp only [lnS, List.length_append, List.length_map, List.length_range, List.length_replicate]; omega))) [nc, nct, w64_of, Int.toNat_natCast, Int.toNat_zero, List.length_map, rdS, at_agg, bofZ, bof1, bof0, List.getD_cons_zero, List.getD_cons_succ]; done))); cbv)
    | (refine E.c (SCalls.of_le (ar_ok 2 1 1) ?_ ?_); (· (cbv; (try simp only [nc] at *); first | done | (simp; done) | (simp (disch := (first | omega | (simp only [lnS, List.length_append, List.length_map, List.length_range, List.length_replicate]; omega))) only [nc, nct, w64_of, Int.toNat_natCast, Int.toNat_zero, List.length_map, rdS, at_agg, bofZ, bof1, bof0, List.getD_cons_zero, List.getD_cons_succ, implies_true, and_true, true_and, forall_const]; first | done | omega | (refine ⟨?_, ?_⟩ <;> omega)) | (simp (disch := (first | omega | (simp only [lnS, List.length_append, List.length_map, List.length_range, List.length_replicate]; omega))) [nc, nct, w64_of, Int.toNat_natCast, Int.toNat_zero, List.length_map, rdS, at_agg, bofZ, bof1, bof0, List.getD_cons_zero, List.getD_cons_succ]; done))); cbv)
    | (refine E.c (SCalls.of_le (ar_ok 1 1 0) ?_ ?_); (· (cbv; (try simp only [nc] at *); first | done | (simp; done) | (simp (disch := (first | omega | (simp only [lnS, List.length_append, List.length_map, List.length_range, List.length_replicate]; omega))) only [nc, nct, w64_of, Int.toNat_natCast, Int.toNat_zero, List.length_map, rdS, at_agg, bofZ, bof1, bof0, List.getD_cons_zero, List.getD_cons_succ, implies_true, and_true, true_and, forall_const]; first | done | omega | (refine ⟨?_, ?_⟩ <;> omega)) | (simp (disch := (first | omega | (simp only [lnS, List.length_append, List.length_map, List.length_range, List.length_replicate]; omega))) [nc, nct, w64_of, Int.toNat_natCast, Int.toNat_zero, List.length_map, rdS, at_agg, bofZ, bof1, bof0, List.getD_cons_zero, List.getD_cons_succ]; done))); cbv)
    | (refine E.c (SCalls.of_le (ar_ok 2 0 1) ?_ ?_); (· (cbv; (try simp only [nc] at *); first | done | (simp; done) | (simp (disch := (first | omega | (simp only [lnS, List.length_append, List.length_map, List.length_range, List.length_replicate]; omega))) only [nc, nct, w64_of, Int.toNat_natCast, Int.toNat_zero, List.length_map, rdS, at_agg, bofZ, bof1, bof0, List.getD_cons_zero, List.getD_cons_succ, implies_true, and_true, true_and, forall_const]; first | done | omega | (refine ⟨?_, ?_⟩ <;> omega)) | (simp (disch := (first | omega | (simp only [lnS, List.length_append, List.length_map, List.length_range, List.length_replicate]; omega))) [nc, nct, w64_of, Int.toNat_natCast, Int.toNat_zero, List.length_map, rdS, at_agg, bofZ, bof1, bof0, List.getD_cons_zero, List.getD_cons_succ]; done))); cbv)
    | (refine ⟨fun _ h_s => ?_, fun _ h_s => ?_⟩ <;> (cbv; (try simp only [nc] at *); try simp (disch := (first | omega | (simp only [lnS, List.length_append, List.length_map, List.length_range, List.length_replicate]; omega))) only [nc, nct, w64_of, Int.toNat_natCast, Int.toNat_zero, List.length_map, rdS, at_agg, bofZ, bof1, bof0, List.getD_cons_zero, List.getD_cons_succ, reduceCtorEq, Bool.not_true, Bool.not_false, decide_eq_true_eq, decide_eq_false_iff_not, Bool.not_eq_true, Bool.not_eq_false, Bool.not_eq_true', Bool.not_eq_false', ne_eq, Decidable.not_not, Int.not_le, Int.not_lt, beq_iff_eq] at h_s))
    | (refine hF ?_; intro _; clear hF)
    | (refine hF ?_; cbv; clear hF)
    | (refine ⟨fun _ => ?_, ?_⟩; (· ((try simp only [nc] at *); first | done | omega | exact ⟨by omega, rfl⟩ | (simp (disch := (first | omega | (simp only [lnS, List.length_append, List.length_map, List.length_range, List.length_replicate]; omega))) only [nc, nct, w64_of, Int.toNat_natCast, Int.toNat_zero, List.length_map, rdS, at_agg, bofZ, bof1, bof0, List.getD_cons_zero, List.getD_cons_succ]; first | done | omega | rfl | exact ⟨by omega, rfl⟩ | (simp; done) | (simp; omega)) | (intros; trivial))); (try (simp only [nc] at *)); (try simp (disch := (first | omega | (simp only [lnS, List.length_append, List.length_map, List.length_range, List.length_replicate]; omega))) only [nc, nct, w64_of, Int.toNat_natCast, Int.toNat_zero, List.length_map, rdS, at_agg, bofZ, bof1, bof0, List.getD_cons_zero, List.getD_cons_succ]); (try cbv))
    | fail
  )
theorem circle_ok (n : Int) (rows : List (BitVec 64)) (hl : rows.length ≤ 64) : Pure Tryd.prog γ false 30 [encRel n rows] (aFt (circF rows)) := by
  refine Pure.go (ty := ty) ty_eq mo Tryd.func30 rfl Tryd.ntmps30 Tryd.results30 Tryd.call30 (by simp) fun P C CQ D W F E hF => ?_
  cbv
  repeat' (first
    | (refine ⟨fun _ h_s => ?_, fun _ h_s => ?_⟩ <;> (cbv; (try simp only [nc] at *); try simp (disch := (first | omega | (simp only [lnS, List.length_append, List.length_map, List.length_range, List.length_replicate]; omega))) only [nc, nct, w64_of, Int.toNat_natCast, Int.toNat_zero, List.length_map, rdS, at_agg, bofZ, bof1, bof0, List.getD_cons_zero, List.getD_cons_succ, reduceCtorEq, Bool.not_true, Bool.not_false, decide_eq_true_eq, decide_eq_false_iff_not, Bool.not_eq_true, Bool.not_eq_false, Bool.not_eq_true', Bool.not_eq_false', ne_eq, Decidable.not_not, Int.not_le, Int.not_lt, beq_iff_eq] at h_s))
    | (refine hF ?_; intro _; clear hF)
    | (refine hF ?_; cbv; clear hF)
    | (refine ⟨fun _ => ?_, ?_⟩; (· ((try simp only [nc] at *); first | done | omega | exact ⟨by omega, rfl⟩ | (simp (disch := (first | omega | (simp only [lnS, List.length_append, List.length_map, List.length_range, List.length_replicate]; omega))) only [nc, nct, w64_of, Int.toNat_natCast, Int.toNat_zero, List.length_map, rdS, at_agg, bofZ, bof1, bof0, List.getD_cons_zero, List.getD_cons_succ]; first | done | omega | rfl | exact ⟨by omega, rfl⟩ | (simp; done) | (simp; omega)) | (intros; trivial))); (try (simp only [nc] at *)); (try simp (disch := (first | omega | (simp only [lnS, List.length_append, List.length_map, List.length_range, List.length_replicate]; omega))) only [nc, nct, w64_of, Int.toNat_natCast, Int.toNat_zero, List.length_map, rdS, at_agg, bofZ, bof1, bof0, List.getD_cons_zero, List.getD_cons_succ]); (try cbv))
    | fail
  )
  refine E.loopS (ι := Nat) (fun i => i ≤ rows.length ∧ (∀ k < i, bit rows k k = false)) (fun i => rows.length - i) (fun i => [(8, .i fun _ => ((i : Nat) : Int))]) (fun i h => h) 0 (fun _ => by first | rfl | simp) ⟨Nat.zero_le _, ?_⟩ ?_ fun i hi I hI => ?_
  · intro k hk; omega
  · cbv; simp
  cbv
  obtain ⟨hi, hp⟩ := hi
  have hb : bit rows i i = (!decide ((rows.getD i 0 >>> i) &&& 1#64 = 0#64)) := (getLsb_and1 _ _).symm
  have hbi := bofInt (k := i) (by omega)
  repeat' (first
    | (refine hI (i + 1) ?_ ?_ ?_; rotate_left 1; (· ((try simp only [nc] at *); omega)); (cbv; clear hI; (try clear hF); (try simp only [nc] at *); (try simp (disch := (first | omega | (simp only [lnS, List.length_append, List.length_map, List.length_range, List.length_replicate]; omega))) only [nc, nct, w64_of, Int.toNat_natCast, Int.toNat_zero, List.length_map, rdS, at_agg, bofZ, bof1, bof0, List.getD_cons_zero, List.getD_cons_succ, implies_true, and_true, true_and, forall_const])); rotate_left 1; (try ((try simp only [nc] at *); omega)))
    | (refine ⟨fun _ h_s => ?_, fun _ h_s => ?_⟩ <;> (cbv; (try simp only [nc] at *); try simp (disch := (first | omega | (simp only [lnS, List.length_append, List.length_map, List.length_range, List.length_replicate]; omega))) only [nc, nct, w64_of, Int.toNat_natCast, Int.toNat_zero, List.length_map, rdS, at_agg, bofZ, bof1, bof0, List.getD_cons_zero, List.getD_cons_succ, reduceCtorEq, Bool.not_true, Bool.not_false, decide_eq_true_eq, decide_eq_false_iff_not, Bool.not_eq_true, Bool.not_eq_false, Bool.not_eq_true', Bool.not_eq_false', ne_eq, Decidable.not_not, Int.not_le, Int.not_lt, beq_iff_eq] at h_s))
    | (refine hF ?_; intro _; clear hF)
    | (refine hF ?_; cbv; clear hF)
    | (refine ⟨fun _ => ?_, ?_⟩; (· ((try simp only [nc] at *); first | done | omega | exact ⟨by omega, rfl⟩ | (simp (disch := (first | omega | (simp only [lnS, List.length_append, List.length_map, List.length_range, List.length_replicate]; omega))) only [nc, nct, w64_of, Int.toNat_natCast, Int.toNat_zero, List.length_map, rdS, at_agg, bofZ, bof1, bof0, List.getD_cons_zero, List.getD_cons_succ]; first | done | omega | rfl | exact ⟨by omega, rfl⟩ | (simp; done) | (simp; omega)) | (intros; trivial))); (try (simp only [nc] at *)); (try simp (disch := (first | omega | (simp only [lnS, List.length_append, List.length_map, List.length_range, List.length_replicate]; omega))) only [nc, nct, w64_of, Int.toNat_natCast, Int.toNat_zero, List.length_map, rdS, at_agg, bofZ, bof1, bof0, List.getD_cons_zero, List.getD_cons_succ]); (try cbv))
    | fail
  )
  · have hbt : bit rows i i = true := by rw [hb]; simpa using h_s
    rw [circF_at (by ((try simp only [nc] at *); omega)) hbt hp]
    exact ⟨fun _ => rfl, fun _ => rfl, fun _ => rfl, trivial⟩
  · refine ⟨by ((try simp only [nc] at *); omega), fun k hk => ?_⟩
    rcases Nat.lt_or_ge k i with h1 | h1
    · exact hp k h1
    · obtain rfl : k = i := by omega
      rw [hb]; simpa using h_s
  · push_cast; rfl
  · have e : i = rows.length := by ((try simp only [nc] at *); omega)
    subst e
    rw [circF_no hp]
    exact ⟨fun _ => rfl, fun _ => rfl, fun _ => rfl, trivial⟩
theorem index_at (l : List EId) (d : EId) (hl : (l.length : Int) ≤ 9223372036854775807) (k0 : Nat) (hk0 : k0 < l.length) (hd : l.getD k0 id0 = d) (hb : ∀ k < k0, l.getD k id0 ≠ d) : Pure Tryd.prog γ false 74 [.vs 2 fun _ => ids l, aId d] (.i fun _ => (k0 : Int)) := by
  refine Pure.go (ty := ty) ty_eq mo Tryd.func74 rfl Tryd.ntmps74 Tryd.results74 Tryd.call74 (by simp) fun P C CQ D W F E hF => ?_
  cbv
  repeat' (first
    | (refine ⟨fun _ h_s => ?_, fun _ h_s => ?_⟩ <;> (cbv; (try simp only [nc] at *); try simp (disch := (first | omega | (simp only [lnS, List.length_append, List.length_map, List.length_range, List.length_replicate]; omega))) only [nc, nct, w64_of, Int.toNat_natCast, Int.toNat_zero, List.length_map, rdS, at_agg, bofZ, bof1, bof0, List.getD_cons_zero, List.getD_cons_succ, reduceCtorEq, Bool.not_true, Bool.not_false, decide_eq_true_eq, decide_eq_false_iff_not, Bool.not_eq_true, Bool.not_eq_false, Bool.not_eq_true', Bool.not_eq_false', ne_eq, Decidable.not_not, Int.not_le, Int.not_lt, beq_iff_eq] at h_s))
    | (refine hF ?_; intro _; clear hF)
    | (refine hF ?_; cbv; clear hF)
    | (refine ⟨fun _ => ?_, ?_⟩; (· ((try simp only [nc] at *); first | done | omega | exact ⟨by omega, rfl⟩ | (simp (disch := (first | omega | (simp only [lnS, List.length_append, List.length_map, List.length_range, List.length_replicate]; omega))) only [nc, nct, w64_of, Int.toNat_natCast, Int.toNat_zero, List.length_map, rdS, at_agg, bofZ, bof1, bof0, List.getD_cons_zero, List.getD_cons_succ]; first | done | omega | rfl | exact ⟨by omega, rfl⟩ | (simp; done) | (simp; omega)) | (intros; trivial))); (try (simp only [nc] at *)); (try simp (disch := (first | omega | (simp only [lnS, List.length_append, List.length_map, List.length_range, List.length_replicate]; omega))) only [nc, nct, w64_of, Int.toNat_natCast, Int.toNat_zero, List.length_map, rdS, at_agg, bofZ, bof1, bof0, List.getD_cons_zero, List.getD_cons_succ]); (try cbv))
    | (refine E.d 5 (by decide +kernel) ?_; cbv; (fail_if_success guard_target =~ False))
    | fail
  )
  refine E.loopS (ι := Nat) (fun i => i ≤ l.length ∧ (i ≤ k0)) (fun i => l.length - i) (fun i => [(8, .i fun _ => ((i : Nat) : Int))]) (fun i h => h) 0 (fun _ => by first | rfl | simp) ⟨Nat.zero_le _, ?_⟩ ?_ fun i hi I hI => ?_
  · omega
  · cbv; simp
  cbv
  obtain ⟨hi, hp⟩ := hi
  repeat' (first
    | (refine hI (i + 1) ?_ ?_ ?_; rotate_left 1; (· ((try simp only [nc] at *); omega)); (cbv; clear hI; (try clear hF); (try simp only [nc] at *); (try simp (disch := (first | omega | (simp only [lnS, List.length_append, List.length_map, List.length_range, List.length_replicate]; omega))) only [nc, nct, w64_of, Int.toNat_natCast, Int.toNat_zero, List.length_map, rdS, at_agg, bofZ, bof1, bof0, List.getD_cons_zero, List.getD_cons_succ, implies_true, and_true, true_and, forall_const])); rotate_left 1; (try ((try simp only [nc] at *); omega)))
    | (refine ⟨fun _ h_s => ?_, fun _ h_s => ?_⟩ <;> (cbv; (try simp only [nc] at *); try simp (disch := (first | omega | (simp only [lnS, List.length_append, List.length_map, List.length_range, List.length_replicate]; omega))) only [nc, nct, w64_of, Int.toNat_natCast, Int.toNat_zero, List.length_map, rdS, at_agg, bofZ, bof1, bof0, List.getD_cons_zero, List.getD_cons_succ, reduceCtorEq, Bool.not_true, Bool.not_false, decide_eq_true_eq, decide_eq_false_iff_not, Bool.not_eq_true, Bool.not_eq_false, Bool.not_eq_true', Bool.not_eq_false', ne_eq, Decidable.not_not, Int.not_le, Int.not_lt, beq_iff_eq] at h_s))
    | (refine hF ?_; intro _; clear hF)
    | (refine hF ?_; cbv; clear hF)
    | (refine ⟨fun _ => ?_, ?_⟩; (· ((try simp only [nc] at *); first | done | omega | exact ⟨by omega, rfl⟩ | (simp (disch := (first | omega | (simp only [lnS, List.length_append, List.length_map, List.length_range, List.length_replicate]; omega))) only [nc, nct, w64_of, Int.toNat_natCast, Int.toNat_zero, List.length_map, rdS, at_agg, bofZ, bof1, bof0, List.getD_cons_zero, List.getD_cons_succ]; first | done | omega | rfl | exact ⟨by omega, rfl⟩ | (simp; done) | (simp; omega)) | (intros; trivial))); (try (simp only [nc] at *)); (try simp (disch := (first | omega | (simp only [lnS, List.length_append, List.length_map, List.length_range, List.length_replicate]; omega))) only [nc, nct, w64_of, Int.toNat_natCast, Int.toNat_zero, List.length_map, rdS, at_agg, bofZ, bof1, bof0, List.getD_cons_zero, List.getD_cons_succ]); (try cbv))
    | (refine E.d 5 (by decide +kernel) ?_; cbv; (fail_if_success guard_target =~ False))
    | fail
  )
  · simp only [Bool.and_true, Bool.and_eq_true, decide_eq_true_eq] at h_s
    have he : l.getD i id0 = d := (EId.ext' h_s.1 h_s.2).symm
    have e : i = k0 := by
      rcases Nat.lt_or_ge i k0 with h1 | h1
      · exact absurd he (hb i h1)
      · omega
    subst e; rfl
  · refine ⟨by ((try simp only [nc] at *); omega), ?_⟩
    rcases Nat.lt_or_ge i k0 with h1 | h1
    · omega
    · exfalso
      obtain rfl : i = k0 := by omega
      rw [hd] at h_s
      simp at h_s
  · push_cast; rfl
  · exfalso; ((try simp only [nc] at *); omega)
theorem kids_ok (a b : List EId) (ha : (a.length : Int) ≤ 9223372036854775807) : Pure Tryd.prog γ false 10 [.vs 2 fun _ => ids a, .vs 2 fun _ => ids b] (.b fun _ => decide (a = b)) := by
  refine Pure.go (ty := ty) ty_eq mo Tryd.func10 rfl Tryd.ntmps10 Tryd.results10 Tryd.call10 (by simp) fun P C CQ D W F E hF => ?_
  cbv
  repeat' (first
    | (refine ⟨fun _ h_s => ?_, fun _ h_s => ?_⟩ <;> (cbv; (try simp only [nc] at *); try simp (disch := (first | omega | (simp only [lnS, List.length_append, List.length_map, List.length_range, List.length_replicate]; omega))) only [nc, nct, w64_of, Int.toNat_natCast, Int.toNat_zero, List.length_map, rdS, at_agg, bofZ, bof1, bof0, List.getD_cons_zero, List.getD_cons_succ, reduceCtorEq, Bool.not_true, Bool.not_false, decide_eq_true_eq, decide_eq_false_iff_not, Bool.not_eq_true, Bool.not_eq_false, Bool.not_eq_true', Bool.not_eq_false', ne_eq, Decidable.not_not, Int.not_le, Int.not_lt, beq_iff_eq] at h_s))
    | (refine hF ?_; intro _; clear hF)
    | (refine hF ?_; cbv; clear hF)
    | (refine ⟨fun _ => ?_, ?_⟩; (· ((try simp only [nc] at *); first | done | omega | exact ⟨by omega, rfl⟩ | (simp (disch := (first | omega | (simp only [lnS, List.length_append, List.length_map, List.length_range, List.length_replicate]; omega))) only [nc, nct, w64_of, Int.toNat_natCast, Int.toNat_zero, List.length_map, rdS, at_agg, bofZ, bof1, bof0, List.getD_cons_zero, List.getD_cons_succ]; first | done | omega | rfl | exact ⟨by omega, rfl⟩ | (simp; done) | (simp; omega)) | (intros; trivial))); (try (simp only [nc] at *)); (try simp (disch := (first | omega | (simp only [lnS, List.length_append, List.length_map, List.length_range, List.length_replicate]; omega))) only [nc, nct, w64_of, Int.toNat_natCast, Int.toNat_zero, List.length_map, rdS, at_agg, bofZ, bof1, bof0, List.getD_cons_zero, List.getD_cons_succ]); (try cbv))
    | (refine E.d 8 (by decide +kernel) ?_; cbv; (fail_if_success guard_target =~ False))
    | fail
  )
  · simp
    intro e; subst e; simp_all
  · refine E.loopS (ι := Nat) (fun i => i ≤ a.length ∧ (∀ k < i, a.getD k id0 = b.getD k id0)) (fun i => a.length - i) (fun i => [(5, .i fun _ => ((i : Nat) : Int))]) (fun i h => h) 0 (fun _ => by first | rfl | simp) ⟨Nat.zero_le _, ?_⟩ ?_ fun i hi I hI => ?_
    · intro k hk; omega
    · cbv; simp
    cbv
    obtain ⟨hi, hp⟩ := hi
    repeat' (first
      | (refine hI (i + 1) ?_ ?_ ?_; rotate_left 1; (· ((try simp only [nc] at *); omega)); (cbv; clear hI; (try clear hF); (try simp only [nc] at *); (try simp (disch := (first | omega | (simp only [lnS, List.length_append, List.length_map, List.length_range, List.length_replicate]; omega))) only [nc, nct, w64_of, Int.toNat_natCast, Int.toNat_zero, List.length_map, rdS, at_agg, bofZ, bof1, bof0, List.getD_cons_zero, List.getD_cons_succ, implies_true, and_true, true_and, forall_const])); rotate_left 1; (try ((try simp only [nc] at *); omega)))
      | (refine ⟨fun _ h_s => ?_, fun _ h_s => ?_⟩ <;> (cbv; (try simp only [nc] at *); try simp (disch := (first | omega | (simp only [lnS, List.length_append, List.length_map, List.length_range, List.length_replicate]; omega))) only [nc, nct, w64_of, Int.toNat_natCast, Int.toNat_zero, List.length_map, rdS, at_agg, bofZ, bof1, bof0, List.getD_cons_zero, List.getD_cons_succ, reduceCtorEq, Bool.not_true, Bool.not_false, decide_eq_true_eq, decide_eq_false_iff_not, Bool.not_eq_true, Bool.not_eq_false, Bool.not_eq_true', Bool.not_eq_false', ne_eq, Decidable.not_not, Int.not_le, Int.not_lt, beq_iff_eq] at h_s))
      | (refine hF ?_; intro _; clear hF)
      | (refine hF ?_; cbv; clear hF)
      | (refine ⟨fun _ => ?_, ?_⟩; (· ((try simp only [nc] at *); first | done | omega | exact ⟨by omega, rfl⟩ | (simp (disch := (first | omega | (simp only [lnS, List.length_append, List.length_map, List.length_range, List.length_replicate]; omega))) only [nc, nct, w64_of, Int.toNat_natCast, Int.toNat_zero, List.length_map, rdS, at_agg, bofZ, bof1, bof0, List.getD_cons_zero, List.getD_cons_succ]; first | done | omega | rfl | exact ⟨by omega, rfl⟩ | (simp; done) | (simp; omega)) | (intros; trivial))); (try (simp only [nc] at *)); (try simp (disch := (first | omega | (simp only [lnS, List.length_append, List.length_map, List.length_range, List.length_replicate]; omega))) only [nc, nct, w64_of, Int.toNat_natCast, Int.toNat_zero, List.length_map, rdS, at_agg, bofZ, bof1, bof0, List.getD_cons_zero, List.getD_cons_succ]); (try cbv))
      | (refine E.d 8 (by decide +kernel) ?_; cbv; (fail_if_success guard_target =~ False))
      | fail
    )
    · refine decide_eq_false fun e => ?_
      subst e
      simp at h_s
    · refine ⟨by ((try simp only [nc] at *); omega), fun k hk => ?_⟩
      rcases Nat.lt_or_ge k i with h1 | h1
      · exact hp k h1
      · obtain rfl : k = i := by omega
        have h2 : (a.getD k id0).t = (b.getD k id0).t ∧ (a.getD k id0).i = (b.getD k id0).i := by simpa using h_s
        exact EId.ext' h2.1 h2.2
    · push_cast; rfl
    · refine decide_eq_true (List.ext_getElem (by ((try simp only [nc] at *); omega)) fun k h1 h2 => ?_)
      have := hp k (by ((try simp only [nc] at *); omega))
      simpa [h1, h2] using this
end Go.AL.Rl

namespace Go.AL.Rl
open Go Go.AL Go.Proofs
set_option maxRecDepth 100000
set_option maxHeartbeats 3200000
variable {γ : Nat → Option AV}

theorem place_at (g : Gr) (hg : Rd g) (loc : Int) (d : EId) (p : Int)
    (hp : (d.t = 0 ∧ p = 0) ∨ (d.t ≠ 0 ∧ 0 ≤ loc ∧ loc < g.ord.length ∧ ∃ k0 : Nat, p = k0 + 1 ∧ k0 < (g.ord.getD loc.toNat []).length ∧ (g.ord.getD loc.toNat []).getD k0 id0 = d ∧ ∀ k < k0, (g.ord.getD loc.toNat []).getD k id0 ≠ d)) :
    Pure Tryd.prog γ false 52 [aGr g, .i fun _ => loc, aId d] (.i fun _ => p) := by
  have hor := hg.ord
  have hord := ordsAt hg loc.toNat
  rcases hp with ⟨h0, hp⟩ | ⟨h0, h1, h2, k0, h3, h4, h5, h6⟩
  · subst hp
    refine Pure.go (ty := ty) ty_eq mo Tryd.func52 rfl Tryd.ntmps52 Tryd.results52 Tryd.call52 (by simp) fun P C CQ D W F E hF => ?_
    cbv
    repeat' (first
      | (refine ⟨fun _ h_s => ?_, fun _ h_s => ?_⟩ <;> (cbv; (try simp only [nc] at *); try simp (disch := (first | omega | (simp only [lnS, List.length_append, List.length_map, List.length_range, List.length_replicate]; omega))) only [nc, nct, w64_of, Int.toNat_natCast, Int.toNat_zero, List.length_map, rdS, at_agg, bofZ, bof1, bof0, List.getD_cons_zero, List.getD_cons_succ, reduceCtorEq, Bool.not_true, Bool.not_false, decide_eq_true_eq, decide_eq_false_iff_not, Bool.not_eq_true, Bool.not_eq_false, Bool.not_eq_true', Bool.not_eq_false', ne_eq, Decidable.not_not, Int.not_le, Int.not_lt, beq_iff_eq] at h_s))
      | (refine hF ?_; intro _; clear hF)
      | (refine hF ?_; cbv; clear hF)
      | (refine ⟨fun _ => ?_, ?_⟩; (· ((try simp only [nc] at *); first | done | omega | exact ⟨by omega, rfl⟩ | (simp (disch := (first | omega | (simp only [lnS, List.length_append, List.length_map, List.length_range, List.length_replicate]; omega))) only [nc, nct, w64_of, Int.toNat_natCast, Int.toNat_zero, List.length_map, rdS, at_agg, bofZ, bof1, bof0, List.getD_cons_zero, List.getD_cons_succ]; first | done | omega | rfl | exact ⟨by omega, rfl⟩ | (simp; done) | (simp; omega)) | (intros; trivial))); (try (simp only [nc] at *)); (try simp (disch := (first | omega | (simp only [lnS, List.length_append, List.length_map, List.length_range, List.length_replicate]; omega))) only [nc, nct, w64_of, Int.toNat_natCast, Int.toNat_zero, List.length_map, rdS, at_agg, bofZ, bof1, bof0, List.getD_cons_zero, List.getD_cons_succ]); (try cbv))
      | (refine E.d 6 (by decide +kernel) ?_; cbv; (fail_if_success guard_target =~ False))
      | fail
    )
    all_goals simp_all
  · have kx := index_at (γ := γ) (g.ord.getD loc.toNat []) d hord k0 h4 h5 h6
    obtain ⟨l, hl⟩ : ∃ l, l = g.ord.getD loc.toNat [] := ⟨_, rfl⟩
    rw [← hl] at kx h4 hord
    clear h5 h6
    refine Pure.go (ty := ty) ty_eq mo Tryd.func52 rfl Tryd.ntmps52 Tryd.results52 Tryd.call52 (by simp) fun P C CQ D W F E hF => ?_
    cbv
    skip
    repeat' (first
      | (refine E.c (SCalls.of_le (kx) ?_ ?_); (· (cbv; (try simp only [nc] at *); first | done | (simp; done) | (simp (disch := (first | omega | (simp only [lnS, List.length_append, List.length_map, List.length_range, List.length_replicate]; omega))) only [nc, nct, w64_of, Int.toNat_natCast, Int.toNat_zero, List.length_map, rdS, at_agg, bofZ, bof1, bof0, List.getD_cons_zero, List.getD_cons_succ, ← hl, implies_true, and_true, true_and, forall_const]; first | done | omega | (refine ⟨?_, ?_⟩ <;> omega)) | (simp (disch := (first | omega | (simp only [lnS, List.length_append, List.length_map, List.length_range, List.length_replicate]; omega))) [nc, nct, w64_of, Int.toNat_natCast, Int.toNat_zero, List.length_map, rdS, at_agg, bofZ, bof1, bof0, List.getD_cons_zero, List.getD_cons_succ, ← hl]; done))); cbv)
      | (refine E.q (QCalls.of_le (kx) ?_ ?_); (· (cbv; (try simp only [nc] at *); first | done | (simp; done) | (simp (disch := (first | omega | (simp only [lnS, List.length_append, List.length_map, List.length_range, List.length_replicate]; omega))) only [nc, nct, w64_of, Int.toNat_natCast, Int.toNat_zero, List.length_map, rdS, at_agg, bofZ, bof1, bof0, List.getD_cons_zero, List.getD_cons_succ, ← hl, implies_true, and_true, true_and, forall_const]; first | done | omega | (refine ⟨?_, ?_⟩ <;> omega)) | (simp (disch := (first | omega | (simp only [lnS, List.length_append, List.length_map, List.length_range, List.length_replicate]; omega))) [nc, nct, w64_of, Int.toNat_natCast, Int.toNat_zero, List.length_map, rdS, at_agg, bofZ, bof1, bof0, List.getD_cons_zero, List.getD_cons_succ, ← hl]; done))); cbv)
      | (refine ⟨fun _ h_s => ?_, fun _ h_s => ?_⟩ <;> (cbv; (try simp only [nc] at *); try simp (disch := (first | omega | (simp only [lnS, List.length_append, List.length_map, List.length_range, List.length_replicate]; omega))) only [nc, nct, w64_of, Int.toNat_natCast, Int.toNat_zero, List.length_map, rdS, at_agg, bofZ, bof1, bof0, List.getD_cons_zero, List.getD_cons_succ, ← hl, reduceCtorEq, Bool.not_true, Bool.not_false, decide_eq_true_eq, decide_eq_false_iff_not, Bool.not_eq_true, Bool.not_eq_false, Bool.not_eq_true', Bool.not_eq_false', ne_eq, Decidable.not_not, Int.not_le, Int.not_lt, beq_iff_eq] at h_s))
      | (refine hF ?_; intro _; clear hF)
      | (refine hF ?_; cbv; clear hF)
      | (refine ⟨fun _ => ?_, ?_⟩; (· ((try simp only [nc] at *); first | done | omega | exact ⟨by omega, rfl⟩ | (simp (disch := (first | omega | (simp only [lnS, List.length_append, List.length_map, List.length_range, List.length_replicate]; omega))) only [nc, nct, w64_of, Int.toNat_natCast, Int.toNat_zero, List.length_map, rdS, at_agg, bofZ, bof1, bof0, List.getD_cons_zero, List.getD_cons_succ, ← hl]; first | done | omega | rfl | exact ⟨by omega, rfl⟩ | (simp; done) | (simp; omega)) | (intros; trivial))); (try (simp only [nc] at *)); (try simp (disch := (first | omega | (simp only [lnS, List.length_append, List.length_map, List.length_range, List.length_replicate]; omega))) only [nc, nct, w64_of, Int.toNat_natCast, Int.toNat_zero, List.length_map, rdS, at_agg, bofZ, bof1, bof0, List.getD_cons_zero, List.getD_cons_succ, ← hl]); (try cbv))
      | (refine E.d 6 (by decide +kernel) ?_; cbv; (fail_if_success guard_target =~ False))
      | fail
    )
    · exact absurd (by assumption) h0
    · rw [h3]
      simp only
      (try simp only [nc] at *)
      rw [w64_of (by ((try simp only [nc] at *); omega)) (by ((try simp only [nc] at *); omega))]
/-- the number of an event of a thread -/
def kN (g : Gr) (t i : Nat) : Nat := g.init.length + (evsT g t).length + i
theorem idsT_at (g : Gr) (t i : Nat) (hi : i < (g.th.getD t []).length) : ∀ T, t < T → (evsT g t).length + i < (idsT g T).length ∧ (idsT g T).getD ((evsT g t).length + i) id0 = ⟨(t : Int) + 1, (i : Int)⟩
  | 0, h => absurd h (Nat.not_lt_zero _)
  | T + 1, h => by
    rw [idsT_succ]
    by_cases e : t = T
    · subst e
      have hl := idsT_len g t
      have hE := idsE_len t (g.th.getD t []).length
      refine ⟨by rw [List.length_append, hE]; omega, ?_⟩
      rw [List.getD_eq_getElem?_getD, List.getElem?_append_right (by omega)]
      rw [show (evsT g t).length + i - (idsT g t).length = i by omega]
      have hi' : i < (g.th[t]?.getD []).length := by simpa using hi
      simp [idsE, hi']
    · obtain ⟨h1, h2⟩ := idsT_at g t i hi T (by omega)
      refine ⟨by rw [List.length_append]; omega, ?_⟩
      rw [List.getD_eq_getElem?_getD, List.getElem?_append_left h1, ← List.getD_eq_getElem?_getD, h2]
theorem kN_ids {g : Gr} {t i : Nat} (ht : t < g.th.length) (hi : i < (g.th.getD t []).length) : kN g t i < nG g ∧ (idsG g).getD (kN g t i) id0 = ⟨(t : Int) + 1, (i : Int)⟩ := by
  obtain ⟨h1, h2⟩ := idsT_at g t i hi g.th.length ht
  have hI := idsI_len g.init.length
  refine ⟨by unfold nG idsG kN; rw [List.length_append, hI]; omega, ?_⟩
  unfold idsG kN
  rw [List.getD_eq_getElem?_getD, List.getElem?_append_right (by omega), hI, show g.init.length + (evsT g t).length + i - g.init.length = (evsT g t).length + i by omega, ← List.getD_eq_getElem?_getD, h2]
theorem kN_ev {g : Gr} {t i : Nat} (ht : t < g.th.length) (hi : i < (g.th.getD t []).length) (hs : g.th.length ≤ 4) : (viewG g).ev.getD (kN g t i) ev0 = (g.th.getD t []).getD i ev0 := by
  obtain ⟨h1, h2⟩ := kN_ids ht hi
  have := evsG_get g (kN g t i) h1
  rw [h2] at this
  unfold eventM at this
  have hi' : i < (g.th[t]?.getD []).length := by simpa using hi
  rw [if_neg (by simp; omega), if_pos (by simp; omega)] at this
  have e := (Option.some.inj this).symm
  show (evsG g).getD _ _ = _
  rw [e]
  simp
theorem place_num (g : Gr) (hg : Rd g) (h : GOk g) (k : Nat) (hk : k < nG g) (hw : writesM ((viewG g).ev.getD k ev0) = true) (loc : Int) (hloc : loc = ((viewG g).ev.getD k ev0).loc) (d : EId) (hd : (idsG g).getD k id0 = d) :
    Pure Tryd.prog γ false 52 [aGr g, .i fun _ => loc, aId d] (.i fun _ => (viewG g).pl.getD k 0) := by
  subst hloc
  subst hd
  have hev := vev h k hk
  rw [vpl h k hk]
  refine place_at g hg _ _ _ ?_
  rcases pl_write h hev hw with h1 | ⟨h0, k0, h1, h2, h3⟩
  · exact .inl h1
  · have hl := fine_loc (event_fine h hev h0) (notFence_w hw)
    have hnd : (g.ord.getD ((viewG g).ev.getD k ev0).loc.toNat []).Nodup := ((ordered_iff g _).1 (h.orders _ (by omega))).1
    refine .inr ⟨h0, hl.1, by rw [h.lord]; exact hl.2, k0, h1, h2, h3, fun j hj he => ?_⟩
    have : j = k0 := getD_inj hnd (by omega) h2 (he.trans h3.symm)
    omega
end Go.AL.Rl

namespace Go.AL.Rl
open Go Go.AL Go.Proofs
set_option maxRecDepth 100000
set_option maxHeartbeats 3200000
variable {γ : Nat → Option AV}

theorem kN_next (g : Gr) (t : Nat) : kN g t (g.th.getD t []).length = kN g (t + 1) 0 := by
  unfold kN; rw [evsT_succ, List.length_append]; omega
theorem kN_end (g : Gr) : kN g g.th.length 0 = nG g := by
  unfold kN nG idsG; rw [List.length_append, idsI_len, idsT_len]; omega
theorem upd_init {g : Gr} (h : GOk g) (k : Nat) (hk : k < kN g 0 0) : updB (viewG g) k = false := by
  have hk' : k < g.init.length := by simpa [kN, evsT] using hk
  have hn : k < nG g := by unfold nG idsG; rw [List.length_append, idsI_len]; omega
  have he := vev h k hn
  have h0 : ((idsG g).getD k id0).t = 0 := by
    unfold idsG
    rw [List.getD_eq_getElem?_getD, List.getElem?_append_left (by rw [idsI_len]; exact hk')]
    simp [idsI, hk']
  have := (event_init he h0).1
  unfold updB
  rw [this]; rfl
theorem upd_src {g : Gr} (h : GOk g) {t i : Nat} (ht : t < g.th.length) (hi : i < (g.th.getD t []).length) (hr : readsM ((viewG g).ev.getD (kN g t i) ev0) = true) :
    ∃ w : Nat, (viewG g).fr.getD (kN g t i) 0 = w ∧ w < nG g ∧ writesM ((viewG g).ev.getD w ev0) = true ∧ ((viewG g).ev.getD w ev0).loc = ((viewG g).ev.getD (kN g t i) ev0).loc ∧ (idsG g).getD w id0 = (g.fr.getD t []).getD i id0 := by
  obtain ⟨hk, hd⟩ := kN_ids ht hi
  obtain ⟨w, h1, h2, h3, h4, h5⟩ := src_of h (kN g t i) hk hr
  refine ⟨w, h1, h2, h4, h5, ?_⟩
  have e := vfr h _ hk
  rw [hd] at e
  have hev := vev h _ hk
  rw [hd] at hev
  unfold frOf at e
  rw [if_neg (by simp; omega), hev] at e
  simp only [Option.getD_some] at e
  rw [if_pos hr, h1] at e
  have hw : w = numOf (idsG g) (srcOf g ⟨(t : Int) + 1, (i : Int)⟩) := Int.ofNat_inj.1 e
  have hm : srcOf g ⟨(t : Int) + 1, (i : Int)⟩ ∈ idsG g := by
    obtain ⟨wv, k1, _⟩ := source_mem (src_ok h (d := ⟨(t : Int) + 1, (i : Int)⟩) (by rw [← hd]; exact List.getElem_eq_getD (h := hk) id0 ▸ List.getElem_mem _) (by simp; omega)) (by rw [hev]; exact hr)
    exact idsG_mem.2 (by rw [k1]; rfl)
  rw [hw, numOf_get hm]
  unfold srcOf
  simp
theorem ord_small {g : Gr} (h : GOk g) {x : Nat} (hx : x < g.init.length) : (g.ord.getD x []).length ≤ 56 := by
  have h1 := h.orders x hx
  unfold orderedM at h1
  rw [Bool.and_eq_true, decide_eq_true_eq, decide_eq_true_eq] at h1
  have h2 := cntT_le (ts := g.th) (x : Int) h.short.ths
  have h3 := h.short.th
  omega
theorem pl_small {g : Gr} (h : GOk g) {k : Nat} (hk : k < nG g) (hw : writesM ((viewG g).ev.getD k ev0) = true) : 0 ≤ (viewG g).pl.getD k 0 ∧ (viewG g).pl.getD k 0 ≤ 60 := by
  have hev := vev h k hk
  rw [vpl h k hk]
  rcases pl_write h hev hw with h1 | ⟨h0, k0, h1, h2, h3⟩
  · omega
  · have hl := fine_loc (event_fine h hev h0) (notFence_w hw)
    have := ord_small h (x := ((viewG g).ev.getD k ev0).loc.toNat) (by omega)
    omega
theorem update_ok (g : Gr) (hg : Rd g) (h : GOk g) (n : Int) (po rf co fr eco porf loc sw hb : List (BitVec 64)) : Pure Tryd.prog γ false 28 [aFc g n po rf co fr eco porf loc sw hb] (aFt (updF (viewG g) (nG g))) := by
  have hth := h.short.th
  have hin := h.short.init
  have hle : ∀ t, (g.th.getD t []).length ≤ 14 := h.short.at
  have hk0 : kN g 0 0 = g.init.length := by simp [kN, evsT]
  have hkb : ∀ t i, t ≤ g.th.length → i ≤ (g.th.getD t []).length → kN g t i ≤ 100 := fun t i h1 h2 => by
    have := evsT_len h.short t
    have := hle t
    unfold kN; omega
  have hU : ∀ k, k < nG g → updB (viewG g) k = true → (∀ j < k, updB (viewG g) j = false) → updF (viewG g) (nG g) = ⟨k, -1, true⟩ := fun k h1 h2 h3 => updF_at h1 h2 h3
  have hU0 : (∀ j < nG g, updB (viewG g) j = false) → updF (viewG g) (nG g) = ⟨0, 0, false⟩ := updF_no
  have hui := upd_init h
  generalize updF (viewG g) (nG g) = FT at *
  refine Pure.go (ty := ty) ty_eq mo Tryd.func28 rfl Tryd.ntmps28 Tryd.results28 Tryd.call28 (by simp) fun P C CQ D W F E hF => ?_
  cbv
  repeat' (first
    | (refine ⟨fun _ h_s => ?_, fun _ h_s => ?_⟩ <;> (cbv; (try simp only [nc] at *); try simp (disch := (first | omega | (simp only [lnS, List.length_append, List.length_map, List.length_range, List.length_replicate]; omega))) only [nc, nct, w64_of, Int.toNat_natCast, Int.toNat_zero, List.length_map, rdS, at_agg, bofZ, bof1, bof0, List.getD_cons_zero, List.getD_cons_succ, reduceCtorEq, Bool.not_true, Bool.not_false, decide_eq_true_eq, decide_eq_false_iff_not, Bool.not_eq_true, Bool.not_eq_false, Bool.not_eq_true', Bool.not_eq_false', ne_eq, Decidable.not_not, Int.not_le, Int.not_lt, beq_iff_eq] at h_s))
    | (refine hF ?_; intro _; clear hF)
    | (refine hF ?_; cbv; clear hF)
    | (refine ⟨fun _ => ?_, ?_⟩; (· ((try simp only [nc] at *); first | done | omega | exact ⟨by omega, rfl⟩ | (simp (disch := (first | omega | (simp only [lnS, List.length_append, List.length_map, List.length_range, List.length_replicate]; omega))) only [nc, nct, w64_of, Int.toNat_natCast, Int.toNat_zero, List.length_map, rdS, at_agg, bofZ, bof1, bof0, List.getD_cons_zero, List.getD_cons_succ]; first | done | omega | rfl | exact ⟨by omega, rfl⟩ | (simp; done) | (simp; omega)) | (intros; trivial))); (try (simp only [nc] at *)); (try simp (disch := (first | omega | (simp only [lnS, List.length_append, List.length_map, List.length_range, List.length_replicate]; omega))) only [nc, nct, w64_of, Int.toNat_natCast, Int.toNat_zero, List.length_map, rdS, at_agg, bofZ, bof1, bof0, List.getD_cons_zero, List.getD_cons_succ]); (try cbv))
    | (refine E.d 16 (by decide +kernel) ?_; cbv; (fail_if_success guard_target =~ False))
    | fail
  )
  refine E.loopS (ι := Nat) (fun t => t ≤ g.th.length ∧ (∀ k < kN g t 0, updB (viewG g) k = false)) (fun t => g.th.length - t) (fun t => [(17, .i fun _ => ((t : Nat) : Int)), (3, .i fun _ => ((kN g t 0 : Nat) : Int))]) (fun t h => h) 0 (fun _ => by first | rfl | simp) ⟨Nat.zero_le _, ?_⟩ ?_ fun t ht I hI => ?_
  · exact hui
  · cbv; simp [hk0]
  cbv
  obtain ⟨ht, hp⟩ := ht
  repeat' (first
    | (refine ⟨fun _ h_s => ?_, fun _ h_s => ?_⟩ <;> (cbv; (try simp only [nc] at *); try simp (disch := (first | omega | (simp only [lnS, List.length_append, List.length_map, List.length_range, List.length_replicate]; omega))) only [nc, nct, w64_of, Int.toNat_natCast, Int.toNat_zero, List.length_map, rdS, at_agg, bofZ, bof1, bof0, List.getD_cons_zero, List.getD_cons_succ, reduceCtorEq, Bool.not_true, Bool.not_false, decide_eq_true_eq, decide_eq_false_iff_not, Bool.not_eq_true, Bool.not_eq_false, Bool.not_eq_true', Bool.not_eq_false', ne_eq, Decidable.not_not, Int.not_le, Int.not_lt, beq_iff_eq] at h_s))
    | (refine hF ?_; intro _; clear hF)
    | (refine hF ?_; cbv; clear hF)
    | (refine ⟨fun _ => ?_, ?_⟩; (· ((try simp only [nc] at *); first | done | omega | exact ⟨by omega, rfl⟩ | (simp (disch := (first | omega | (simp only [lnS, List.length_append, List.length_map, List.length_range, List.length_replicate]; omega))) only [nc, nct, w64_of, Int.toNat_natCast, Int.toNat_zero, List.length_map, rdS, at_agg, bofZ, bof1, bof0, List.getD_cons_zero, List.getD_cons_succ]; first | done | omega | rfl | exact ⟨by omega, rfl⟩ | (simp; done) | (simp; omega)) | (intros; trivial))); (try (simp only [nc] at *)); (try simp (disch := (first | omega | (simp only [lnS, List.length_append, List.length_map, List.length_range, List.length_replicate]; omega))) only [nc, nct, w64_of, Int.toNat_natCast, Int.toNat_zero, List.length_map, rdS, at_agg, bofZ, bof1, bof0, List.getD_cons_zero, List.getD_cons_succ]); (try cbv))
    | (refine E.d 16 (by decide +kernel) ?_; cbv; (fail_if_success guard_target =~ False))
    | fail
  )
  · refine E.loopS (ι := Nat) (fun i => i ≤ (g.th.getD t []).length ∧ (∀ k < kN g t i, updB (viewG g) k = false)) (fun i => (g.th.getD t []).length - i) (fun i => [(24, .i fun _ => ((i : Nat) : Int)), (3, .i fun _ => ((kN g t i : Nat) : Int))]) (fun i h => h) 0 (fun _ => by first | rfl | simp) ⟨Nat.zero_le _, ?_⟩ ?_ fun i hi I2 hI2 => ?_
    · exact hp
    · cbv; simp
    cbv
    obtain ⟨hi, hp2⟩ := hi
    have hb := hkb t i ht hi
    have hb1 := hle t
    repeat' (first
      | (refine hI (t + 1) ?_ ?_ ?_; rotate_left 1; (· ((try simp only [nc] at *); omega)); (cbv; clear hI; (try clear hF); (try simp only [nc] at *); (try simp (disch := (first | omega | (simp only [lnS, List.length_append, List.length_map, List.length_range, List.length_replicate]; omega))) only [nc, nct, w64_of, Int.toNat_natCast, Int.toNat_zero, List.length_map, rdS, at_agg, bofZ, bof1, bof0, List.getD_cons_zero, List.getD_cons_succ, implies_true, and_true, true_and, forall_const])); rotate_left 1; (try ((try simp only [nc] at *); omega)))
      | (refine hI2 (i + 1) ?_ ?_ ?_; rotate_left 1; (· ((try simp only [nc] at *); omega)); (cbv; clear hI2; (try clear hF); (try simp only [nc] at *); (try simp (disch := (first | omega | (simp only [lnS, List.length_append, List.length_map, List.length_range, List.length_replicate]; omega))) only [nc, nct, w64_of, Int.toNat_natCast, Int.toNat_zero, List.length_map, rdS, at_agg, bofZ, bof1, bof0, List.getD_cons_zero, List.getD_cons_succ, implies_true, and_true, true_and, forall_const])); rotate_left 1; (try ((try simp only [nc] at *); omega)))
      | (refine ⟨fun _ h_s => ?_, fun _ h_s => ?_⟩ <;> (cbv; (try simp only [nc] at *); try simp (disch := (first | omega | (simp only [lnS, List.length_append, List.length_map, List.length_range, List.length_replicate]; omega))) only [nc, nct, w64_of, Int.toNat_natCast, Int.toNat_zero, List.length_map, rdS, at_agg, bofZ, bof1, bof0, List.getD_cons_zero, List.getD_cons_succ, reduceCtorEq, Bool.not_true, Bool.not_false, decide_eq_true_eq, decide_eq_false_iff_not, Bool.not_eq_true, Bool.not_eq_false, Bool.not_eq_true', Bool.not_eq_false', ne_eq, Decidable.not_not, Int.not_le, Int.not_lt, beq_iff_eq] at h_s))
      | (refine hF ?_; intro _; clear hF)
      | (refine hF ?_; cbv; clear hF)
      | (refine ⟨fun _ => ?_, ?_⟩; (· ((try simp only [nc] at *); first | done | omega | exact ⟨by omega, rfl⟩ | (simp (disch := (first | omega | (simp only [lnS, List.length_append, List.length_map, List.length_range, List.length_replicate]; omega))) only [nc, nct, w64_of, Int.toNat_natCast, Int.toNat_zero, List.length_map, rdS, at_agg, bofZ, bof1, bof0, List.getD_cons_zero, List.getD_cons_succ]; first | done | omega | rfl | exact ⟨by omega, rfl⟩ | (simp; done) | (simp; omega)) | (intros; trivial))); (try (simp only [nc] at *)); (try simp (disch := (first | omega | (simp only [lnS, List.length_append, List.length_map, List.length_range, List.length_replicate]; omega))) only [nc, nct, w64_of, Int.toNat_natCast, Int.toNat_zero, List.length_map, rdS, at_agg, bofZ, bof1, bof0, List.getD_cons_zero, List.getD_cons_succ]); (try cbv))
      | (refine E.d 16 (by decide +kernel) ?_; cbv; (fail_if_success guard_target =~ False))
      | fail
    )
    · have ht' : t < g.th.length := by ((try simp only [nc] at *); omega)
      have hi' : i < (g.th.getD t []).length := by ((try simp only [nc] at *); omega)
      obtain ⟨hk, hd⟩ := kN_ids ht' hi'
      have hev := kN_ev ht' hi' hth
      have h3 : ((g.th.getD t []).getD i ev0).kind = 3 := by assumption
      have hr : readsM ((viewG g).ev.getD (kN g t i) ev0) = true := by rw [hev]; unfold readsM; rw [h3]; rfl
      have hw : writesM ((viewG g).ev.getD (kN g t i) ev0) = true := by rw [hev]; unfold writesM; rw [h3]; rfl
      obtain ⟨w, s1, s2, s3, s4, s5⟩ := upd_src h ht' hi' hr
      have p1 := place_num (γ := γ) g hg h (kN g t i) hk hw ((g.th.getD t []).getD i ev0).loc (by rw [hev]) ⟨(t : Int) + 1, (i : Int)⟩ hd
      have p2 := place_num (γ := γ) g hg h w s2 s3 ((g.th.getD t []).getD i ev0).loc (by rw [s4, hev]) ((g.fr.getD t []).getD i id0) s5
      have hfl : (g.fr.getD t []).length = (g.th.getD t []).length := (h.events t ht').1
      have hfr : g.fr.length = g.th.length := h.lfr
      have hu : updB (viewG g) (kN g t i) = decide ((viewG g).pl.getD (kN g t i) 0 ≠ (viewG g).pl.getD w 0 + 1) := by unfold updB; rw [hev, h3, s1]; simp
      have b1 := pl_small h hk hw
      have b2 := pl_small h s2 s3
      have hUk := hU _ hk
      clear hU hU0 hui hkb s1 s5 hd hr hw hev
      generalize (viewG g).pl.getD (kN g t i) 0 = x1 at *
      generalize (viewG g).pl.getD w 0 = x2 at *
      repeat' (first
        | (refine hI2 (i + 1) ?_ ?_ ?_; rotate_left 1; (· ((try simp only [nc] at *); omega)); (cbv; clear hI2; (try clear hF); (try simp only [nc] at *); (try simp (disch := (first | omega | (simp only [lnS, List.length_append, List.length_map, List.length_range, List.length_replicate]; omega))) only [nc, nct, w64_of, Int.toNat_natCast, Int.toNat_zero, List.length_map, rdS, at_agg, bofZ, bof1, bof0, List.getD_cons_zero, List.getD_cons_succ, implies_true, and_true, true_and, forall_const])); rotate_left 1; (try ((try simp only [nc] at *); omega)))
        | (refine E.c (SCalls.of_le (p2) ?_ ?_); (· (cbv; (try simp only [nc] at *); first | done | (simp; done) | (simp (disch := (first | omega | (simp only [lnS, List.length_append, List.length_map, List.length_range, List.length_replicate]; omega))) only [nc, nct, w64_of, Int.toNat_natCast, Int.toNat_zero, List.length_map, rdS, at_agg, bofZ, bof1, bof0, List.getD_cons_zero, List.getD_cons_succ, implies_true, and_true, true_and, forall_const]; first | done | omega | (refine ⟨?_, ?_⟩ <;> omega)) | (simp (disch := (first | omega | (simp only [lnS, List.length_append, List.length_map, List.length_range, List.length_replicate]; omega))) [nc, nct, w64_of, Int.toNat_natCast, Int.toNat_zero, List.length_map, rdS, at_agg, bofZ, bof1, bof0, List.getD_cons_zero, List.getD_cons_succ]; done))); cbv)
        | (refine E.q (QCalls.of_le (p2) ?_ ?_); (· (cbv; (try simp only [nc] at *); first | done | (simp; done) | (simp (disch := (first | omega | (simp only [lnS, List.length_append, List.length_map, List.length_range, List.length_replicate]; omega))) only [nc, nct, w64_of, Int.toNat_natCast, Int.toNat_zero, List.length_map, rdS, at_agg, bofZ, bof1, bof0, List.getD_cons_zero, List.getD_cons_succ, implies_true, and_true, true_and, forall_const]; first | done | omega | (refine ⟨?_, ?_⟩ <;> omega)) | (simp (disch := (first | omega | (simp only [lnS, List.length_append, List.length_map, List.length_range, List.length_replicate]; omega))) [nc, nct, w64_of, Int.toNat_natCast, Int.toNat_zero, List.length_map, rdS, at_agg, bofZ, bof1, bof0, List.getD_cons_zero, List.getD_cons_succ]; done))); cbv)
        | (refine E.c (SCalls.of_le (p1) ?_ ?_); (· (cbv; (try simp only [nc] at *); first | done | (simp; done) | (simp (disch := (first | omega | (simp only [lnS, List.length_append, List.length_map, List.length_range, List.length_replicate]; omega))) only [nc, nct, w64_of, Int.toNat_natCast, Int.toNat_zero, List.length_map, rdS, at_agg, bofZ, bof1, bof0, List.getD_cons_zero, List.getD_cons_succ, implies_true, and_true, true_and, forall_const]; first | done | omega | (refine ⟨?_, ?_⟩ <;> omega)) | (simp (disch := (first | omega | (simp only [lnS, List.length_append, List.length_map, List.length_range, List.length_replicate]; omega))) [nc, nct, w64_of, Int.toNat_natCast, Int.toNat_zero, List.length_map, rdS, at_agg, bofZ, bof1, bof0, List.getD_cons_zero, List.getD_cons_succ]; done))); cbv)
        | (refine ⟨fun _ h_s => ?_, fun _ h_s => ?_⟩ <;> (cbv; (try simp only [nc] at *); try simp (disch := (first | omega | (simp only [lnS, List.length_append, List.length_map, List.length_range, List.length_replicate]; omega))) only [nc, nct, w64_of, Int.toNat_natCast, Int.toNat_zero, List.length_map, rdS, at_agg, bofZ, bof1, bof0, List.getD_cons_zero, List.getD_cons_succ, reduceCtorEq, Bool.not_true, Bool.not_false, decide_eq_true_eq, decide_eq_false_iff_not, Bool.not_eq_true, Bool.not_eq_false, Bool.not_eq_true', Bool.not_eq_false', ne_eq, Decidable.not_not, Int.not_le, Int.not_lt, beq_iff_eq] at h_s))
        | (refine hF ?_; intro _; clear hF)
        | (refine hF ?_; cbv; clear hF)
        | (refine ⟨fun _ => ?_, ?_⟩; (· ((try simp only [nc] at *); first | done | omega | exact ⟨by omega, rfl⟩ | (simp (disch := (first | omega | (simp only [lnS, List.length_append, List.length_map, List.length_range, List.length_replicate]; omega))) only [nc, nct, w64_of, Int.toNat_natCast, Int.toNat_zero, List.length_map, rdS, at_agg, bofZ, bof1, bof0, List.getD_cons_zero, List.getD_cons_succ]; first | done | omega | rfl | exact ⟨by omega, rfl⟩ | (simp; done) | (simp; omega)) | (intros; trivial))); (try (simp only [nc] at *)); (try simp (disch := (first | omega | (simp only [lnS, List.length_append, List.length_map, List.length_range, List.length_replicate]; omega))) only [nc, nct, w64_of, Int.toNat_natCast, Int.toNat_zero, List.length_map, rdS, at_agg, bofZ, bof1, bof0, List.getD_cons_zero, List.getD_cons_succ]); (try cbv))
        | (refine E.d 16 (by decide +kernel) ?_; cbv; (fail_if_success guard_target =~ False))
        | fail
      )
      · have hs1 : ¬ x1 = x2 + 1 := by
          first
            | exact h_s
            | (rw [w64_of (by omega) (by omega)] at h_s; exact h_s)
        rw [hUk (by rw [hu]; exact decide_eq_true hs1) hp2]
        exact ⟨fun _ => rfl, fun _ => rfl, fun _ => rfl, trivial⟩
      · have hs1 : x1 = x2 + 1 := by
          first
            | exact h_s
            | (rw [w64_of (by omega) (by omega)] at h_s; exact h_s)
        refine ⟨by ((try simp only [nc] at *); omega), fun k hk => ?_⟩
        rcases Nat.lt_or_ge k (kN g t i) with h1 | h1
        · exact hp2 k h1
        · obtain rfl : k = kN g t i := by unfold kN at *; omega
          rw [hu]; exact decide_eq_false (by simp [hs1])
      · refine ⟨?_, by push_cast; rfl⟩
        unfold kN; push_cast; omega
    · refine ⟨by ((try simp only [nc] at *); omega), fun k hk => ?_⟩
      have h3 : ¬ ((g.th.getD t []).getD i ev0).kind = 3 := by assumption
      rcases Nat.lt_or_ge k (kN g t i) with h1 | h1
      · exact hp2 k h1
      · obtain rfl : k = kN g t i := by unfold kN at *; omega
        unfold updB
        rw [kN_ev (by ((try simp only [nc] at *); omega)) (by ((try simp only [nc] at *); omega)) hth, decide_eq_false h3]; rfl
    · refine ⟨?_, by push_cast; rfl⟩
      unfold kN; push_cast; omega
    · have e : i = (g.th.getD t []).length := by ((try simp only [nc] at *); omega)
      subst e
      rw [kN_next] at hp2
      exact ⟨by ((try simp only [nc] at *); omega), hp2⟩
    · have e : i = (g.th.getD t []).length := by ((try simp only [nc] at *); omega)
      subst e
      rw [kN_next]
      exact ⟨rfl, by push_cast; rfl⟩
  · have e : t = g.th.length := by ((try simp only [nc] at *); omega)
    subst e
    rw [kN_end] at hp
    rw [hU0 hp]
    exact ⟨fun _ => rfl, fun _ => rfl, fun _ => rfl, trivial⟩
end Go.AL.Rl

namespace Go.AL.Rl
open Go Go.AL Go.Proofs
set_option maxRecDepth 100000
set_option maxHeartbeats 3200000
variable {γ : Nat → Option AV}

theorem coherence_ok (g : Gr) (n : Int) (po rf co fr eco porf loc sw hb : List (BitVec 64)) (le : eco.length ≤ 64) (lh : hb.length ≤ 64) (hle : hb.length = eco.length) : Pure Tryd.prog γ false 32 [aFc g n po rf co fr eco porf loc sw hb] (aFt (cohF hb eco)) := by
  have hU : ∀ a b, a < hb.length → b < eco.length → cohB hb eco a b = true → (∀ k < b, cohB hb eco a k = false) → (∀ k < a, ∀ j < eco.length, cohB hb eco k j = false) → cohF hb eco = ⟨a, b, true⟩ := fun a b h1 h2 h3 h4 h5 => cohF_at h1 h2 h3 h4 h5
  have hU0 : (∀ k < hb.length, ∀ j < eco.length, cohB hb eco k j = false) → cohF hb eco = ⟨0, 0, false⟩ := cohF_no
  have hB : ∀ a b, cohB hb eco a b = (decide (a ≠ b) && (!decide ((hb.getD a 0 >>> b) &&& 1#64 = 0#64)) && (!decide ((eco.getD b 0 >>> a) &&& 1#64 = 0#64))) := fun a b => by
    rw [getLsb_and1, getLsb_and1]; rfl
  generalize cohF hb eco = FT at *
  generalize cohB hb eco = P' at *
  refine Pure.go (ty := ty) ty_eq mo Tryd.func32 rfl Tryd.ntmps32 Tryd.results32 Tryd.call32 (by simp) fun P C CQ D W F E hF => ?_
  cbv
  repeat' (first
    | (refine ⟨fun _ h_s => ?_, fun _ h_s => ?_⟩ <;> (cbv; (try simp only [nc] at *); try simp (disch := (first | omega | (simp only [lnS, List.length_append, List.length_map, List.length_range, List.length_replicate]; omega))) only [nc, nct, w64_of, Int.toNat_natCast, Int.toNat_zero, List.length_map, rdS, at_agg, bofZ, bof1, bof0, List.getD_cons_zero, List.getD_cons_succ, reduceCtorEq, Bool.not_true, Bool.not_false, decide_eq_true_eq, decide_eq_false_iff_not, Bool.not_eq_true, Bool.not_eq_false, Bool.not_eq_true', Bool.not_eq_false', ne_eq, Decidable.not_not, Int.not_le, Int.not_lt, beq_iff_eq] at h_s))
    | (refine hF ?_; intro _; clear hF)
    | (refine hF ?_; cbv; clear hF)
    | (refine ⟨fun _ => ?_, ?_⟩; (· ((try simp only [nc] at *); first | done | omega | exact ⟨by omega, rfl⟩ | (simp (disch := (first | omega | (simp only [lnS, List.length_append, List.length_map, List.length_range, List.length_replicate]; omega))) only [nc, nct, w64_of, Int.toNat_natCast, Int.toNat_zero, List.length_map, rdS, at_agg, bofZ, bof1, bof0, List.getD_cons_zero, List.getD_cons_succ]; first | done | omega | rfl | exact ⟨by omega, rfl⟩ | (simp; done) | (simp; omega)) | (intros; trivial))); (try (simp only [nc] at *)); (try simp (disch := (first | omega | (simp only [lnS, List.length_append, List.length_map, List.length_range, List.length_replicate]; omega))) only [nc, nct, w64_of, Int.toNat_natCast, Int.toNat_zero, List.length_map, rdS, at_agg, bofZ, bof1, bof0, List.getD_cons_zero, List.getD_cons_succ]); (try cbv))
    | (refine E.d 11 (by decide +kernel) ?_; cbv; (fail_if_success guard_target =~ False))
    | fail
  )
  refine E.loopS (ι := Nat) (fun a => a ≤ hb.length ∧ (∀ k < a, ∀ j < eco.length, P' k j = false)) (fun a => hb.length - a) (fun a => [(21, .i fun _ => ((a : Nat) : Int))]) (fun a h => h) 0 (fun _ => by first | rfl | simp) ⟨Nat.zero_le _, ?_⟩ ?_ fun a ha I hI => ?_
  · intro k hk; omega
  · cbv; simp
  cbv
  obtain ⟨ha, hp⟩ := ha
  repeat' (first
    | (refine ⟨fun _ h_s => ?_, fun _ h_s => ?_⟩ <;> (cbv; (try simp only [nc] at *); try simp (disch := (first | omega | (simp only [lnS, List.length_append, List.length_map, List.length_range, List.length_replicate]; omega))) only [nc, nct, w64_of, Int.toNat_natCast, Int.toNat_zero, List.length_map, rdS, at_agg, bofZ, bof1, bof0, List.getD_cons_zero, List.getD_cons_succ, reduceCtorEq, Bool.not_true, Bool.not_false, decide_eq_true_eq, decide_eq_false_iff_not, Bool.not_eq_true, Bool.not_eq_false, Bool.not_eq_true', Bool.not_eq_false', ne_eq, Decidable.not_not, Int.not_le, Int.not_lt, beq_iff_eq] at h_s))
    | (refine hF ?_; intro _; clear hF)
    | (refine hF ?_; cbv; clear hF)
    | (refine ⟨fun _ => ?_, ?_⟩; (· ((try simp only [nc] at *); first | done | omega | exact ⟨by omega, rfl⟩ | (simp (disch := (first | omega | (simp only [lnS, List.length_append, List.length_map, List.length_range, List.length_replicate]; omega))) only [nc, nct, w64_of, Int.toNat_natCast, Int.toNat_zero, List.length_map, rdS, at_agg, bofZ, bof1, bof0, List.getD_cons_zero, List.getD_cons_succ]; first | done | omega | rfl | exact ⟨by omega, rfl⟩ | (simp; done) | (simp; omega)) | (intros; trivial))); (try (simp only [nc] at *)); (try simp (disch := (first | omega | (simp only [lnS, List.length_append, List.length_map, List.length_range, List.length_replicate]; omega))) only [nc, nct, w64_of, Int.toNat_natCast, Int.toNat_zero, List.length_map, rdS, at_agg, bofZ, bof1, bof0, List.getD_cons_zero, List.getD_cons_succ]); (try cbv))
    | (refine E.d 11 (by decide +kernel) ?_; cbv; (fail_if_success guard_target =~ False))
    | fail
  )
  · refine E.loopS (ι := Nat) (fun b => b ≤ eco.length ∧ (∀ j < b, P' a j = false)) (fun b => eco.length - b) (fun b => [(26, .i fun _ => ((b : Nat) : Int))]) (fun b h => h) 0 (fun _ => by first | rfl | simp) ⟨Nat.zero_le _, ?_⟩ ?_ fun b hb2 I2 hI2 => ?_
    · intro k hk; omega
    · cbv; simp
    cbv
    obtain ⟨hb2, hp2⟩ := hb2
    have hab := hB a b
    have hba := bofInt (k := a) (by omega)
    have hbb := bofInt (k := b) (by omega)
    have hin : ((a : Int) = b) ↔ a = b := Int.ofNat_inj
    repeat' (first
      | (refine hI (a + 1) ?_ ?_ ?_; rotate_left 1; (· ((try simp only [nc] at *); omega)); (cbv; clear hI; (try clear hF); (try simp only [nc] at *); (try simp (disch := (first | omega | (simp only [lnS, List.length_append, List.length_map, List.length_range, List.length_replicate]; omega))) only [nc, nct, w64_of, Int.toNat_natCast, Int.toNat_zero, List.length_map, rdS, at_agg, bofZ, bof1, bof0, List.getD_cons_zero, List.getD_cons_succ, implies_true, and_true, true_and, forall_const])); rotate_left 1; (try ((try simp only [nc] at *); omega)))
      | (refine hI2 (b + 1) ?_ ?_ ?_; rotate_left 1; (· ((try simp only [nc] at *); omega)); (cbv; clear hI2; (try clear hF); (try simp only [nc] at *); (try simp (disch := (first | omega | (simp only [lnS, List.length_append, List.length_map, List.length_range, List.length_replicate]; omega))) only [nc, nct, w64_of, Int.toNat_natCast, Int.toNat_zero, List.length_map, rdS, at_agg, bofZ, bof1, bof0, List.getD_cons_zero, List.getD_cons_succ, implies_true, and_true, true_and, forall_const])); rotate_left 1; (try ((try simp only [nc] at *); omega)))
      | (refine ⟨fun _ h_s => ?_, fun _ h_s => ?_⟩ <;> (cbv; (try simp only [nc] at *); try simp (disch := (first | omega | (simp only [lnS, List.length_append, List.length_map, List.length_range, List.length_replicate]; omega))) only [nc, nct, w64_of, Int.toNat_natCast, Int.toNat_zero, List.length_map, rdS, at_agg, bofZ, bof1, bof0, List.getD_cons_zero, List.getD_cons_succ, reduceCtorEq, Bool.not_true, Bool.not_false, decide_eq_true_eq, decide_eq_false_iff_not, Bool.not_eq_true, Bool.not_eq_false, Bool.not_eq_true', Bool.not_eq_false', ne_eq, Decidable.not_not, Int.not_le, Int.not_lt, beq_iff_eq] at h_s))
      | (refine hF ?_; intro _; clear hF)
      | (refine hF ?_; cbv; clear hF)
      | (refine ⟨fun _ => ?_, ?_⟩; (· ((try simp only [nc] at *); first | done | omega | exact ⟨by omega, rfl⟩ | (simp (disch := (first | omega | (simp only [lnS, List.length_append, List.length_map, List.length_range, List.length_replicate]; omega))) only [nc, nct, w64_of, Int.toNat_natCast, Int.toNat_zero, List.length_map, rdS, at_agg, bofZ, bof1, bof0, List.getD_cons_zero, List.getD_cons_succ]; first | done | omega | rfl | exact ⟨by omega, rfl⟩ | (simp; done) | (simp; omega)) | (intros; trivial))); (try (simp only [nc] at *)); (try simp (disch := (first | omega | (simp only [lnS, List.length_append, List.length_map, List.length_range, List.length_replicate]; omega))) only [nc, nct, w64_of, Int.toNat_natCast, Int.toNat_zero, List.length_map, rdS, at_agg, bofZ, bof1, bof0, List.getD_cons_zero, List.getD_cons_succ]); (try cbv))
      | (refine E.d 11 (by decide +kernel) ?_; cbv; (fail_if_success guard_target =~ False))
      | fail
    )
    · have ht : P' a b = true := by
        clear hB hU hU0 hp hp2
        rw [hab]
        simp_all
      rw [hU a b (by ((try simp only [nc] at *); omega)) (by ((try simp only [nc] at *); omega)) ht hp2 hp]
      exact ⟨fun _ => rfl, fun _ => rfl, fun _ => rfl, trivial⟩
    iterate 3
      · have ht : P' a b = false := by
          clear hB hU hU0 hp hp2
          rw [hab]
          first
            | (simp_all; done)
            | (simp_all; omega)
        refine ⟨by ((try simp only [nc] at *); omega), fun j hj => ?_⟩
        rcases Nat.lt_or_ge j b with h1 | h1
        · exact hp2 j h1
        · obtain rfl : j = b := by omega
          exact ht
      · push_cast; rfl
    · refine ⟨by ((try simp only [nc] at *); omega), fun k hk j hj => ?_⟩
      rcases Nat.lt_or_ge k a with h1 | h1
      · exact hp k h1 j hj
      · obtain rfl : k = a := by omega
        exact hp2 j (by ((try simp only [nc] at *); omega))
    · push_cast; rfl
  · have e : a = hb.length := by ((try simp only [nc] at *); omega)
    subst e
    rw [hU0 hp]
    exact ⟨fun _ => rfl, fun _ => rfl, fun _ => rfl, trivial⟩
theorem alike4 (n : Int) (a b c d : List (BitVec 64)) (ha : Fits n a) (hb : Fits n b) (hc : Fits n c) (hd : Fits n d) : Alike [(n, a), (n, b), (n, c), (n, d)] := by
  refine ⟨by simp, fun i hi => ?_⟩
  have : i = 0 ∨ i = 1 ∨ i = 2 ∨ i = 3 := by simp at hi; omega
  rcases this with rfl | rfl | rfl | rfl
  · simp [ha]
  · simp [hb]
  · simp [hc]
  · simp [hd]
theorem togF_fits (V : Vw) {n : Nat} (hn : n ≤ 62) : Fits n (togF V n) := fits_or (by omega) (l := [((n : Int), poF V n), ((n : Int), rfF V n), ((n : Int), coF V n), ((n : Int), frF V n)]) (by
  have f1 := fits_poF V hn
  have f2 := fits_rfF V hn
  have f3 := fits_coF V hn
  have f4 := fits_frF V hn
  simp [f1, f2, f3, f4])
noncomputable abbrev aFg (g : Gr) : AV := aFc g (nG g : Nat) (poF (viewG g) (nG g)) (rfF (viewG g) (nG g)) (coF (viewG g) (nG g)) (frF (viewG g) (nG g)) (ecoF (viewG g) (nG g)) (porfF (viewG g) (nG g)) (locF (viewG g) (nG g)) (swF (viewG g) (nG g)) (hbF (viewG g) (nG g))
theorem together_ok (g : Gr) (h : GOk g) : Pure Tryd.prog γ false 18 [aFg g] (encRel (nG g : Nat) (togF (viewG g) (nG g))) := by
  have hn := (viewG_wf h).small
  have f1 := fits_poF (viewG g) hn
  have f2 := fits_rfF (viewG g) hn
  have f3 := fits_coF (viewG g) hn
  have f4 := fits_frF (viewG g) hn
  have o4 := or_yes (γ := γ) [((nG g : Int), poF (viewG g) (nG g)), ((nG g : Int), rfF (viewG g) (nG g)), ((nG g : Int), coF (viewG g) (nG g)), ((nG g : Int), frF (viewG g) (nG g))] (by simp) (alike4 _ _ _ _ _ f1 f2 f3 f4) (nG g) rfl
  unfold togF
  unfold aFg
  clear f1 f2 f3 f4
  generalize orM (nG g) [((nG g : Int), poF (viewG g) (nG g)), ((nG g : Int), rfF (viewG g) (nG g)), ((nG g : Int), coF (viewG g) (nG g)), ((nG g : Int), frF (viewG g) (nG g))] = rr at *
  generalize poF (viewG g) (nG g) = r1 at *
  generalize rfF (viewG g) (nG g) = r2 at *
  generalize coF (viewG g) (nG g) = r3 at *
  generalize frF (viewG g) (nG g) = r4 at *
  refine Pure.go (ty := ty) ty_eq mo Tryd.func18 rfl Tryd.ntmps18 Tryd.results18 Tryd.call18 (by simp) fun P C CQ D W F E hF => ?_
  cbv
  repeat' (first
    | (refine E.c (SCalls.of_bare (o4) rfl ?_ ?_); (· (cbv; simp [rls, ps, us, is, LV.of]; done)); cbv)
    | (refine E.c (SCalls.of_le (o4) ?_ ?_); (· (cbv; simp [rls, ps, us, is, LV.of]; done)); cbv)
    | (refine E.q (QCalls.of_le (o4) ?_ ?_); (· (cbv; simp [rls, ps, us, is, LV.of]; done)); cbv)
    | (refine ⟨fun _ h_s => ?_, fun _ h_s => ?_⟩ <;> (cbv; (try simp only [nc] at *); try simp (disch := (first | omega | (simp only [lnS, List.length_append, List.length_map, List.length_range, List.length_replicate]; omega))) only [nc, nct, w64_of, Int.toNat_natCast, Int.toNat_zero, List.length_map, rdS, at_agg, bofZ, bof1, bof0, List.getD_cons_zero, List.getD_cons_succ, reduceCtorEq, Bool.not_true, Bool.not_false, decide_eq_true_eq, decide_eq_false_iff_not, Bool.not_eq_true, Bool.not_eq_false, Bool.not_eq_true', Bool.not_eq_false', ne_eq, Decidable.not_not, Int.not_le, Int.not_lt, beq_iff_eq] at h_s))
    | (refine hF ?_; intro _; clear hF)
    | (refine hF ?_; cbv; clear hF)
    | (refine ⟨fun _ => ?_, ?_⟩; (· ((try simp only [nc] at *); first | done | omega | exact ⟨by omega, rfl⟩ | (simp (disch := (first | omega | (simp only [lnS, List.length_append, List.length_map, List.length_range, List.length_replicate]; omega))) only [nc, nct, w64_of, Int.toNat_natCast, Int.toNat_zero, List.length_map, rdS, at_agg, bofZ, bof1, bof0, List.getD_cons_zero, List.getD_cons_succ]; first | done | omega | rfl | exact ⟨by omega, rfl⟩ | (simp; done) | (simp; omega)) | (intros; trivial))); (try (simp only [nc] at *)); (try simp (disch := (first | omega | (simp only [lnS, List.length_append, List.length_map, List.length_range, List.length_replicate]; omega))) only [nc, nct, w64_of, Int.toNat_natCast, Int.toNat_zero, List.length_map, rdS, at_agg, bofZ, bof1, bof0, List.getD_cons_zero, List.getD_cons_succ]); (try cbv))
    | fail
  )
theorem lensG (g : Gr) (h : GOk g) : (porfF (viewG g) (nG g)).length ≤ 64 ∧ (hbF (viewG g) (nG g)).length = nG g ∧ (ecoF (viewG g) (nG g)).length = nG g ∧ (plusM (nG g) (togF (viewG g) (nG g))).length ≤ 64 := by
  have hn := (viewG_wf h).small
  have f1 := fits_poF (viewG g) hn
  have f2 := fits_rfF (viewG g) hn
  have f6 := fits_swF (viewG g) hn
  have k1 : Fits (nG g) (porfF (viewG g) (nG g)) := fits_plus (fits_or2 f1 f2)
  have k2 : Fits (nG g) (hbF (viewG g) (nG g)) := fits_plus (fits_or2 f1 f6)
  have k3 : Fits (nG g) (ecoF (viewG g) (nG g)) := fits_plus (fits_orP (viewG g) hn)
  have k4 : Fits (nG g) (plusM (nG g) (togF (viewG g) (nG g))) := fits_plus (togF_fits (viewG g) hn)
  have e1 := k1.2.2.1
  have e2 := k2.2.2.1
  have e3 := k3.2.2.1
  have e4 := k4.2.2.1
  omega
theorem flt1_ok (g : Gr) : Pure Tryd.prog γ false 27 [aFg g] (aFt (fltM (viewG g) (nG g) 1)) := by
  rw [show fltM (viewG g) (nG g) 1 = ft0 from rfl]
  unfold aFg
  refine Pure.go (ty := ty) ty_eq mo Tryd.func27 rfl Tryd.ntmps27 Tryd.results27 Tryd.call27 (by simp) fun P C CQ D W F E hF => ?_
  cbv
  repeat' (first
    | (refine ⟨fun _ h_s => ?_, fun _ h_s => ?_⟩ <;> (cbv; (try simp only [nc] at *); try simp (disch := (first | omega | (simp only [lnS, List.length_append, List.length_map, List.length_range, List.length_replicate]; omega))) only [nc, nct, w64_of, Int.toNat_natCast, Int.toNat_zero, List.length_map, rdS, at_agg, bofZ, bof1, bof0, List.getD_cons_zero, List.getD_cons_succ, reduceCtorEq, Bool.not_true, Bool.not_false, decide_eq_true_eq, decide_eq_false_iff_not, Bool.not_eq_true, Bool.not_eq_false, Bool.not_eq_true', Bool.not_eq_false', ne_eq, Decidable.not_not, Int.not_le, Int.not_lt, beq_iff_eq] at h_s))
    | (refine hF ?_; intro _; clear hF)
    | (refine hF ?_; cbv; clear hF)
    | (refine ⟨fun _ => ?_, ?_⟩; (· ((try simp only [nc] at *); first | done | omega | exact ⟨by omega, rfl⟩ | (simp (disch := (first | omega | (simp only [lnS, List.length_append, List.length_map, List.length_range, List.length_replicate]; omega))) only [nc, nct, w64_of, Int.toNat_natCast, Int.toNat_zero, List.length_map, rdS, at_agg, bofZ, bof1, bof0, List.getD_cons_zero, List.getD_cons_succ]; first | done | omega | rfl | exact ⟨by omega, rfl⟩ | (simp; done) | (simp; omega)) | (intros; trivial))); (try (simp only [nc] at *)); (try simp (disch := (first | omega | (simp only [lnS, List.length_append, List.length_map, List.length_range, List.length_replicate]; omega))) only [nc, nct, w64_of, Int.toNat_natCast, Int.toNat_zero, List.length_map, rdS, at_agg, bofZ, bof1, bof0, List.getD_cons_zero, List.getD_cons_succ]); (try cbv))
    | fail
  )
theorem flt2_ok (g : Gr) (hg : Rd g) (h : GOk g) : Pure Tryd.prog γ false 28 [aFg g] (aFt (fltM (viewG g) (nG g) 2)) := update_ok g hg h _ _ _ _ _ _ _ _ _ _
theorem flt3_ok (g : Gr) (h : GOk g) : Pure Tryd.prog γ false 29 [aFg g] (aFt (fltM (viewG g) (nG g) 3)) := by
  have kc := circle_ok (γ := γ) (nG g : Nat) (porfF (viewG g) (nG g)) (lensG g h).1
  rw [show fltM (viewG g) (nG g) 3 = circF (porfF (viewG g) (nG g)) from rfl]
  unfold aFg
  generalize circF (porfF (viewG g) (nG g)) = FT at *
  refine Pure.go (ty := ty) ty_eq mo Tryd.func29 rfl Tryd.ntmps29 Tryd.results29 Tryd.call29 (by simp) fun P C CQ D W F E hF => ?_
  cbv
  repeat' (first
    | (refine E.c (SCalls.of_le (kc) ?_ ?_); (· (cbv; (try simp only [nc] at *); first | done | (simp; done) | (simp (disch := (first | omega | (simp only [lnS, List.length_append, List.length_map, List.length_range, List.length_replicate]; omega))) only [nc, nct, w64_of, Int.toNat_natCast, Int.toNat_zero, List.length_map, rdS, at_agg, bofZ, bof1, bof0, List.getD_cons_zero, List.getD_cons_succ, implies_true, and_true, true_and, forall_const]; first | done | omega | (refine ⟨?_, ?_⟩ <;> omega)) | (simp (disch := (first | omega | (simp only [lnS, List.length_append, List.length_map, List.length_range, List.length_replicate]; omega))) [nc, nct, w64_of, Int.toNat_natCast, Int.toNat_zero, List.length_map, rdS, at_agg, bofZ, bof1, bof0, List.getD_cons_zero, List.getD_cons_succ]; done))); cbv)
    | (refine ⟨fun _ h_s => ?_, fun _ h_s => ?_⟩ <;> (cbv; (try simp only [nc] at *); try simp (disch := (first | omega | (simp only [lnS, List.length_append, List.length_map, List.length_range, List.length_replicate]; omega))) only [nc, nct, w64_of, Int.toNat_natCast, Int.toNat_zero, List.length_map, rdS, at_agg, bofZ, bof1, bof0, List.getD_cons_zero, List.getD_cons_succ, reduceCtorEq, Bool.not_true, Bool.not_false, decide_eq_true_eq, decide_eq_false_iff_not, Bool.not_eq_true, Bool.not_eq_false, Bool.not_eq_true', Bool.not_eq_false', ne_eq, Decidable.not_not, Int.not_le, Int.not_lt, beq_iff_eq] at h_s))
    | (refine hF ?_; intro _; clear hF)
    | (refine hF ?_; cbv; clear hF)
    | (refine ⟨fun _ => ?_, ?_⟩; (· ((try simp only [nc] at *); first | done | omega | exact ⟨by omega, rfl⟩ | (simp (disch := (first | omega | (simp only [lnS, List.length_append, List.length_map, List.length_range, List.length_replicate]; omega))) only [nc, nct, w64_of, Int.toNat_natCast, Int.toNat_zero, List.length_map, rdS, at_agg, bofZ, bof1, bof0, List.getD_cons_zero, List.getD_cons_succ]; first | done | omega | rfl | exact ⟨by omega, rfl⟩ | (simp; done) | (simp; omega)) | (intros; trivial))); (try (simp only [nc] at *)); (try simp (disch := (first | omega | (simp only [lnS, List.length_append, List.length_map, List.length_range, List.length_replicate]; omega))) only [nc, nct, w64_of, Int.toNat_natCast, Int.toNat_zero, List.length_map, rdS, at_agg, bofZ, bof1, bof0, List.getD_cons_zero, List.getD_cons_succ]); (try cbv))
    | fail
  )
theorem flt4_ok (g : Gr) (h : GOk g) : Pure Tryd.prog γ false 31 [aFg g] (aFt (fltM (viewG g) (nG g) 4)) := by
  have kc := circle_ok (γ := γ) (nG g : Nat) (hbF (viewG g) (nG g)) (by have := (lensG g h).2.1; have := (viewG_wf h).small; omega)
  rw [show fltM (viewG g) (nG g) 4 = circF (hbF (viewG g) (nG g)) from rfl]
  unfold aFg
  generalize circF (hbF (viewG g) (nG g)) = FT at *
  refine Pure.go (ty := ty) ty_eq mo Tryd.func31 rfl Tryd.ntmps31 Tryd.results31 Tryd.call31 (by simp) fun P C CQ D W F E hF => ?_
  cbv
  repeat' (first
    | (refine E.c (SCalls.of_le (kc) ?_ ?_); (· (cbv; (try simp only [nc] at *); first | done | (simp; done) | (simp (disch := (first | omega | (simp only [lnS, List.length_append, List.length_map, List.length_range, List.length_replicate]; omega))) only [nc, nct, w64_of, Int.toNat_natCast, Int.toNat_zero, List.length_map, rdS, at_agg, bofZ, bof1, bof0, List.getD_cons_zero, List.getD_cons_succ, implies_true, and_true, true_and, forall_const]; first | done | omega | (refine ⟨?_, ?_⟩ <;> omega)) | (simp (disch := (first | omega | (simp only [lnS, List.length_append, List.length_map, List.length_range, List.length_replicate]; omega))) [nc, nct, w64_of, Int.toNat_natCast, Int.toNat_zero, List.length_map, rdS, at_agg, bofZ, bof1, bof0, List.getD_cons_zero, List.getD_cons_succ]; done))); cbv)
    | (refine ⟨fun _ h_s => ?_, fun _ h_s => ?_⟩ <;> (cbv; (try simp only [nc] at *); try simp (disch := (first | omega | (simp only [lnS, List.length_append, List.length_map, List.length_range, List.length_replicate]; omega))) only [nc, nct, w64_of, Int.toNat_natCast, Int.toNat_zero, List.length_map, rdS, at_agg, bofZ, bof1, bof0, List.getD_cons_zero, List.getD_cons_succ, reduceCtorEq, Bool.not_true, Bool.not_false, decide_eq_true_eq, decide_eq_false_iff_not, Bool.not_eq_true, Bool.not_eq_false, Bool.not_eq_true', Bool.not_eq_false', ne_eq, Decidable.not_not, Int.not_le, Int.not_lt, beq_iff_eq] at h_s))
    | (refine hF ?_; intro _; clear hF)
    | (refine hF ?_; cbv; clear hF)
    | (refine ⟨fun _ => ?_, ?_⟩; (· ((try simp only [nc] at *); first | done | omega | exact ⟨by omega, rfl⟩ | (simp (disch := (first | omega | (simp only [lnS, List.length_append, List.length_map, List.length_range, List.length_replicate]; omega))) only [nc, nct, w64_of, Int.toNat_natCast, Int.toNat_zero, List.length_map, rdS, at_agg, bofZ, bof1, bof0, List.getD_cons_zero, List.getD_cons_succ]; first | done | omega | rfl | exact ⟨by omega, rfl⟩ | (simp; done) | (simp; omega)) | (intros; trivial))); (try (simp only [nc] at *)); (try simp (disch := (first | omega | (simp only [lnS, List.length_append, List.length_map, List.length_range, List.length_replicate]; omega))) only [nc, nct, w64_of, Int.toNat_natCast, Int.toNat_zero, List.length_map, rdS, at_agg, bofZ, bof1, bof0, List.getD_cons_zero, List.getD_cons_succ]); (try cbv))
    | fail
  )
theorem flt5_ok (g : Gr) (h : GOk g) : Pure Tryd.prog γ false 32 [aFg g] (aFt (fltM (viewG g) (nG g) 5)) := by
  have hn := (viewG_wf h).small
  have hl := lensG g h
  exact coherence_ok g _ _ _ _ _ _ _ _ _ _ (by omega) (by omega) (by omega)
theorem flt6_ok (g : Gr) (h : GOk g) : Pure Tryd.prog γ false 33 [aFg g] (aFt (fltM (viewG g) (nG g) 6)) := by
  have hn := (viewG_wf h).small
  have kc := circle_ok (γ := γ) (nG g : Nat) (plusM (nG g) (togF (viewG g) (nG g))) (lensG g h).2.2.2
  have kt := together_ok (γ := γ) g h
  have kp := plus_ok (γ := γ) (nG g) _ (togF_fits (viewG g) hn)
  rw [show fltM (viewG g) (nG g) 6 = circF (plusM (nG g) (togF (viewG g) (nG g))) from rfl]
  unfold aFg at *
  generalize circF (plusM (nG g) (togF (viewG g) (nG g))) = FT at *
  refine Pure.go (ty := ty) ty_eq mo Tryd.func33 rfl Tryd.ntmps33 Tryd.results33 Tryd.call33 (by simp) fun P C CQ D W F E hF => ?_
  cbv
  repeat' (first
    | (refine E.c (SCalls.of_le (kc) ?_ ?_); (· (cbv; (try simp only [nc] at *); first | done | (simp; done) | (simp (disch := (first | omega | (simp only [lnS, List.length_append, List.length_map, List.length_range, List.length_replicate]; omega))) only [nc, nct, w64_of, Int.toNat_natCast, Int.toNat_zero, List.length_map, rdS, at_agg, bofZ, bof1, bof0, List.getD_cons_zero, List.getD_cons_succ, implies_true, and_true, true_and, forall_const]; first | done | omega | (refine ⟨?_, ?_⟩ <;> omega)) | (simp (disch := (first | omega | (simp only [lnS, List.length_append, List.length_map, List.length_range, List.length_replicate]; omega))) [nc, nct, w64_of, Int.toNat_natCast, Int.toNat_zero, List.length_map, rdS, at_agg, bofZ, bof1, bof0, List.getD_cons_zero, List.getD_cons_succ]; done))); cbv)
    | (refine E.c (SCalls.of_le (kp) ?_ ?_); (· (cbv; (try simp only [nc] at *); first | done | (simp; done) | (simp (disch := (first | omega | (simp only [lnS, List.length_append, List.length_map, List.length_range, List.length_replicate]; omega))) only [nc, nct, w64_of, Int.toNat_natCast, Int.toNat_zero, List.length_map, rdS, at_agg, bofZ, bof1, bof0, List.getD_cons_zero, List.getD_cons_succ, implies_true, and_true, true_and, forall_const]; first | done | omega | (refine ⟨?_, ?_⟩ <;> omega)) | (simp (disch := (first | omega | (simp only [lnS, List.length_append, List.length_map, List.length_range, List.length_replicate]; omega))) [nc, nct, w64_of, Int.toNat_natCast, Int.toNat_zero, List.length_map, rdS, at_agg, bofZ, bof1, bof0, List.getD_cons_zero, List.getD_cons_succ]; done))); cbv)
    | (refine E.c (SCalls.of_le (kt) ?_ ?_); (· (cbv; (try simp only [nc] at *); first | done | (simp; done) | (simp (disch := (first | omega | (simp only [lnS, List.length_append, List.length_map, List.length_range, List.length_replicate]; omega))) only [nc, nct, w64_of, Int.toNat_natCast, Int.toNat_zero, List.length_map, rdS, at_agg, bofZ, bof1, bof0, List.getD_cons_zero, List.getD_cons_succ, implies_true, and_true, true_and, forall_const]; first | done | omega | (refine ⟨?_, ?_⟩ <;> omega)) | (simp (disch := (first | omega | (simp only [lnS, List.length_append, List.length_map, List.length_range, List.length_replicate]; omega))) [nc, nct, w64_of, Int.toNat_natCast, Int.toNat_zero, List.length_map, rdS, at_agg, bofZ, bof1, bof0, List.getD_cons_zero, List.getD_cons_succ]; done))); cbv)
    | (refine ⟨fun _ h_s => ?_, fun _ h_s => ?_⟩ <;> (cbv; (try simp only [nc] at *); try simp (disch := (first | omega | (simp only [lnS, List.length_append, List.length_map, List.length_range, List.length_replicate]; omega))) only [nc, nct, w64_of, Int.toNat_natCast, Int.toNat_zero, List.length_map, rdS, at_agg, bofZ, bof1, bof0, List.getD_cons_zero, List.getD_cons_succ, reduceCtorEq, Bool.not_true, Bool.not_false, decide_eq_true_eq, decide_eq_false_iff_not, Bool.not_eq_true, Bool.not_eq_false, Bool.not_eq_true', Bool.not_eq_false', ne_eq, Decidable.not_not, Int.not_le, Int.not_lt, beq_iff_eq] at h_s))
    | (refine hF ?_; intro _; clear hF)
    | (refine hF ?_; cbv; clear hF)
    | (refine ⟨fun _ => ?_, ?_⟩; (· ((try simp only [nc] at *); first | done | omega | exact ⟨by omega, rfl⟩ | (simp (disch := (first | omega | (simp only [lnS, List.length_append, List.length_map, List.length_range, List.length_replicate]; omega))) only [nc, nct, w64_of, Int.toNat_natCast, Int.toNat_zero, List.length_map, rdS, at_agg, bofZ, bof1, bof0, List.getD_cons_zero, List.getD_cons_succ]; first | done | omega | rfl | exact ⟨by omega, rfl⟩ | (simp; done) | (simp; omega)) | (intros; trivial))); (try (simp only [nc] at *)); (try simp (disch := (first | omega | (simp only [lnS, List.length_append, List.length_map, List.length_range, List.length_replicate]; omega))) only [nc, nct, w64_of, Int.toNat_natCast, Int.toNat_zero, List.length_map, rdS, at_agg, bofZ, bof1, bof0, List.getD_cons_zero, List.getD_cons_succ]); (try cbv))
    | fail
  )
end Go.AL.Rl

namespace Go.AL.Rl
open Go Go.AL Go.Proofs
set_option maxRecDepth 100000
set_option maxHeartbeats 3200000
variable {γ : Nat → Option AV}

theorem learn_yes (g : Gr) (hg : Rd g) (h : GOk g) : Pure Tryd.prog γ false 16 [aGr g] (.tup [aFg g, .b fun _ => true]) := by
  have kd := dAll_yes (γ := γ) g hg h
  unfold aFg
  generalize poF (viewG g) (nG g) = q1 at *
  generalize rfF (viewG g) (nG g) = q2 at *
  generalize coF (viewG g) (nG g) = q3 at *
  generalize frF (viewG g) (nG g) = q4 at *
  generalize swF (viewG g) (nG g) = q5 at *
  generalize ecoF (viewG g) (nG g) = q6 at *
  generalize porfF (viewG g) (nG g) = q7 at *
  generalize hbF (viewG g) (nG g) = q8 at *
  generalize locF (viewG g) (nG g) = q9 at *
  generalize nG g = n at *
  refine Pure.go (ty := ty) ty_eq mo Tryd.func16 rfl Tryd.ntmps16 Tryd.results16 Tryd.call16 (by simp) fun P C CQ D W F E hF => ?_
  cbv
  repeat' (first
    | (refine E.c (SCalls.of_le (kd) ?_ ?_); (· (cbv; (try simp only [nc] at *); first | done | (simp; done) | (simp (disch := (first | omega | (simp only [lnS, List.length_append, List.length_map, List.length_range, List.length_replicate]; omega))) only [nc, nct, w64_of, Int.toNat_natCast, Int.toNat_zero, List.length_map, rdS, at_agg, bofZ, bof1, bof0, List.getD_cons_zero, List.getD_cons_succ, implies_true, and_true, true_and, forall_const]; first | done | omega | (refine ⟨?_, ?_⟩ <;> omega)) | (simp (disch := (first | omega | (simp only [lnS, List.length_append, List.length_map, List.length_range, List.length_replicate]; omega))) [nc, nct, w64_of, Int.toNat_natCast, Int.toNat_zero, List.length_map, rdS, at_agg, bofZ, bof1, bof0, List.getD_cons_zero, List.getD_cons_succ]; done))); cbv)
    | (refine ⟨fun _ h_s => ?_, fun _ h_s => ?_⟩ <;> (cbv; (try simp only [nc] at *); try simp (disch := (first | omega | (simp only [lnS, List.length_append, List.length_map, List.length_range, List.length_replicate]; omega))) only [nc, nct, w64_of, Int.toNat_natCast, Int.toNat_zero, List.length_map, rdS, at_agg, bofZ, bof1, bof0, List.getD_cons_zero, List.getD_cons_succ, reduceCtorEq, Bool.not_true, Bool.not_false, decide_eq_true_eq, decide_eq_false_iff_not, Bool.not_eq_true, Bool.not_eq_false, Bool.not_eq_true', Bool.not_eq_false', ne_eq, Decidable.not_not, Int.not_le, Int.not_lt, beq_iff_eq] at h_s))
    | (refine hF ?_; intro _; clear hF)
    | (refine hF ?_; cbv; clear hF)
    | (refine ⟨fun _ => ?_, ?_⟩; (· ((try simp only [nc] at *); first | done | omega | exact ⟨by omega, rfl⟩ | (simp (disch := (first | omega | (simp only [lnS, List.length_append, List.length_map, List.length_range, List.length_replicate]; omega))) only [nc, nct, w64_of, Int.toNat_natCast, Int.toNat_zero, List.length_map, rdS, at_agg, bofZ, bof1, bof0, List.getD_cons_zero, List.getD_cons_succ]; first | done | omega | rfl | exact ⟨by omega, rfl⟩ | (simp; done) | (simp; omega)) | (intros; trivial))); (try (simp only [nc] at *)); (try simp (disch := (first | omega | (simp only [lnS, List.length_append, List.length_map, List.length_range, List.length_replicate]; omega))) only [nc, nct, w64_of, Int.toNat_natCast, Int.toNat_zero, List.length_map, rdS, at_agg, bofZ, bof1, bof0, List.getD_cons_zero, List.getD_cons_succ]); (try cbv))
    | fail
  )
  simp
theorem learn_no (g : Gr) (hg : Rd g) (h : ¬ GOk g) : Pure Tryd.prog γ false 16 [aGr g] (.tup [aFc g 0 [] [] [] [] [] [] [] [] [], .b fun _ => false]) := by
  have kd := dAll_no (γ := γ) g hg h
  refine Pure.go (ty := ty) ty_eq mo Tryd.func16 rfl Tryd.ntmps16 Tryd.results16 Tryd.call16 (by simp) fun P C CQ D W F E hF => ?_
  cbv
  repeat' (first
    | (refine E.c (SCalls.of_le (kd) ?_ ?_); (· (cbv; (try simp only [nc] at *); first | done | (simp; done) | (simp (disch := (first | omega | (simp only [lnS, List.length_append, List.length_map, List.length_range, List.length_replicate]; omega))) only [nc, nct, w64_of, Int.toNat_natCast, Int.toNat_zero, List.length_map, rdS, at_agg, bofZ, bof1, bof0, List.getD_cons_zero, List.getD_cons_succ, implies_true, and_true, true_and, forall_const]; first | done | omega | (refine ⟨?_, ?_⟩ <;> omega)) | (simp (disch := (first | omega | (simp only [lnS, List.length_append, List.length_map, List.length_range, List.length_replicate]; omega))) [nc, nct, w64_of, Int.toNat_natCast, Int.toNat_zero, List.length_map, rdS, at_agg, bofZ, bof1, bof0, List.getD_cons_zero, List.getD_cons_succ]; done))); cbv)
    | (refine ⟨fun _ h_s => ?_, fun _ h_s => ?_⟩ <;> (cbv; (try simp only [nc] at *); try simp (disch := (first | omega | (simp only [lnS, List.length_append, List.length_map, List.length_range, List.length_replicate]; omega))) only [nc, nct, w64_of, Int.toNat_natCast, Int.toNat_zero, List.length_map, rdS, at_agg, bofZ, bof1, bof0, List.getD_cons_zero, List.getD_cons_succ, reduceCtorEq, Bool.not_true, Bool.not_false, decide_eq_true_eq, decide_eq_false_iff_not, Bool.not_eq_true, Bool.not_eq_false, Bool.not_eq_true', Bool.not_eq_false', ne_eq, Decidable.not_not, Int.not_le, Int.not_lt, beq_iff_eq] at h_s))
    | (refine hF ?_; intro _; clear hF)
    | (refine hF ?_; cbv; clear hF)
    | (refine ⟨fun _ => ?_, ?_⟩; (· ((try simp only [nc] at *); first | done | omega | exact ⟨by omega, rfl⟩ | (simp (disch := (first | omega | (simp only [lnS, List.length_append, List.length_map, List.length_range, List.length_replicate]; omega))) only [nc, nct, w64_of, Int.toNat_natCast, Int.toNat_zero, List.length_map, rdS, at_agg, bofZ, bof1, bof0, List.getD_cons_zero, List.getD_cons_succ]; first | done | omega | rfl | exact ⟨by omega, rfl⟩ | (simp; done) | (simp; omega)) | (intros; trivial))); (try (simp only [nc] at *)); (try simp (disch := (first | omega | (simp only [lnS, List.length_append, List.length_map, List.length_range, List.length_replicate]; omega))) only [nc, nct, w64_of, Int.toNat_natCast, Int.toNat_zero, List.length_map, rdS, at_agg, bofZ, bof1, bof0, List.getD_cons_zero, List.getD_cons_succ]); (try cbv))
    | fail
  )
  simp
theorem rulesF_ok : Pure Tryd.prog γ false 20 [] (.agg [.raw .nilFunc, .fn 27 [] [], .fn 28 [] [], .fn 29 [] [], .fn 31 [] [], .fn 32 [] [], .fn 33 [] []]) := by
  refine Pure.go (ty := ty) ty_eq mo Tryd.func20 rfl Tryd.ntmps20 Tryd.results20 Tryd.call20 (by simp) fun P C CQ D W F E hF => ?_
  cbv
  repeat' (first
    | (refine ⟨fun _ h_s => ?_, fun _ h_s => ?_⟩ <;> (cbv; (try simp only [nc] at *); try simp (disch := (first | omega | (simp only [lnS, List.length_append, List.length_map, List.length_range, List.length_replicate]; omega))) only [nc, nct, w64_of, Int.toNat_natCast, Int.toNat_zero, List.length_map, rdS, at_agg, bofZ, bof1, bof0, List.getD_cons_zero, List.getD_cons_succ, reduceCtorEq, Bool.not_true, Bool.not_false, decide_eq_true_eq, decide_eq_false_iff_not, Bool.not_eq_true, Bool.not_eq_false, Bool.not_eq_true', Bool.not_eq_false', ne_eq, Decidable.not_not, Int.not_le, Int.not_lt, beq_iff_eq] at h_s))
    | (refine hF ?_; intro _; clear hF)
    | (refine hF ?_; cbv; clear hF)
    | (refine ⟨fun _ => ?_, ?_⟩; (· ((try simp only [nc] at *); first | done | omega | exact ⟨by omega, rfl⟩ | (simp (disch := (first | omega | (simp only [lnS, List.length_append, List.length_map, List.length_range, List.length_replicate]; omega))) only [nc, nct, w64_of, Int.toNat_natCast, Int.toNat_zero, List.length_map, rdS, at_agg, bofZ, bof1, bof0, List.getD_cons_zero, List.getD_cons_succ]; first | done | omega | rfl | exact ⟨by omega, rfl⟩ | (simp; done) | (simp; omega)) | (intros; trivial))); (try (simp only [nc] at *)); (try simp (disch := (first | omega | (simp only [lnS, List.length_append, List.length_map, List.length_range, List.length_replicate]; omega))) only [nc, nct, w64_of, Int.toNat_natCast, Int.toNat_zero, List.length_map, rdS, at_agg, bofZ, bof1, bof0, List.getD_cons_zero, List.getD_cons_succ]); (try cbv))
    | fail
  )
theorem find_at (p : Int → Bool) : ∀ (l : List Int) (a : Nat), a < l.length → p (l.getD a 0) = true → (∀ j < a, p (l.getD j 0) = false) → l.find? p = some (l.getD a 0)
  | [], a, h, _, _ => absurd h (Nat.not_lt_zero _)
  | x :: l, 0, _, h, _ => by simp at h; simp [h]
  | x :: l, a + 1, hl, h, hb => by
    have h0 := hb 0 (by omega)
    simp at h0
    rw [List.find?_cons_of_neg (by simp [h0])]
    have := find_at p l a (by simpa using hl) (by simpa using h) fun j hj => by simpa using hb (j + 1) (by omega)
    simpa using this
theorem find_no (p : Int → Bool) (l : List Int) (hb : ∀ j < l.length, p (l.getD j 0) = false) : l.find? p = none := by
  rw [List.find?_eq_none]
  intro x hx
  obtain ⟨i, hi, rfl⟩ := List.getElem_of_mem hx
  have := hb i hi
  simp [hi] at this
  simp [this]
abbrev aBk (b : Bk) : AV := .tup [.agg [.i fun _ => b.rule, .i fun _ => b.a, .i fun _ => b.b], .b fun _ => b.br]
theorem why_bad (m : Int) (g : Gr) (hm : m ≠ 1 ∧ m ≠ 2) : Pure Tryd.prog γ false 8 [.i fun _ => m, aGr g] (aBk ⟨0, 0, 0, false⟩) := by
  have kn := known_ok (γ := γ) m
  rw [decide_eq_false (by omega)] at kn
  refine Pure.go (ty := ty) ty_eq mo Tryd.func8 rfl Tryd.ntmps8 Tryd.results8 Tryd.call8 (by simp) fun P C CQ D W F E hF => ?_
  cbv
  repeat' (first
    | (refine E.c (SCalls.of_le (kn) ?_ ?_); (· (cbv; (try simp only [nc] at *); first | done | (simp; done) | (simp (disch := (first | omega | (simp only [lnS, List.length_append, List.length_map, List.length_range, List.length_replicate]; omega))) only [nc, nct, w64_of, Int.toNat_natCast, Int.toNat_zero, List.length_map, rdS, at_agg, bofZ, bof1, bof0, List.getD_cons_zero, List.getD_cons_succ, implies_true, and_true, true_and, forall_const]; first | done | omega | (refine ⟨?_, ?_⟩ <;> omega)) | (simp (disch := (first | omega | (simp only [lnS, List.length_append, List.length_map, List.length_range, List.length_replicate]; omega))) [nc, nct, w64_of, Int.toNat_natCast, Int.toNat_zero, List.length_map, rdS, at_agg, bofZ, bof1, bof0, List.getD_cons_zero, List.getD_cons_succ]; done))); cbv)
    | (refine ⟨fun _ h_s => ?_, fun _ h_s => ?_⟩ <;> (cbv; (try simp only [nc] at *); try simp (disch := (first | omega | (simp only [lnS, List.length_append, List.length_map, List.length_range, List.length_replicate]; omega))) only [nc, nct, w64_of, Int.toNat_natCast, Int.toNat_zero, List.length_map, rdS, at_agg, bofZ, bof1, bof0, List.getD_cons_zero, List.getD_cons_succ, reduceCtorEq, Bool.not_true, Bool.not_false, decide_eq_true_eq, decide_eq_false_iff_not, Bool.not_eq_true, Bool.not_eq_false, Bool.not_eq_true', Bool.not_eq_false', ne_eq, Decidable.not_not, Int.not_le, Int.not_lt, beq_iff_eq] at h_s))
    | (refine hF ?_; intro _; clear hF)
    | (refine hF ?_; cbv; clear hF)
    | (refine ⟨fun _ => ?_, ?_⟩; (· ((try simp only [nc] at *); first | done | omega | exact ⟨by omega, rfl⟩ | (simp (disch := (first | omega | (simp only [lnS, List.length_append, List.length_map, List.length_range, List.length_replicate]; omega))) only [nc, nct, w64_of, Int.toNat_natCast, Int.toNat_zero, List.length_map, rdS, at_agg, bofZ, bof1, bof0, List.getD_cons_zero, List.getD_cons_succ]; first | done | omega | rfl | exact ⟨by omega, rfl⟩ | (simp; done) | (simp; omega)) | (intros; trivial))); (try (simp only [nc] at *)); (try simp (disch := (first | omega | (simp only [lnS, List.length_append, List.length_map, List.length_range, List.length_replicate]; omega))) only [nc, nct, w64_of, Int.toNat_natCast, Int.toNat_zero, List.length_map, rdS, at_agg, bofZ, bof1, bof0, List.getD_cons_zero, List.getD_cons_succ]); (try cbv))
    | fail
  )
  simp
theorem why_no (m : Int) (g : Gr) (hm : m = 1 ∨ m = 2) (hg : Rd g) (h : ¬ GOk g) : Pure Tryd.prog γ false 8 [.i fun _ => m, aGr g] (aBk ⟨1, -1, -1, true⟩) := by
  have kn := known_ok (γ := γ) m
  rw [decide_eq_true hm] at kn
  have kl := learn_no (γ := γ) g hg h
  refine Pure.go (ty := ty) ty_eq mo Tryd.func8 rfl Tryd.ntmps8 Tryd.results8 Tryd.call8 (by simp) fun P C CQ D W F E hF => ?_
  cbv
  repeat' (first
    | (refine E.c (SCalls.of_le (kl) ?_ ?_); (· (cbv; (try simp only [nc] at *); first | done | (simp; done) | (simp (disch := (first | omega | (simp only [lnS, List.length_append, List.length_map, List.length_range, List.length_replicate]; omega))) only [nc, nct, w64_of, Int.toNat_natCast, Int.toNat_zero, List.length_map, rdS, at_agg, bofZ, bof1, bof0, List.getD_cons_zero, List.getD_cons_succ, implies_true, and_true, true_and, forall_const]; first | done | omega | (refine ⟨?_, ?_⟩ <;> omega)) | (simp (disch := (first | omega | (simp only [lnS, List.length_append, List.length_map, List.length_range, List.length_replicate]; omega))) [nc, nct, w64_of, Int.toNat_natCast, Int.toNat_zero, List.length_map, rdS, at_agg, bofZ, bof1, bof0, List.getD_cons_zero, List.getD_cons_succ]; done))); cbv)
    | (refine E.c (SCalls.of_le (kn) ?_ ?_); (· (cbv; (try simp only [nc] at *); first | done | (simp; done) | (simp (disch := (first | omega | (simp only [lnS, List.length_append, List.length_map, List.length_range, List.length_replicate]; omega))) only [nc, nct, w64_of, Int.toNat_natCast, Int.toNat_zero, List.length_map, rdS, at_agg, bofZ, bof1, bof0, List.getD_cons_zero, List.getD_cons_succ, implies_true, and_true, true_and, forall_const]; first | done | omega | (refine ⟨?_, ?_⟩ <;> omega)) | (simp (disch := (first | omega | (simp only [lnS, List.length_append, List.length_map, List.length_range, List.length_replicate]; omega))) [nc, nct, w64_of, Int.toNat_natCast, Int.toNat_zero, List.length_map, rdS, at_agg, bofZ, bof1, bof0, List.getD_cons_zero, List.getD_cons_succ]; done))); cbv)
    | (refine ⟨fun _ h_s => ?_, fun _ h_s => ?_⟩ <;> (cbv; (try simp only [nc] at *); try simp (disch := (first | omega | (simp only [lnS, List.length_append, List.length_map, List.length_range, List.length_replicate]; omega))) only [nc, nct, w64_of, Int.toNat_natCast, Int.toNat_zero, List.length_map, rdS, at_agg, bofZ, bof1, bof0, List.getD_cons_zero, List.getD_cons_succ, reduceCtorEq, Bool.not_true, Bool.not_false, decide_eq_true_eq, decide_eq_false_iff_not, Bool.not_eq_true, Bool.not_eq_false, Bool.not_eq_true', Bool.not_eq_false', ne_eq, Decidable.not_not, Int.not_le, Int.not_lt, beq_iff_eq] at h_s))
    | (refine hF ?_; intro _; clear hF)
    | (refine hF ?_; cbv; clear hF)
    | (refine ⟨fun _ => ?_, ?_⟩; (· ((try simp only [nc] at *); first | done | omega | exact ⟨by omega, rfl⟩ | (simp (disch := (first | omega | (simp only [lnS, List.length_append, List.length_map, List.length_range, List.length_replicate]; omega))) only [nc, nct, w64_of, Int.toNat_natCast, Int.toNat_zero, List.length_map, rdS, at_agg, bofZ, bof1, bof0, List.getD_cons_zero, List.getD_cons_succ]; first | done | omega | rfl | exact ⟨by omega, rfl⟩ | (simp; done) | (simp; omega)) | (intros; trivial))); (try (simp only [nc] at *)); (try simp (disch := (first | omega | (simp only [lnS, List.length_append, List.length_map, List.length_range, List.length_replicate]; omega))) only [nc, nct, w64_of, Int.toNat_natCast, Int.toNat_zero, List.length_map, rdS, at_agg, bofZ, bof1, bof0, List.getD_cons_zero, List.getD_cons_succ]); (try cbv))
    | fail
  )
  simp
theorem why_yes (m : Int) (l : List Int) (g : Gr) (hm : m = 1 ∨ m = 2) (hl : l.length ≤ 9) (hr : ∀ a < l.length, l.getD a 0 = 1 ∨ l.getD a 0 = 2 ∨ l.getD a 0 = 3 ∨ l.getD a 0 = 4 ∨ l.getD a 0 = 5 ∨ l.getD a 0 = 6)
    (kr : Pure Tryd.prog γ false 12 [.i fun _ => m] (.vs 1 fun _ => is l)) (hg : Rd g) (h : GOk g) :
    Pure Tryd.prog γ false 8 [.i fun _ => m, aGr g] (aBk (match l.find? fun k => (fltM (viewG g) (nG g) k).br with
      | some k => ⟨k, (fltM (viewG g) (nG g) k).a, (fltM (viewG g) (nG g) k).b, true⟩
      | none => ⟨0, 0, 0, false⟩)) := by
  have kn := known_ok (γ := γ) m
  rw [decide_eq_true hm] at kn
  have kl := learn_yes (γ := γ) g hg h
  have kf := rulesF_ok (γ := γ)
  have f1 := flt1_ok (γ := γ) g
  have f2 := flt2_ok (γ := γ) g hg h
  have f3 := flt3_ok (γ := γ) g h
  have f4 := flt4_ok (γ := γ) g h
  have f5 := flt5_ok (γ := γ) g h
  have f6 := flt6_ok (γ := γ) g h
  unfold aFg at *
  generalize poF (viewG g) (nG g) = q1 at *
  generalize rfF (viewG g) (nG g) = q2 at *
  generalize coF (viewG g) (nG g) = q3 at *
  generalize frF (viewG g) (nG g) = q4 at *
  generalize swF (viewG g) (nG g) = q5 at *
  generalize ecoF (viewG g) (nG g) = q6 at *
  generalize porfF (viewG g) (nG g) = q7 at *
  generalize hbF (viewG g) (nG g) = q8 at *
  generalize locF (viewG g) (nG g) = q9 at *
  generalize fltM (viewG g) (nG g) = fl at *
  generalize nG g = n at *
  obtain ⟨B, hB⟩ : ∃ B : Bk, B = (match l.find? fun k => (fl k).br with
      | some k => ⟨k, (fl k).a, (fl k).b, true⟩
      | none => ⟨0, 0, 0, false⟩) := ⟨_, rfl⟩
  rw [← hB]
  have hB1 : ∀ a < l.length, (fl (l.getD a 0)).br = true → (∀ j < a, (fl (l.getD j 0)).br = false) → B = ⟨l.getD a 0, (fl (l.getD a 0)).a, (fl (l.getD a 0)).b, true⟩ := fun a h1 h2 h3 => by
    rw [hB, find_at (fun k => (fl k).br) l a h1 h2 h3]
  have hB0 : (∀ j < l.length, (fl (l.getD j 0)).br = false) → B = ⟨0, 0, 0, false⟩ := fun h3 => by
    rw [hB, find_no (fun k => (fl k).br) l h3]
  clear hB
  refine Pure.go (ty := ty) ty_eq mo Tryd.func8 rfl Tryd.ntmps8 Tryd.results8 Tryd.call8 (by simp) fun P C CQ D W F E hF => ?_
  cbv
  repeat' (first
    | (refine E.c (SCalls.of_le (kr) ?_ ?_); (· (cbv; (try simp only [nc] at *); first | done | (simp; done) | (simp (disch := (first | omega | (simp only [lnS, List.length_append, List.length_map, List.length_range, List.length_replicate]; omega))) only [nc, nct, w64_of, Int.toNat_natCast, Int.toNat_zero, List.length_map, rdS, at_agg, bofZ, bof1, bof0, List.getD_cons_zero, List.getD_cons_succ, implies_true, and_true, true_and, forall_const]; first | done | omega | (refine ⟨?_, ?_⟩ <;> omega)) | (simp (disch := (first | omega | (simp only [lnS, List.length_append, List.length_map, List.length_range, List.length_replicate]; omega))) [nc, nct, w64_of, Int.toNat_natCast, Int.toNat_zero, List.length_map, rdS, at_agg, bofZ, bof1, bof0, List.getD_cons_zero, List.getD_cons_succ]; done))); cbv)
    | (refine E.c (SCalls.of_le (kf) ?_ ?_); (· (cbv; (try simp only [nc] at *); first | done | (simp; done) | (simp (disch := (first | omega | (simp only [lnS, List.length_append, List.length_map, List.length_range, List.length_replicate]; omega))) only [nc, nct, w64_of, Int.toNat_natCast, Int.toNat_zero, List.length_map, rdS, at_agg, bofZ, bof1, bof0, List.getD_cons_zero, List.getD_cons_succ, implies_true, and_true, true_and, forall_const]; first | done | omega | (refine ⟨?_, ?_⟩ <;> omega)) | (simp (disch := (first | omega | (simp only [lnS, List.length_append, List.length_map, List.length_range, List.length_replicate]; omega))) [nc, nct, w64_of, Int.toNat_natCast, Int.toNat_zero, List.length_map, rdS, at_agg, bofZ, bof1, bof0, List.getD_cons_zero, List.getD_cons_succ]; done))); cbv)
    | (refine E.c (SCalls.of_le (kl) ?_ ?_); (· (cbv; (try simp only [nc] at *); first | done | (simp; done) | (simp (disch := (first | omega | (simp only [lnS, List.length_append, List.length_map, List.length_range, List.length_replicate]; omega))) only [nc, nct, w64_of, Int.toNat_natCast, Int.toNat_zero, List.length_map, rdS, at_agg, bofZ, bof1, bof0, List.getD_cons_zero, List.getD_cons_succ, implies_true, and_true, true_and, forall_const]; first | done | omega | (refine ⟨?_, ?_⟩ <;> omega)) | (simp (disch := (first | omega | (simp only [lnS, List.length_append, List.length_map, List.length_range, List.length_replicate]; omega))) [nc, nct, w64_of, Int.toNat_natCast, Int.toNat_zero, List.length_map, rdS, at_agg, bofZ, bof1, bof0, List.getD_cons_zero, List.getD_cons_succ]; done))); cbv)
    | (refine E.c (SCalls.of_le (kn) ?_ ?_); (· (cbv; (try simp only [nc] at *); first | done | (simp; done) | (simp (disch := (first | omega | (simp only [lnS, List.length_append, List.length_map, List.length_range, List.length_replicate]; omega))) only [nc, nct, w64_of, Int.toNat_natCast, Int.toNat_zero, List.length_map, rdS, at_agg, bofZ, bof1, bof0, List.getD_cons_zero, List.getD_cons_succ, implies_true, and_true, true_and, forall_const]; first | done | omega | (refine ⟨?_, ?_⟩ <;> omega)) | (simp (disch := (first | omega | (simp only [lnS, List.length_append, List.length_map, List.length_range, List.length_replicate]; omega))) [nc, nct, w64_of, Int.toNat_natCast, Int.toNat_zero, List.length_map, rdS, at_agg, bofZ, bof1, bof0, List.getD_cons_zero, List.getD_cons_succ]; done))); cbv)
    | (refine ⟨fun _ h_s => ?_, fun _ h_s => ?_⟩ <;> (cbv; (try simp only [nc] at *); try simp (disch := (first | omega | (simp only [lnS, List.length_append, List.length_map, List.length_range, List.length_replicate]; omega))) only [nc, nct, w64_of, Int.toNat_natCast, Int.toNat_zero, List.length_map, rdS, at_agg, bofZ, bof1, bof0, List.getD_cons_zero, List.getD_cons_succ, reduceCtorEq, Bool.not_true, Bool.not_false, decide_eq_true_eq, decide_eq_false_iff_not, Bool.not_eq_true, Bool.not_eq_false, Bool.not_eq_true', Bool.not_eq_false', ne_eq, Decidable.not_not, Int.not_le, Int.not_lt, beq_iff_eq] at h_s))
    | (refine hF ?_; intro _; clear hF)
    | (refine hF ?_; cbv; clear hF)
    | (refine ⟨fun _ => ?_, ?_⟩; (· ((try simp only [nc] at *); first | done | omega | exact ⟨by omega, rfl⟩ | (simp (disch := (first | omega | (simp only [lnS, List.length_append, List.length_map, List.length_range, List.length_replicate]; omega))) only [nc, nct, w64_of, Int.toNat_natCast, Int.toNat_zero, List.length_map, rdS, at_agg, bofZ, bof1, bof0, List.getD_cons_zero, List.getD_cons_succ]; first | done | omega | rfl | exact ⟨by omega, rfl⟩ | (simp; done) | (simp; omega)) | (intros; trivial))); (try (simp only [nc] at *)); (try simp (disch := (first | omega | (simp only [lnS, List.length_append, List.length_map, List.length_range, List.length_replicate]; omega))) only [nc, nct, w64_of, Int.toNat_natCast, Int.toNat_zero, List.length_map, rdS, at_agg, bofZ, bof1, bof0, List.getD_cons_zero, List.getD_cons_succ]); (try cbv))
    | fail
  )
  refine E.loopS (ι := Nat) (fun a => a ≤ l.length ∧ (∀ j < a, (fl (l.getD j 0)).br = false)) (fun a => l.length - a) (fun a => [(28, .i fun _ => ((a : Nat) : Int))]) (fun a h => h) 0 (fun _ => by first | rfl | simp) ⟨Nat.zero_le _, ?_⟩ ?_ fun a ha I hI => ?_
  · intro k hk; omega
  · cbv; simp
  cbv
  obtain ⟨ha, hp⟩ := ha
  have hra := hr a
  repeat' (first
    | (refine hI (a + 1) ?_ ?_ ?_; rotate_left 1; (· ((try simp only [nc] at *); omega)); (cbv; clear hI; (try clear hF); (try simp only [nc] at *); (try simp (disch := (first | omega | (simp only [lnS, List.length_append, List.length_map, List.length_range, List.length_replicate]; omega))) only [nc, nct, w64_of, Int.toNat_natCast, Int.toNat_zero, List.length_map, rdS, at_agg, bofZ, bof1, bof0, List.getD_cons_zero, List.getD_cons_succ, implies_true, and_true, true_and, forall_const])); rotate_left 1; (try ((try simp only [nc] at *); omega)))
    | (refine E.de 6 [] [none] (by decide +kernel) ?_; cbv; (fail_if_success guard_target =~ False))
    | (refine ⟨fun _ h_s => ?_, fun _ h_s => ?_⟩ <;> (cbv; (try simp only [nc] at *); try simp (disch := (first | omega | (simp only [lnS, List.length_append, List.length_map, List.length_range, List.length_replicate]; omega))) only [nc, nct, w64_of, Int.toNat_natCast, Int.toNat_zero, List.length_map, rdS, at_agg, bofZ, bof1, bof0, List.getD_cons_zero, List.getD_cons_succ, reduceCtorEq, Bool.not_true, Bool.not_false, decide_eq_true_eq, decide_eq_false_iff_not, Bool.not_eq_true, Bool.not_eq_false, Bool.not_eq_true', Bool.not_eq_false', ne_eq, Decidable.not_not, Int.not_le, Int.not_lt, beq_iff_eq] at h_s))
    | (refine hF ?_; intro _; clear hF)
    | (refine hF ?_; cbv; clear hF)
    | (refine ⟨fun _ => ?_, ?_⟩; (· ((try simp only [nc] at *); first | done | omega | exact ⟨by omega, rfl⟩ | (simp (disch := (first | omega | (simp only [lnS, List.length_append, List.length_map, List.length_range, List.length_replicate]; omega))) only [nc, nct, w64_of, Int.toNat_natCast, Int.toNat_zero, List.length_map, rdS, at_agg, bofZ, bof1, bof0, List.getD_cons_zero, List.getD_cons_succ]; first | done | omega | rfl | exact ⟨by omega, rfl⟩ | (simp; done) | (simp; omega)) | (intros; trivial))); (try (simp only [nc] at *)); (try simp (disch := (first | omega | (simp only [lnS, List.length_append, List.length_map, List.length_range, List.length_replicate]; omega))) only [nc, nct, w64_of, Int.toNat_natCast, Int.toNat_zero, List.length_map, rdS, at_agg, bofZ, bof1, bof0, List.getD_cons_zero, List.getD_cons_succ]); (try cbv))
    | fail
  )
  · have ha' : a < l.length := by ((try simp only [nc] at *); omega)
    have hB1a := hB1 a ha'
    clear hB1 hB0 hr kr kn kl kf
    rcases hra ha' with e | e | e | e | e | e
    · refine ⟨1, fun _ => e, by decide, ?_⟩
      cbv
      rw [e] at hB1a
      repeat' (first
        | (refine hI (a + 1) ?_ ?_ ?_; rotate_left 1; (· ((try simp only [nc] at *); omega)); (cbv; clear hI; (try clear hF); (try simp only [nc] at *); (try simp (disch := (first | omega | (simp only [lnS, List.length_append, List.length_map, List.length_range, List.length_replicate]; omega))) only [nc, nct, w64_of, Int.toNat_natCast, Int.toNat_zero, List.length_map, rdS, at_agg, bofZ, bof1, bof0, List.getD_cons_zero, List.getD_cons_succ, implies_true, and_true, true_and, forall_const])); rotate_left 1; (try ((try simp only [nc] at *); omega)))
        | (refine E.c (SCalls.of_le (f1) ?_ ?_); (· (cbv; (try simp only [nc] at *); first | done | (simp; done) | (simp (disch := (first | omega | (simp only [lnS, List.length_append, List.length_map, List.length_range, List.length_replicate]; omega))) only [nc, nct, w64_of, Int.toNat_natCast, Int.toNat_zero, List.length_map, rdS, at_agg, bofZ, bof1, bof0, List.getD_cons_zero, List.getD_cons_succ, implies_true, and_true, true_and, forall_const]; first | done | omega | (refine ⟨?_, ?_⟩ <;> omega)) | (simp (disch := (first | omega | (simp only [lnS, List.length_append, List.length_map, List.length_range, List.length_replicate]; omega))) [nc, nct, w64_of, Int.toNat_natCast, Int.toNat_zero, List.length_map, rdS, at_agg, bofZ, bof1, bof0, List.getD_cons_zero, List.getD_cons_succ]; done))); cbv)
        | (refine E.q (QCalls.of_le (f1) ?_ ?_); (· (cbv; (try simp only [nc] at *); first | done | (simp; done) | (simp (disch := (first | omega | (simp only [lnS, List.length_append, List.length_map, List.length_range, List.length_replicate]; omega))) only [nc, nct, w64_of, Int.toNat_natCast, Int.toNat_zero, List.length_map, rdS, at_agg, bofZ, bof1, bof0, List.getD_cons_zero, List.getD_cons_succ, implies_true, and_true, true_and, forall_const]; first | done | omega | (refine ⟨?_, ?_⟩ <;> omega)) | (simp (disch := (first | omega | (simp only [lnS, List.length_append, List.length_map, List.length_range, List.length_replicate]; omega))) [nc, nct, w64_of, Int.toNat_natCast, Int.toNat_zero, List.length_map, rdS, at_agg, bofZ, bof1, bof0, List.getD_cons_zero, List.getD_cons_succ]; done))); cbv)
        | (refine ⟨fun _ h_s => ?_, fun _ h_s => ?_⟩ <;> (cbv; (try simp only [nc] at *); try simp (disch := (first | omega | (simp only [lnS, List.length_append, List.length_map, List.length_range, List.length_replicate]; omega))) only [nc, nct, w64_of, Int.toNat_natCast, Int.toNat_zero, List.length_map, rdS, at_agg, bofZ, bof1, bof0, List.getD_cons_zero, List.getD_cons_succ, reduceCtorEq, Bool.not_true, Bool.not_false, decide_eq_true_eq, decide_eq_false_iff_not, Bool.not_eq_true, Bool.not_eq_false, Bool.not_eq_true', Bool.not_eq_false', ne_eq, Decidable.not_not, Int.not_le, Int.not_lt, beq_iff_eq] at h_s))
        | (refine hF ?_; intro _; clear hF)
        | (refine hF ?_; cbv; clear hF)
        | (refine ⟨fun _ => ?_, ?_⟩; (· ((try simp only [nc] at *); first | done | omega | exact ⟨by omega, rfl⟩ | (simp (disch := (first | omega | (simp only [lnS, List.length_append, List.length_map, List.length_range, List.length_replicate]; omega))) only [nc, nct, w64_of, Int.toNat_natCast, Int.toNat_zero, List.length_map, rdS, at_agg, bofZ, bof1, bof0, List.getD_cons_zero, List.getD_cons_succ]; first | done | omega | rfl | exact ⟨by omega, rfl⟩ | (simp; done) | (simp; omega)) | (intros; trivial))); (try (simp only [nc] at *)); (try simp (disch := (first | omega | (simp only [lnS, List.length_append, List.length_map, List.length_range, List.length_replicate]; omega))) only [nc, nct, w64_of, Int.toNat_natCast, Int.toNat_zero, List.length_map, rdS, at_agg, bofZ, bof1, bof0, List.getD_cons_zero, List.getD_cons_succ]); (try cbv))
        | fail
      )
      · rw [hB1a h_s hp]
        exact ⟨⟨fun _ => e, fun _ => rfl, fun _ => rfl, trivial⟩, fun _ => rfl, trivial⟩
      · refine ⟨by ((try simp only [nc] at *); omega), fun j hj => ?_⟩
        rcases Nat.lt_or_ge j a with h1 | h1
        · exact hp j h1
        · obtain rfl : j = a := by omega
          rw [e]; assumption
      · push_cast; rfl
    · refine ⟨2, fun _ => e, by decide, ?_⟩
      cbv
      rw [e] at hB1a
      repeat' (first
        | (refine hI (a + 1) ?_ ?_ ?_; rotate_left 1; (· ((try simp only [nc] at *); omega)); (cbv; clear hI; (try clear hF); (try simp only [nc] at *); (try simp (disch := (first | omega | (simp only [lnS, List.length_append, List.length_map, List.length_range, List.length_replicate]; omega))) only [nc, nct, w64_of, Int.toNat_natCast, Int.toNat_zero, List.length_map, rdS, at_agg, bofZ, bof1, bof0, List.getD_cons_zero, List.getD_cons_succ, implies_true, and_true, true_and, forall_const])); rotate_left 1; (try ((try simp only [nc] at *); omega)))
        | (refine E.c (SCalls.of_le (f2) ?_ ?_); (· (cbv; (try simp only [nc] at *); first | done | (simp; done) | (simp (disch := (first | omega | (simp only [lnS, List.length_append, List.length_map, List.length_range, List.length_replicate]; omega))) only [nc, nct, w64_of, Int.toNat_natCast, Int.toNat_zero, List.length_map, rdS, at_agg, bofZ, bof1, bof0, List.getD_cons_zero, List.getD_cons_succ, implies_true, and_true, true_and, forall_const]; first | done | omega | (refine ⟨?_, ?_⟩ <;> omega)) | (simp (disch := (first | omega | (simp only [lnS, List.length_append, List.length_map, List.length_range, List.length_replicate]; omega))) [nc, nct, w64_of, Int.toNat_natCast, Int.toNat_zero, List.length_map, rdS, at_agg, bofZ, bof1, bof0, List.getD_cons_zero, List.getD_cons_succ]; done))); cbv)
        | (refine E.q (QCalls.of_le (f2) ?_ ?_); (· (cbv; (try simp only [nc] at *); first | done | (simp; done) | (simp (disch := (first | omega | (simp only [lnS, List.length_append, List.length_map, List.length_range, List.length_replicate]; omega))) only [nc, nct, w64_of, Int.toNat_natCast, Int.toNat_zero, List.length_map, rdS, at_agg, bofZ, bof1, bof0, List.getD_cons_zero, List.getD_cons_succ, implies_true, and_true, true_and, forall_const]; first | done | omega | (refine ⟨?_, ?_⟩ <;> omega)) | (simp (disch := (first | omega | (simp only [lnS, List.length_append, List.length_map, List.length_range, List.length_replicate]; omega))) [nc, nct, w64_of, Int.toNat_natCast, Int.toNat_zero, List.length_map, rdS, at_agg, bofZ, bof1, bof0, List.getD_cons_zero, List.getD_cons_succ]; done))); cbv)
        | (refine ⟨fun _ h_s => ?_, fun _ h_s => ?_⟩ <;> (cbv; (try simp only [nc] at *); try simp (disch := (first | omega | (simp only [lnS, List.length_append, List.length_map, List.length_range, List.length_replicate]; omega))) only [nc, nct, w64_of, Int.toNat_natCast, Int.toNat_zero, List.length_map, rdS, at_agg, bofZ, bof1, bof0, List.getD_cons_zero, List.getD_cons_succ, reduceCtorEq, Bool.not_true, Bool.not_false, decide_eq_true_eq, decide_eq_false_iff_not, Bool.not_eq_true, Bool.not_eq_false, Bool.not_eq_true', Bool.not_eq_false', ne_eq, Decidable.not_not, Int.not_le, Int.not_lt, beq_iff_eq] at h_s))
        | (refine hF ?_; intro _; clear hF)
        | (refine hF ?_; cbv; clear hF)
        | (refine ⟨fun _ => ?_, ?_⟩; (· ((try simp only [nc] at *); first | done | omega | exact ⟨by omega, rfl⟩ | (simp (disch := (first | omega | (simp only [lnS, List.length_append, List.length_map, List.length_range, List.length_replicate]; omega))) only [nc, nct, w64_of, Int.toNat_natCast, Int.toNat_zero, List.length_map, rdS, at_agg, bofZ, bof1, bof0, List.getD_cons_zero, List.getD_cons_succ]; first | done | omega | rfl | exact ⟨by omega, rfl⟩ | (simp; done) | (simp; omega)) | (intros; trivial))); (try (simp only [nc] at *)); (try simp (disch := (first | omega | (simp only [lnS, List.length_append, List.length_map, List.length_range, List.length_replicate]; omega))) only [nc, nct, w64_of, Int.toNat_natCast, Int.toNat_zero, List.length_map, rdS, at_agg, bofZ, bof1, bof0, List.getD_cons_zero, List.getD_cons_succ]); (try cbv))
        | fail
      )
      · rw [hB1a h_s hp]
        exact ⟨⟨fun _ => e, fun _ => rfl, fun _ => rfl, trivial⟩, fun _ => rfl, trivial⟩
      · refine ⟨by ((try simp only [nc] at *); omega), fun j hj => ?_⟩
        rcases Nat.lt_or_ge j a with h1 | h1
        · exact hp j h1
        · obtain rfl : j = a := by omega
          rw [e]; assumption
      · push_cast; rfl
    · refine ⟨3, fun _ => e, by decide, ?_⟩
      cbv
      rw [e] at hB1a
      repeat' (first
        | (refine hI (a + 1) ?_ ?_ ?_; rotate_left 1; (· ((try simp only [nc] at *); omega)); (cbv; clear hI; (try clear hF); (try simp only [nc] at *); (try simp (disch := (first | omega | (simp only [lnS, List.length_append, List.length_map, List.length_range, List.length_replicate]; omega))) only [nc, nct, w64_of, Int.toNat_natCast, Int.toNat_zero, List.length_map, rdS, at_agg, bofZ, bof1, bof0, List.getD_cons_zero, List.getD_cons_succ, implies_true, and_true, true_and, forall_const])); rotate_left 1; (try ((try simp only [nc] at *); omega)))
        | (refine E.c (SCalls.of_le (f3) ?_ ?_); (· (cbv; (try simp only [nc] at *); first | done | (simp; done) | (simp (disch := (first | omega | (simp only [lnS, List.length_append, List.length_map, List.length_range, List.length_replicate]; omega))) only [nc, nct, w64_of, Int.toNat_natCast, Int.toNat_zero, List.length_map, rdS, at_agg, bofZ, bof1, bof0, List.getD_cons_zero, List.getD_cons_succ, implies_true, and_true, true_and, forall_const]; first | done | omega | (refine ⟨?_, ?_⟩ <;> omega)) | (simp (disch := (first | omega | (simp only [lnS, List.length_append, List.length_map, List.length_range, List.length_replicate]; omega))) [nc, nct, w64_of, Int.toNat_natCast, Int.toNat_zero, List.length_map, rdS, at_agg, bofZ, bof1, bof0, List.getD_cons_zero, List.getD_cons_succ]; done))); cbv)
        | (refine E.q (QCalls.of_le (f3) ?_ ?_); (· (cbv; (try simp only [nc] at *); first | done | (simp; done) | (simp (disch := (first | omega | (simp only [lnS, List.length_append, List.length_map, List.length_range, List.length_replicate]; omega))) only [nc, nct, w64_of, Int.toNat_natCast, Int.toNat_zero, List.length_map, rdS, at_agg, bofZ, bof1, bof0, List.getD_cons_zero, List.getD_cons_succ, implies_true, and_true, true_and, forall_const]; first | done | omega | (refine ⟨?_, ?_⟩ <;> omega)) | (simp (disch := (first | omega | (simp only [lnS, List.length_append, List.length_map, List.length_range, List.length_replicate]; omega))) [nc, nct, w64_of, Int.toNat_natCast, Int.toNat_zero, List.length_map, rdS, at_agg, bofZ, bof1, bof0, List.getD_cons_zero, List.getD_cons_succ]; done))); cbv)
        | (refine ⟨fun _ h_s => ?_, fun _ h_s => ?_⟩ <;> (cbv; (try simp only [nc] at *); try simp (disch := (first | omega | (simp only [lnS, List.length_append, List.length_map, List.length_range, List.length_replicate]; omega))) only [nc, nct, w64_of, Int.toNat_natCast, Int.toNat_zero, List.length_map, rdS, at_agg, bofZ, bof1, bof0, List.getD_cons_zero, List.getD_cons_succ, reduceCtorEq, Bool.not_true, Bool.not_false, decide_eq_true_eq, decide_eq_false_iff_not, Bool.not_eq_true, Bool.not_eq_false, Bool.not_eq_true', Bool.not_eq_false', ne_eq, Decidable.not_not, Int.not_le, Int.not_lt, beq_iff_eq] at h_s))
        | (refine hF ?_; intro _; clear hF)
        | (refine hF ?_; cbv; clear hF)
        | (refine ⟨fun _ => ?_, ?_⟩; (· ((try simp only [nc] at *); first | done | omega | exact ⟨by omega, rfl⟩ | (simp (disch := (first | omega | (simp only [lnS, List.length_append, List.length_map, List.length_range, List.length_replicate]; omega))) only [nc, nct, w64_of, Int.toNat_natCast, Int.toNat_zero, List.length_map, rdS, at_agg, bofZ, bof1, bof0, List.getD_cons_zero, List.getD_cons_succ]; first | done | omega | rfl | exact ⟨by omega, rfl⟩ | (simp; done) | (simp; omega)) | (intros; trivial))); (try (simp only [nc] at *)); (try simp (disch := (first | omega | (simp only [lnS, List.length_append, List.length_map, List.length_range, List.length_replicate]; omega))) only [nc, nct, w64_of, Int.toNat_natCast, Int.toNat_zero, List.length_map, rdS, at_agg, bofZ, bof1, bof0, List.getD_cons_zero, List.getD_cons_succ]); (try cbv))
        | fail
      )
      · rw [hB1a h_s hp]
        exact ⟨⟨fun _ => e, fun _ => rfl, fun _ => rfl, trivial⟩, fun _ => rfl, trivial⟩
      · refine ⟨by ((try simp only [nc] at *); omega), fun j hj => ?_⟩
        rcases Nat.lt_or_ge j a with h1 | h1
        · exact hp j h1
        · obtain rfl : j = a := by omega
          rw [e]; assumption
      · push_cast; rfl
    · refine ⟨4, fun _ => e, by decide, ?_⟩
      cbv
      rw [e] at hB1a
      repeat' (first
        | (refine hI (a + 1) ?_ ?_ ?_; rotate_left 1; (· ((try simp only [nc] at *); omega)); (cbv; clear hI; (try clear hF); (try simp only [nc] at *); (try simp (disch := (first | omega | (simp only [lnS, List.length_append, List.length_map, List.length_range, List.length_replicate]; omega))) only [nc, nct, w64_of, Int.toNat_natCast, Int.toNat_zero, List.length_map, rdS, at_agg, bofZ, bof1, bof0, List.getD_cons_zero, List.getD_cons_succ, implies_true, and_true, true_and, forall_const])); rotate_left 1; (try ((try simp only [nc] at *); omega)))
        | (refine E.c (SCalls.of_le (f4) ?_ ?_); (· (cbv; (try simp only [nc] at *); first | done | (simp; done) | (simp (disch := (first | omega | (simp only [lnS, List.length_append, List.length_map, List.length_range, List.length_replicate]; omega))) only [nc, nct, w64_of, Int.toNat_natCast, Int.toNat_zero, List.length_map, rdS, at_agg, bofZ, bof1, bof0, List.getD_cons_zero, List.getD_cons_succ, implies_true, and_true, true_and, forall_const]; first | done | omega | (refine ⟨?_, ?_⟩ <;> omega)) | (simp (disch := (first | omega | (simp only [lnS, List.length_append, List.length_map, List.length_range, List.length_replicate]; omega))) [nc, nct, w64_of, Int.toNat_natCast, Int.toNat_zero, List.length_map, rdS, at_agg, bofZ, bof1, bof0, List.getD_cons_zero, List.getD_cons_succ]; done))); cbv)
        | (refine E.q (QCalls.of_le (f4) ?_ ?_); (· (cbv; (try simp only [nc] at *); first | done | (simp; done) | (simp (disch := (first | omega | (simp only [lnS, List.length_append, List.length_map, List.length_range, List.length_replicate]; omega))) only [nc, nct, w64_of, Int.toNat_natCast, Int.toNat_zero, List.length_map, rdS, at_agg, bofZ, bof1, bof0, List.getD_cons_zero, List.getD_cons_succ, implies_true, and_true, true_and, forall_const]; first | done | omega | (refine ⟨?_, ?_⟩ <;> omega)) | (simp (disch := (first | omega | (simp only [lnS, List.length_append, List.length_map, List.length_range, List.length_replicate]; omega))) [nc, nct, w64_of, Int.toNat_natCast, Int.toNat_zero, List.length_map, rdS, at_agg, bofZ, bof1, bof0, List.getD_cons_zero, List.getD_cons_succ]; done))); cbv)
        | (refine ⟨fun _ h_s => ?_, fun _ h_s => ?_⟩ <;> (cbv; (try simp only [nc] at *); try simp (disch := (first | omega | (simp only [lnS, List.length_append, List.length_map, List.length_range, List.length_replicate]; omega))) only [nc, nct, w64_of, Int.toNat_natCast, Int.toNat_zero, List.length_map, rdS, at_agg, bofZ, bof1, bof0, List.getD_cons_zero, List.getD_cons_succ, reduceCtorEq, Bool.not_true, Bool.not_false, decide_eq_true_eq, decide_eq_false_iff_not, Bool.not_eq_true, Bool.not_eq_false, Bool.not_eq_true', Bool.not_eq_false', ne_eq, Decidable.not_not, Int.not_le, Int.not_lt, beq_iff_eq] at h_s))
        | (refine hF ?_; intro _; clear hF)
        | (refine hF ?_; cbv; clear hF)
        | (refine ⟨fun _ => ?_, ?_⟩; (· ((try simp only [nc] at *); first | done | omega | exact ⟨by omega, rfl⟩ | (simp (disch := (first | omega | (simp only [lnS, List.length_append, List.length_map, List.length_range, List.length_replicate]; omega))) only [nc, nct, w64_of, Int.toNat_natCast, Int.toNat_zero, List.length_map, rdS, at_agg, bofZ, bof1, bof0, List.getD_cons_zero, List.getD_cons_succ]; first | done | omega | rfl | exact ⟨by omega, rfl⟩ | (simp; done) | (simp; omega)) | (intros; trivial))); (try (simp only [nc] at *)); (try simp (disch := (first | omega | (simp only [lnS, List.length_append, List.length_map, List.length_range, List.length_replicate]; omega))) only [nc, nct, w64_of, Int.toNat_natCast, Int.toNat_zero, List.length_map, rdS, at_agg, bofZ, bof1, bof0, List.getD_cons_zero, List.getD_cons_succ]); (try cbv))
        | fail
      )
      · rw [hB1a h_s hp]
        exact ⟨⟨fun _ => e, fun _ => rfl, fun _ => rfl, trivial⟩, fun _ => rfl, trivial⟩
      · refine ⟨by ((try simp only [nc] at *); omega), fun j hj => ?_⟩
        rcases Nat.lt_or_ge j a with h1 | h1
        · exact hp j h1
        · obtain rfl : j = a := by omega
          rw [e]; assumption
      · push_cast; rfl
    · refine ⟨5, fun _ => e, by decide, ?_⟩
      cbv
      rw [e] at hB1a
      repeat' (first
        | (refine hI (a + 1) ?_ ?_ ?_; rotate_left 1; (· ((try simp only [nc] at *); omega)); (cbv; clear hI; (try clear hF); (try simp only [nc] at *); (try simp (disch := (first | omega | (simp only [lnS, List.length_append, List.length_map, List.length_range, List.length_replicate]; omega))) only [nc, nct, w64_of, Int.toNat_natCast, Int.toNat_zero, List.length_map, rdS, at_agg, bofZ, bof1, bof0, List.getD_cons_zero, List.getD_cons_succ, implies_true, and_true, true_and, forall_const])); rotate_left 1; (try ((try simp only [nc] at *); omega)))
        | (refine E.c (SCalls.of_le (f5) ?_ ?_); (· (cbv; (try simp only [nc] at *); first | done | (simp; done) | (simp (disch := (first | omega | (simp only [lnS, List.length_append, List.length_map, List.length_range, List.length_replicate]; omega))) only [nc, nct, w64_of, Int.toNat_natCast, Int.toNat_zero, List.length_map, rdS, at_agg, bofZ, bof1, bof0, List.getD_cons_zero, List.getD_cons_succ, implies_true, and_true, true_and, forall_const]; first | done | omega | (refine ⟨?_, ?_⟩ <;> omega)) | (simp (disch := (first | omega | (simp only [lnS, List.length_append, List.length_map, List.length_range, List.length_replicate]; omega))) [nc, nct, w64_of, Int.toNat_natCast, Int.toNat_zero, List.length_map, rdS, at_agg, bofZ, bof1, bof0, List.getD_cons_zero, List.getD_cons_succ]; done))); cbv)
        | (refine E.q (QCalls.of_le (f5) ?_ ?_); (· (cbv; (try simp only [nc] at *); first | done | (simp; done) | (simp (disch := (first | omega | (simp only [lnS, List.length_append, List.length_map, List.length_range, List.length_replicate]; omega))) only [nc, nct, w64_of, Int.toNat_natCast, Int.toNat_zero, List.length_map, rdS, at_agg, bofZ, bof1, bof0, List.getD_cons_zero, List.getD_cons_succ, implies_true, and_true, true_and, forall_const]; first | done | omega | (refine ⟨?_, ?_⟩ <;> omega)) | (simp (disch := (first | omega | (simp only [lnS, List.length_append, List.length_map, List.length_range, List.length_replicate]; omega))) [nc, nct, w64_of, Int.toNat_natCast, Int.toNat_zero, List.length_map, rdS, at_agg, bofZ, bof1, bof0, List.getD_cons_zero, List.getD_cons_succ]; done))); cbv)
        | (refine ⟨fun _ h_s => ?_, fun _ h_s => ?_⟩ <;> (cbv; (try simp only [nc] at *); try simp (disch := (first | omega | (simp only [lnS, List.length_append, List.length_map, List.length_range, List.length_replicate]; omega))) only [nc, nct, w64_of, Int.toNat_natCast, Int.toNat_zero, List.length_map, rdS, at_agg, bofZ, bof1, bof0, List.getD_cons_zero, List.getD_cons_succ, reduceCtorEq, Bool.not_true, Bool.not_false, decide_eq_true_eq, decide_eq_false_iff_not, Bool.not_eq_true, Bool.not_eq_false, Bool.not_eq_true', Bool.not_eq_false', ne_eq, Decidable.not_not, Int.not_le, Int.not_lt, beq_iff_eq] at h_s))
        | (refine hF ?_; intro _; clear hF)
        | (refine hF ?_; cbv; clear hF)
        | (refine ⟨fun _ => ?_, ?_⟩; (· ((try simp only [nc] at *); first | done | omega | exact ⟨by omega, rfl⟩ | (simp (disch := (first | omega | (simp only [lnS, List.length_append, List.length_map, List.length_range, List.length_replicate]; omega))) only [nc, nct, w64_of, Int.toNat_natCast, Int.toNat_zero, List.length_map, rdS, at_agg, bofZ, bof1, bof0, List.getD_cons_zero, List.getD_cons_succ]; first | done | omega | rfl | exact ⟨by omega, rfl⟩ | (simp; done) | (simp; omega)) | (intros; trivial))); (try (simp only [nc] at *)); (try simp (disch := (first | omega | (simp only [lnS, List.length_append, List.length_map, List.length_range, List.length_replicate]; omega))) only [nc, nct, w64_of, Int.toNat_natCast, Int.toNat_zero, List.length_map, rdS, at_agg, bofZ, bof1, bof0, List.getD_cons_zero, List.getD_cons_succ]); (try cbv))
        | fail
      )
      · rw [hB1a h_s hp]
        exact ⟨⟨fun _ => e, fun _ => rfl, fun _ => rfl, trivial⟩, fun _ => rfl, trivial⟩
      · refine ⟨by ((try simp only [nc] at *); omega), fun j hj => ?_⟩
        rcases Nat.lt_or_ge j a with h1 | h1
        · exact hp j h1
        · obtain rfl : j = a := by omega
          rw [e]; assumption
      · push_cast; rfl
    · refine ⟨6, fun _ => e, by decide, ?_⟩
      cbv
      rw [e] at hB1a
      repeat' (first
        | (refine hI (a + 1) ?_ ?_ ?_; rotate_left 1; (· ((try simp only [nc] at *); omega)); (cbv; clear hI; (try clear hF); (try simp only [nc] at *); (try simp (disch := (first | omega | (simp only [lnS, List.length_append, List.length_map, List.length_range, List.length_replicate]; omega))) only [nc, nct, w64_of, Int.toNat_natCast, Int.toNat_zero, List.length_map, rdS, at_agg, bofZ, bof1, bof0, List.getD_cons_zero, List.getD_cons_succ, implies_true, and_true, true_and, forall_const])); rotate_left 1; (try ((try simp only [nc] at *); omega)))
        | (refine E.c (SCalls.of_le (f6) ?_ ?_); (· (cbv; (try simp only [nc] at *); first | done | (simp; done) | (simp (disch := (first | omega | (simp only [lnS, List.length_append, List.length_map, List.length_range, List.length_replicate]; omega))) only [nc, nct, w64_of, Int.toNat_natCast, Int.toNat_zero, List.length_map, rdS, at_agg, bofZ, bof1, bof0, List.getD_cons_zero, List.getD_cons_succ, implies_true, and_true, true_and, forall_const]; first | done | omega | (refine ⟨?_, ?_⟩ <;> omega)) | (simp (disch := (first | omega | (simp only [lnS, List.length_append, List.length_map, List.length_range, List.length_replicate]; omega))) [nc, nct, w64_of, Int.toNat_natCast, Int.toNat_zero, List.length_map, rdS, at_agg, bofZ, bof1, bof0, List.getD_cons_zero, List.getD_cons_succ]; done))); cbv)
        | (refine E.q (QCalls.of_le (f6) ?_ ?_); (· (cbv; (try simp only [nc] at *); first | done | (simp; done) | (simp (disch := (first | omega | (simp only [lnS, List.length_append, List.length_map, List.length_range, List.length_replicate]; omega))) only [nc, nct, w64_of, Int.toNat_natCast, Int.toNat_zero, List.length_map, rdS, at_agg, bofZ, bof1, bof0, List.getD_cons_zero, List.getD_cons_succ, implies_true, and_true, true_and, forall_const]; first | done | omega | (refine ⟨?_, ?_⟩ <;> omega)) | (simp (disch := (first | omega | (simp only [lnS, List.length_append, List.length_map, List.length_range, List.length_replicate]; omega))) [nc, nct, w64_of, Int.toNat_natCast, Int.toNat_zero, List.length_map, rdS, at_agg, bofZ, bof1, bof0, List.getD_cons_zero, List.getD_cons_succ]; done))); cbv)
        | (refine ⟨fun _ h_s => ?_, fun _ h_s => ?_⟩ <;> (cbv; (try simp only [nc] at *); try simp (disch := (first | omega | (simp only [lnS, List.length_append, List.length_map, List.length_range, List.length_replicate]; omega))) only [nc, nct, w64_of, Int.toNat_natCast, Int.toNat_zero, List.length_map, rdS, at_agg, bofZ, bof1, bof0, List.getD_cons_zero, List.getD_cons_succ, reduceCtorEq, Bool.not_true, Bool.not_false, decide_eq_true_eq, decide_eq_false_iff_not, Bool.not_eq_true, Bool.not_eq_false, Bool.not_eq_true', Bool.not_eq_false', ne_eq, Decidable.not_not, Int.not_le, Int.not_lt, beq_iff_eq] at h_s))
        | (refine hF ?_; intro _; clear hF)
        | (refine hF ?_; cbv; clear hF)
        | (refine ⟨fun _ => ?_, ?_⟩; (· ((try simp only [nc] at *); first | done | omega | exact ⟨by omega, rfl⟩ | (simp (disch := (first | omega | (simp only [lnS, List.length_append, List.length_map, List.length_range, List.length_replicate]; omega))) only [nc, nct, w64_of, Int.toNat_natCast, Int.toNat_zero, List.length_map, rdS, at_agg, bofZ, bof1, bof0, List.getD_cons_zero, List.getD_cons_succ]; first | done | omega | rfl | exact ⟨by omega, rfl⟩ | (simp; done) | (simp; omega)) | (intros; trivial))); (try (simp only [nc] at *)); (try simp (disch := (first | omega | (simp only [lnS, List.length_append, List.length_map, List.length_range, List.length_replicate]; omega))) only [nc, nct, w64_of, Int.toNat_natCast, Int.toNat_zero, List.length_map, rdS, at_agg, bofZ, bof1, bof0, List.getD_cons_zero, List.getD_cons_succ]); (try cbv))
        | fail
      )
      · rw [hB1a h_s hp]
        exact ⟨⟨fun _ => e, fun _ => rfl, fun _ => rfl, trivial⟩, fun _ => rfl, trivial⟩
      · refine ⟨by ((try simp only [nc] at *); omega), fun j hj => ?_⟩
        rcases Nat.lt_or_ge j a with h1 | h1
        · exact hp j h1
        · obtain rfl : j = a := by omega
          rw [e]; assumption
      · push_cast; rfl
  · have e : a = l.length := by ((try simp only [nc] at *); omega)
    subst e
    rw [hB0 hp]
    simp
theorem mcheck_ok (m : Int) (g : Gr) (b : Bk) (kw : Pure Tryd.prog γ false 8 [.i fun _ => m, aGr g] (aBk b)) : Pure Tryd.prog γ false 4 [.i fun _ => m, aGr g] (.tup [.b fun _ => decide (m = 1 ∨ m = 2) && !b.br, .i fun _ => if m = 1 ∨ m = 2 then 0 else 2]) := by
  have kn := known_ok (γ := γ) m
  by_cases hm : m = 1 ∨ m = 2
  · rw [decide_eq_true hm] at kn ⊢
    rw [if_pos hm]
    refine Pure.go (ty := ty) ty_eq mo Tryd.func4 rfl Tryd.ntmps4 Tryd.results4 Tryd.call4 (by simp) fun P C CQ D W F E hF => ?_
    cbv
    repeat' (first
      | (refine E.c (SCalls.of_le (kw) ?_ ?_); (· (cbv; (try simp only [nc] at *); first | done | (simp; done) | (simp (disch := (first | omega | (simp only [lnS, List.length_append, List.length_map, List.length_range, List.length_replicate]; omega))) only [nc, nct, w64_of, Int.toNat_natCast, Int.toNat_zero, List.length_map, rdS, at_agg, bofZ, bof1, bof0, List.getD_cons_zero, List.getD_cons_succ, implies_true, and_true, true_and, forall_const]; first | done | omega | (refine ⟨?_, ?_⟩ <;> omega)) | (simp (disch := (first | omega | (simp only [lnS, List.length_append, List.length_map, List.length_range, List.length_replicate]; omega))) [nc, nct, w64_of, Int.toNat_natCast, Int.toNat_zero, List.length_map, rdS, at_agg, bofZ, bof1, bof0, List.getD_cons_zero, List.getD_cons_succ]; done))); cbv)
      | (refine E.c (SCalls.of_le (kn) ?_ ?_); (· (cbv; (try simp only [nc] at *); first | done | (simp; done) | (simp (disch := (first | omega | (simp only [lnS, List.length_append, List.length_map, List.length_range, List.length_replicate]; omega))) only [nc, nct, w64_of, Int.toNat_natCast, Int.toNat_zero, List.length_map, rdS, at_agg, bofZ, bof1, bof0, List.getD_cons_zero, List.getD_cons_succ, implies_true, and_true, true_and, forall_const]; first | done | omega | (refine ⟨?_, ?_⟩ <;> omega)) | (simp (disch := (first | omega | (simp only [lnS, List.length_append, List.length_map, List.length_range, List.length_replicate]; omega))) [nc, nct, w64_of, Int.toNat_natCast, Int.toNat_zero, List.length_map, rdS, at_agg, bofZ, bof1, bof0, List.getD_cons_zero, List.getD_cons_succ]; done))); cbv)
      | (refine ⟨fun _ h_s => ?_, fun _ h_s => ?_⟩ <;> (cbv; (try simp only [nc] at *); try simp (disch := (first | omega | (simp only [lnS, List.length_append, List.length_map, List.length_range, List.length_replicate]; omega))) only [nc, nct, w64_of, Int.toNat_natCast, Int.toNat_zero, List.length_map, rdS, at_agg, bofZ, bof1, bof0, List.getD_cons_zero, List.getD_cons_succ, reduceCtorEq, Bool.not_true, Bool.not_false, decide_eq_true_eq, decide_eq_false_iff_not, Bool.not_eq_true, Bool.not_eq_false, Bool.not_eq_true', Bool.not_eq_false', ne_eq, Decidable.not_not, Int.not_le, Int.not_lt, beq_iff_eq] at h_s))
      | (refine hF ?_; intro _; clear hF)
      | (refine hF ?_; cbv; clear hF)
      | (refine ⟨fun _ => ?_, ?_⟩; (· ((try simp only [nc] at *); first | done | omega | exact ⟨by omega, rfl⟩ | (simp (disch := (first | omega | (simp only [lnS, List.length_append, List.length_map, List.length_range, List.length_replicate]; omega))) only [nc, nct, w64_of, Int.toNat_natCast, Int.toNat_zero, List.length_map, rdS, at_agg, bofZ, bof1, bof0, List.getD_cons_zero, List.getD_cons_succ]; first | done | omega | rfl | exact ⟨by omega, rfl⟩ | (simp; done) | (simp; omega)) | (intros; trivial))); (try (simp only [nc] at *)); (try simp (disch := (first | omega | (simp only [lnS, List.length_append, List.length_map, List.length_range, List.length_replicate]; omega))) only [nc, nct, w64_of, Int.toNat_natCast, Int.toNat_zero, List.length_map, rdS, at_agg, bofZ, bof1, bof0, List.getD_cons_zero, List.getD_cons_succ]); (try cbv))
      | fail
    )
  · rw [decide_eq_false hm] at kn ⊢
    rw [if_neg hm]
    refine Pure.go (ty := ty) ty_eq mo Tryd.func4 rfl Tryd.ntmps4 Tryd.results4 Tryd.call4 (by simp) fun P C CQ D W F E hF => ?_
    cbv
    repeat' (first
      | (refine E.c (SCalls.of_le (kn) ?_ ?_); (· (cbv; (try simp only [nc] at *); first | done | (simp; done) | (simp (disch := (first | omega | (simp only [lnS, List.length_append, List.length_map, List.length_range, List.length_replicate]; omega))) only [nc, nct, w64_of, Int.toNat_natCast, Int.toNat_zero, List.length_map, rdS, at_agg, bofZ, bof1, bof0, List.getD_cons_zero, List.getD_cons_succ, implies_true, and_true, true_and, forall_const]; first | done | omega | (refine ⟨?_, ?_⟩ <;> omega)) | (simp (disch := (first | omega | (simp only [lnS, List.length_append, List.length_map, List.length_range, List.length_replicate]; omega))) [nc, nct, w64_of, Int.toNat_natCast, Int.toNat_zero, List.length_map, rdS, at_agg, bofZ, bof1, bof0, List.getD_cons_zero, List.getD_cons_succ]; done))); cbv)
      | (refine ⟨fun _ h_s => ?_, fun _ h_s => ?_⟩ <;> (cbv; (try simp only [nc] at *); try simp (disch := (first | omega | (simp only [lnS, List.length_append, List.length_map, List.length_range, List.length_replicate]; omega))) only [nc, nct, w64_of, Int.toNat_natCast, Int.toNat_zero, List.length_map, rdS, at_agg, bofZ, bof1, bof0, List.getD_cons_zero, List.getD_cons_succ, reduceCtorEq, Bool.not_true, Bool.not_false, decide_eq_true_eq, decide_eq_false_iff_not, Bool.not_eq_true, Bool.not_eq_false, Bool.not_eq_true', Bool.not_eq_false', ne_eq, Decidable.not_not, Int.not_le, Int.not_lt, beq_iff_eq] at h_s))
      | (refine hF ?_; intro _; clear hF)
      | (refine hF ?_; cbv; clear hF)
      | (refine ⟨fun _ => ?_, ?_⟩; (· ((try simp only [nc] at *); first | done | omega | exact ⟨by omega, rfl⟩ | (simp (disch := (first | omega | (simp only [lnS, List.length_append, List.length_map, List.length_range, List.length_replicate]; omega))) only [nc, nct, w64_of, Int.toNat_natCast, Int.toNat_zero, List.length_map, rdS, at_agg, bofZ, bof1, bof0, List.getD_cons_zero, List.getD_cons_succ]; first | done | omega | rfl | exact ⟨by omega, rfl⟩ | (simp; done) | (simp; omega)) | (intros; trivial))); (try (simp only [nc] at *)); (try simp (disch := (first | omega | (simp only [lnS, List.length_append, List.length_map, List.length_range, List.length_replicate]; omega))) only [nc, nct, w64_of, Int.toNat_natCast, Int.toNat_zero, List.length_map, rdS, at_agg, bofZ, bof1, bof0, List.getD_cons_zero, List.getD_cons_succ]); (try cbv))
      | fail
    )
end Go.AL.Rl

namespace Go.AL.Rl
open Go Go.AL Go.Proofs
set_option maxRecDepth 100000
set_option maxHeartbeats 3200000
variable {γ : Nat → Option AV}

theorem kN_of {g : Gr} (h : GOk g) {k : Nat} (hk : k < nG g) (h0 : g.init.length ≤ k) : ∃ t i, t < g.th.length ∧ i < (g.th.getD t []).length ∧ k = kN g t i := by
  have key : ∀ T, T ≤ g.th.length → g.init.length + (evsT g T).length ≤ k ∨ ∃ t i, t < T ∧ i < (g.th.getD t []).length ∧ k = kN g t i := by
    intro T
    induction T with
    | zero => intro _; left; simpa [evsT] using h0
    | succ T ih =>
      intro hT
      rcases ih (by omega) with h1 | ⟨t, i, h1, h2, h3⟩
      · rcases Nat.lt_or_ge k (g.init.length + (evsT g T).length + (g.th.getD T []).length) with h2 | h2
        · exact .inr ⟨T, k - (g.init.length + (evsT g T).length), by omega, by omega, by unfold kN; omega⟩
        · left; rw [evsT_succ, List.length_append]; omega
      · exact .inr ⟨t, i, by omega, h2, h3⟩
  rcases key g.th.length (Nat.le_refl _) with h1 | ⟨t, i, h1, h2, h3⟩
  · have := kN_end g
    unfold kN at this
    omega
  · exact ⟨t, i, h1, h2, h3⟩
theorem ids_init {g : Gr} {k : Nat} (hk : k < g.init.length) : (idsG g).getD k id0 = ⟨0, (k : Int)⟩ := by
  unfold idsG
  rw [List.getD_eq_getElem?_getD, List.getElem?_append_left (by rw [idsI_len]; exact hk)]
  simp [idsI, hk]
theorem kN_mono {g : Gr} {t t' i : Nat} (h : t < t') : g.init.length + (evsT g t).length + (g.th.getD t []).length ≤ kN g t' i := by
  have : ∀ d, (evsT g t).length + (g.th.getD t []).length ≤ (evsT g (t + 1 + d)).length := by
    intro d
    induction d with
    | zero => rw [Nat.add_zero, evsT_succ, List.length_append]; exact Nat.le_refl _
    | succ d ih => rw [← Nat.add_assoc, evsT_succ, List.length_append]; omega
  have := this (t' - (t + 1))
  rw [show t + 1 + (t' - (t + 1)) = t' by omega] at this
  unfold kN; omega
theorem at_ok (g : Gr) (hg : Rd g) (h : GOk g) (k : Nat) (hk : k < nG g) : Pure Tryd.prog γ false 19 [aGr g, .i fun _ => (k : Int)] (.tup [aId ((idsG g).getD k id0), .b fun _ => true]) := by
  have kc := gcheck_ok (γ := γ) g hg
  rw [gcheck0 h] at kc
  have hn := (viewG_wf h).small
  have hth := h.short.th
  have hin := h.short.init
  have hle : ∀ t, (g.th.getD t []).length ≤ 14 := h.short.at
  rcases Nat.lt_or_ge k g.init.length with h0 | h0
  · rw [ids_init h0]
    refine Pure.go (ty := ty) ty_eq mo Tryd.func19 rfl Tryd.ntmps19 Tryd.results19 Tryd.call19 (by simp) fun P C CQ D W F E hF => ?_
    cbv
    repeat' (first
      | (refine E.c (SCalls.of_le (kc) ?_ ?_); (· (cbv; (try simp only [nc] at *); first | done | (simp; done) | (simp (disch := (first | omega | (simp only [lnS, List.length_append, List.length_map, List.length_range, List.length_replicate]; omega))) only [nc, nct, w64_of, Int.toNat_natCast, Int.toNat_zero, List.length_map, rdS, at_agg, bofZ, bof1, bof0, List.getD_cons_zero, List.getD_cons_succ, implies_true, and_true, true_and, forall_const]; first | done | omega | (refine ⟨?_, ?_⟩ <;> omega)) | (simp (disch := (first | omega | (simp only [lnS, List.length_append, List.length_map, List.length_range, List.length_replicate]; omega))) [nc, nct, w64_of, Int.toNat_natCast, Int.toNat_zero, List.length_map, rdS, at_agg, bofZ, bof1, bof0, List.getD_cons_zero, List.getD_cons_succ]; done))); cbv)
      | (refine ⟨fun _ h_s => ?_, fun _ h_s => ?_⟩ <;> (cbv; (try simp only [nc] at *); try simp (disch := (first | omega | (simp only [lnS, List.length_append, List.length_map, List.length_range, List.length_replicate]; omega))) only [nc, nct, w64_of, Int.toNat_natCast, Int.toNat_zero, List.length_map, rdS, at_agg, bofZ, bof1, bof0, List.getD_cons_zero, List.getD_cons_succ, reduceCtorEq, Bool.not_true, Bool.not_false, decide_eq_true_eq, decide_eq_false_iff_not, Bool.not_eq_true, Bool.not_eq_false, Bool.not_eq_true', Bool.not_eq_false', ne_eq, Decidable.not_not, Int.not_le, Int.not_lt, beq_iff_eq] at h_s))
      | (refine hF ?_; intro _; clear hF)
      | (refine hF ?_; cbv; clear hF)
      | (refine ⟨fun _ => ?_, ?_⟩; (· ((try simp only [nc] at *); first | done | omega | exact ⟨by omega, rfl⟩ | (simp (disch := (first | omega | (simp only [lnS, List.length_append, List.length_map, List.length_range, List.length_replicate]; omega))) only [nc, nct, w64_of, Int.toNat_natCast, Int.toNat_zero, List.length_map, rdS, at_agg, bofZ, bof1, bof0, List.getD_cons_zero, List.getD_cons_succ]; first | done | omega | rfl | exact ⟨by omega, rfl⟩ | (simp; done) | (simp; omega)) | (intros; trivial))); (try (simp only [nc] at *)); (try simp (disch := (first | omega | (simp only [lnS, List.length_append, List.length_map, List.length_range, List.length_replicate]; omega))) only [nc, nct, w64_of, Int.toNat_natCast, Int.toNat_zero, List.length_map, rdS, at_agg, bofZ, bof1, bof0, List.getD_cons_zero, List.getD_cons_succ]); (try cbv))
      | fail
    )
    · exfalso; revert h_s; simp
    · exfalso; ((try simp only [nc] at *); omega)
    · simp
    · exfalso; ((try simp only [nc] at *); omega)
  · obtain ⟨t0, i0, h1, h2, h3⟩ := kN_of h hk h0
    have hd := (kN_ids h1 h2).2
    rw [← h3] at hd
    rw [hd]
    have hm : ∀ t, t < t0 → g.init.length + (evsT g t).length + (g.th.getD t []).length ≤ k := fun t ht => by rw [h3]; exact kN_mono ht
    have hs : ∀ t, g.init.length + (evsT g (t + 1)).length = g.init.length + (evsT g t).length + (g.th.getD t []).length := fun t => by rw [evsT_succ, List.length_append]; omega
    have h4 : k = g.init.length + (evsT g t0).length + i0 := h3
    have hz : (evsT g 0).length = 0 := rfl
    obtain ⟨E', hE'⟩ : ∃ E' : Nat → Nat, ∀ t, E' t = g.init.length + (evsT g t).length := ⟨_, fun _ => rfl⟩
    simp only [← hE'] at hm hs h4
    have hE0 : E' 0 = g.init.length := by rw [hE', hz]; rfl
    clear hE' hd hz h3
    refine Pure.go (ty := ty) ty_eq mo Tryd.func19 rfl Tryd.ntmps19 Tryd.results19 Tryd.call19 (by simp) fun P C CQ D W F E hF => ?_
    cbv
    repeat' (first
      | (refine E.c (SCalls.of_le (kc) ?_ ?_); (· (cbv; (try simp only [nc] at *); first | done | (simp; done) | (simp (disch := (first | omega | (simp only [lnS, List.length_append, List.length_map, List.length_range, List.length_replicate]; omega))) only [nc, nct, w64_of, Int.toNat_natCast, Int.toNat_zero, List.length_map, rdS, at_agg, bofZ, bof1, bof0, List.getD_cons_zero, List.getD_cons_succ, implies_true, and_true, true_and, forall_const]; first | done | omega | (refine ⟨?_, ?_⟩ <;> omega)) | (simp (disch := (first | omega | (simp only [lnS, List.length_append, List.length_map, List.length_range, List.length_replicate]; omega))) [nc, nct, w64_of, Int.toNat_natCast, Int.toNat_zero, List.length_map, rdS, at_agg, bofZ, bof1, bof0, List.getD_cons_zero, List.getD_cons_succ]; done))); cbv)
      | (refine ⟨fun _ h_s => ?_, fun _ h_s => ?_⟩ <;> (cbv; (try simp only [nc] at *); try simp (disch := (first | omega | (simp only [lnS, List.length_append, List.length_map, List.length_range, List.length_replicate]; omega))) only [nc, nct, w64_of, Int.toNat_natCast, Int.toNat_zero, List.length_map, rdS, at_agg, bofZ, bof1, bof0, List.getD_cons_zero, List.getD_cons_succ, reduceCtorEq, Bool.not_true, Bool.not_false, decide_eq_true_eq, decide_eq_false_iff_not, Bool.not_eq_true, Bool.not_eq_false, Bool.not_eq_true', Bool.not_eq_false', ne_eq, Decidable.not_not, Int.not_le, Int.not_lt, beq_iff_eq] at h_s))
      | (refine hF ?_; intro _; clear hF)
      | (refine hF ?_; cbv; clear hF)
      | (refine ⟨fun _ => ?_, ?_⟩; (· ((try simp only [nc] at *); first | done | omega | exact ⟨by omega, rfl⟩ | (simp (disch := (first | omega | (simp only [lnS, List.length_append, List.length_map, List.length_range, List.length_replicate]; omega))) only [nc, nct, w64_of, Int.toNat_natCast, Int.toNat_zero, List.length_map, rdS, at_agg, bofZ, bof1, bof0, List.getD_cons_zero, List.getD_cons_succ]; first | done | omega | rfl | exact ⟨by omega, rfl⟩ | (simp; done) | (simp; omega)) | (intros; trivial))); (try (simp only [nc] at *)); (try simp (disch := (first | omega | (simp only [lnS, List.length_append, List.length_map, List.length_range, List.length_replicate]; omega))) only [nc, nct, w64_of, Int.toNat_natCast, Int.toNat_zero, List.length_map, rdS, at_agg, bofZ, bof1, bof0, List.getD_cons_zero, List.getD_cons_succ]); (try cbv))
      | fail
    )
    · exfalso; revert h_s; simp
    · exfalso; ((try simp only [nc] at *); omega)
    · exfalso; ((try simp only [nc] at *); omega)
    refine E.loopS (ι := Nat) (fun t => t ≤ g.th.length ∧ (t ≤ t0)) (fun t => g.th.length - t) (fun t => [(31, .i fun _ => ((t : Nat) : Int)), (1, .i fun _ => ((k - E' t : Nat) : Int))]) (fun t h => h) 0 (fun _ => by first | rfl | simp) ⟨Nat.zero_le _, ?_⟩ ?_ fun t ht I hI => ?_
    · omega
    · cbv
      simp only [hE0]
      (try simp only [nc] at *)
      have e : w64 ((k : Int) - g.init.length) = ((k - g.init.length : Nat) : Int) := by rw [w64_of (by omega) (by omega)]; omega
      simp [e]
    cbv
    obtain ⟨ht, hp⟩ := ht
    have hmt := hm t
    have hst := hs t
    have hlt := hle t
    repeat' (first
      | (refine hI (t + 1) ?_ ?_ ?_; rotate_left 1; (· ((try simp only [nc] at *); omega)); (cbv; clear hI; (try clear hF); (try simp only [nc] at *); (try simp (disch := (first | omega | (simp only [lnS, List.length_append, List.length_map, List.length_range, List.length_replicate]; omega))) only [nc, nct, w64_of, Int.toNat_natCast, Int.toNat_zero, List.length_map, rdS, at_agg, bofZ, bof1, bof0, List.getD_cons_zero, List.getD_cons_succ, implies_true, and_true, true_and, forall_const])); rotate_left 1; (try ((try simp only [nc] at *); omega)))
      | (refine ⟨fun _ h_s => ?_, fun _ h_s => ?_⟩ <;> (cbv; (try simp only [nc] at *); try simp (disch := (first | omega | (simp only [lnS, List.length_append, List.length_map, List.length_range, List.length_replicate]; omega))) only [nc, nct, w64_of, Int.toNat_natCast, Int.toNat_zero, List.length_map, rdS, at_agg, bofZ, bof1, bof0, List.getD_cons_zero, List.getD_cons_succ, reduceCtorEq, Bool.not_true, Bool.not_false, decide_eq_true_eq, decide_eq_false_iff_not, Bool.not_eq_true, Bool.not_eq_false, Bool.not_eq_true', Bool.not_eq_false', ne_eq, Decidable.not_not, Int.not_le, Int.not_lt, beq_iff_eq] at h_s))
      | (refine hF ?_; intro _; clear hF)
      | (refine hF ?_; cbv; clear hF)
      | (refine ⟨fun _ => ?_, ?_⟩; (· ((try simp only [nc] at *); first | done | omega | exact ⟨by omega, rfl⟩ | (simp (disch := (first | omega | (simp only [lnS, List.length_append, List.length_map, List.length_range, List.length_replicate]; omega))) only [nc, nct, w64_of, Int.toNat_natCast, Int.toNat_zero, List.length_map, rdS, at_agg, bofZ, bof1, bof0, List.getD_cons_zero, List.getD_cons_succ]; first | done | omega | rfl | exact ⟨by omega, rfl⟩ | (simp; done) | (simp; omega)) | (intros; trivial))); (try (simp only [nc] at *)); (try simp (disch := (first | omega | (simp only [lnS, List.length_append, List.length_map, List.length_range, List.length_replicate]; omega))) only [nc, nct, w64_of, Int.toNat_natCast, Int.toNat_zero, List.length_map, rdS, at_agg, bofZ, bof1, bof0, List.getD_cons_zero, List.getD_cons_succ]); (try cbv))
      | fail
    )
    · have e : t = t0 := by
        rcases Nat.lt_or_ge t t0 with h5 | h5
        · have := hmt h5; exfalso; ((try simp only [nc] at *); omega)
        · omega
      subst e
      have e2 : w64 ((t : Int) + 1) = (t : Int) + 1 := w64_of (by omega) (by omega)
      have e3 : ((k - E' t : Nat) : Int) = i0 := by omega
      simp [e2, e3]
    · refine ⟨by ((try simp only [nc] at *); omega), ?_⟩
      rcases Nat.lt_or_ge t t0 with h5 | h5
      · omega
      · exfalso
        obtain rfl : t = t0 := by omega
        ((try simp only [nc] at *); omega)
    · have h5 : t < t0 := by
        rcases Nat.lt_or_ge t t0 with h5 | h5
        · exact h5
        · exfalso
          obtain rfl : t = t0 := by omega
          ((try simp only [nc] at *); omega)
      have := hmt h5
      exact ⟨by omega, by push_cast; rfl⟩
    · exfalso; ((try simp only [nc] at *); omega)
def linL (g : Gr) (tl : List Nat) : List EId := (tl.map fun k => (idsG g).getD k id0).filter fun d => decide (0 < d.t)
theorem linL_take (g : Gr) (tl : List Nat) (k : Nat) (hk : k < tl.length) : linL g (tl.take (k + 1)) = linL g (tl.take k) ++ if 0 < ((idsG g).getD (tl.getD k 0) id0).t then [(idsG g).getD (tl.getD k 0) id0] else [] := by
  unfold linL
  rw [take_succ' tl k 0 hk, List.map_append, List.filter_append]
  congr 1
  simp only [List.map_cons, List.map_nil, List.filter_cons, List.filter_nil, decide_eq_true_eq]
theorem linear_yes (hγ : γ 0 = some tabAV) (g : Gr) (hg : Rd g) (h : GOk g) (kw : Pure Tryd.prog γ false 4 [.i fun _ => 1, aGr g] (.tup [.b fun _ => true, .i fun _ => 0])) (ha : acyM (nG g) (togF (viewG g) (nG g)) = true)
    (tl : List Nat) (hs : Sorts (turnM (togF (viewG g) (nG g))) (togF (viewG g) (nG g)).length (fullM (nG g)) [] (tl.map fun (k : Nat) => (k : Int))) (htl : ∀ p ∈ tl, p < nG g) (hlen : tl.length ≤ 64) :
    Pure Tryd.prog γ false 6 [aGr g] (.tup [.vs 2 fun _ => ids (linL g tl), .b fun _ => true]) := by
  have ks := sort_yes (γ := γ) hγ (nG g) (togF (viewG g) (nG g)) ha _ hs
  have kl := learn_yes (γ := γ) g hg h
  have kt := together_ok (γ := γ) g h
  have ka := at_ok (γ := γ) g hg h
  unfold aFg at *
  generalize poF (viewG g) (nG g) = q1 at *
  generalize rfF (viewG g) (nG g) = q2 at *
  generalize coF (viewG g) (nG g) = q3 at *
  generalize frF (viewG g) (nG g) = q4 at *
  generalize swF (viewG g) (nG g) = q5 at *
  generalize ecoF (viewG g) (nG g) = q6 at *
  generalize porfF (viewG g) (nG g) = q7 at *
  generalize hbF (viewG g) (nG g) = q8 at *
  generalize locF (viewG g) (nG g) = q9 at *
  generalize togF (viewG g) (nG g) = q0 at *
  obtain ⟨L, hL⟩ : ∃ L : Nat → List EId, ∀ k, L k = linL g (tl.take k) := ⟨_, fun _ => rfl⟩
  have l0 : L 0 = [] := by rw [hL]; rfl
  have lS : ∀ k, k < tl.length → L (k + 1) = L k ++ if 0 < ((idsG g).getD (tl.getD k 0) id0).t then [(idsG g).getD (tl.getD k 0) id0] else [] := fun k hk => by rw [hL, hL]; exact linL_take g tl k hk
  have lL : ∀ k, (L k).length ≤ k := fun k => by
    rw [hL]; unfold linL
    refine Nat.le_trans (List.length_filter_le _ _) ?_
    simp; omega
  have lE : L tl.length = linL g tl := by rw [hL, List.take_length]
  rw [← lE]
  obtain ⟨G, hG⟩ : ∃ G : List EId → Nat, ∀ l, G l = l.length := ⟨_, fun _ => rfl⟩
  have hG0 : G [] = 0 := by rw [hG]; rfl
  have hTl : ∀ k, k < tl.length → (tl.map fun (k : Nat) => (k : Int)).getD k 0 = (tl.getD k 0 : Nat) := fun k hk => by simp [hk]
  have hTm : ∀ k, k < tl.length → tl.getD k 0 < nG g := fun k hk => htl _ (by simp [hk])
  clear hL lE hs
  generalize hT : (tl.map fun (k : Nat) => (k : Int)) = T at *
  have hTlen : T.length = tl.length := by rw [← hT]; simp
  clear hT
  refine Pure.go (ty := ty) ty_eq mo Tryd.func6 rfl Tryd.ntmps6 Tryd.results6 Tryd.call6 (by simp) fun P C CQ D W F E hF => ?_
  cbv
  repeat' (first
    | (refine E.c (SCalls.of_le (ks) ?_ ?_); (· (cbv; (try simp only [nc] at *); first | done | (simp; done) | (simp (disch := (first | omega | (simp only [lnS, List.length_append, List.length_map, List.length_range, List.length_replicate]; omega))) only [nc, nct, w64_of, Int.toNat_natCast, Int.toNat_zero, List.length_map, rdS, at_agg, bofZ, bof1, bof0, List.getD_cons_zero, List.getD_cons_succ, implies_true, and_true, true_and, forall_const]; first | done | omega | (refine ⟨?_, ?_⟩ <;> omega)) | (simp (disch := (first | omega | (simp only [lnS, List.length_append, List.length_map, List.length_range, List.length_replicate]; omega))) [nc, nct, w64_of, Int.toNat_natCast, Int.toNat_zero, List.length_map, rdS, at_agg, bofZ, bof1, bof0, List.getD_cons_zero, List.getD_cons_succ]; done))); cbv)
    | (refine E.c (SCalls.of_le (kt) ?_ ?_); (· (cbv; (try simp only [nc] at *); first | done | (simp; done) | (simp (disch := (first | omega | (simp only [lnS, List.length_append, List.length_map, List.length_range, List.length_replicate]; omega))) only [nc, nct, w64_of, Int.toNat_natCast, Int.toNat_zero, List.length_map, rdS, at_agg, bofZ, bof1, bof0, List.getD_cons_zero, List.getD_cons_succ, implies_true, and_true, true_and, forall_const]; first | done | omega | (refine ⟨?_, ?_⟩ <;> omega)) | (simp (disch := (first | omega | (simp only [lnS, List.length_append, List.length_map, List.length_range, List.length_replicate]; omega))) [nc, nct, w64_of, Int.toNat_natCast, Int.toNat_zero, List.length_map, rdS, at_agg, bofZ, bof1, bof0, List.getD_cons_zero, List.getD_cons_succ]; done))); cbv)
    | (refine E.c (SCalls.of_le (kl) ?_ ?_); (· (cbv; (try simp only [nc] at *); first | done | (simp; done) | (simp (disch := (first | omega | (simp only [lnS, List.length_append, List.length_map, List.length_range, List.length_replicate]; omega))) only [nc, nct, w64_of, Int.toNat_natCast, Int.toNat_zero, List.length_map, rdS, at_agg, bofZ, bof1, bof0, List.getD_cons_zero, List.getD_cons_succ, implies_true, and_true, true_and, forall_const]; first | done | omega | (refine ⟨?_, ?_⟩ <;> omega)) | (simp (disch := (first | omega | (simp only [lnS, List.length_append, List.length_map, List.length_range, List.length_replicate]; omega))) [nc, nct, w64_of, Int.toNat_natCast, Int.toNat_zero, List.length_map, rdS, at_agg, bofZ, bof1, bof0, List.getD_cons_zero, List.getD_cons_succ]; done))); cbv)
    | (refine E.c (SCalls.of_le (kw) ?_ ?_); (· (cbv; (try simp only [nc] at *); first | done | (simp; done) | (simp (disch := (first | omega | (simp only [lnS, List.length_append, List.length_map, List.length_range, List.length_replicate]; omega))) only [nc, nct, w64_of, Int.toNat_natCast, Int.toNat_zero, List.length_map, rdS, at_agg, bofZ, bof1, bof0, List.getD_cons_zero, List.getD_cons_succ, implies_true, and_true, true_and, forall_const]; first | done | omega | (refine ⟨?_, ?_⟩ <;> omega)) | (simp (disch := (first | omega | (simp only [lnS, List.length_append, List.length_map, List.length_range, List.length_replicate]; omega))) [nc, nct, w64_of, Int.toNat_natCast, Int.toNat_zero, List.length_map, rdS, at_agg, bofZ, bof1, bof0, List.getD_cons_zero, List.getD_cons_succ]; done))); cbv)
    | (refine ⟨fun _ h_s => ?_, fun _ h_s => ?_⟩ <;> (cbv; (try simp only [nc] at *); try simp (disch := (first | omega | (simp only [lnS, List.length_append, List.length_map, List.length_range, List.length_replicate]; omega))) only [nc, nct, w64_of, Int.toNat_natCast, Int.toNat_zero, List.length_map, rdS, at_agg, bofZ, bof1, bof0, List.getD_cons_zero, List.getD_cons_succ, reduceCtorEq, Bool.not_true, Bool.not_false, decide_eq_true_eq, decide_eq_false_iff_not, Bool.not_eq_true, Bool.not_eq_false, Bool.not_eq_true', Bool.not_eq_false', ne_eq, Decidable.not_not, Int.not_le, Int.not_lt, beq_iff_eq] at h_s))
    | (refine hF ?_; intro _; clear hF)
    | (refine hF ?_; cbv; clear hF)
    | (refine ⟨fun _ => ?_, ?_⟩; (· ((try simp only [nc] at *); first | done | omega | exact ⟨by omega, rfl⟩ | (simp (disch := (first | omega | (simp only [lnS, List.length_append, List.length_map, List.length_range, List.length_replicate]; omega))) only [nc, nct, w64_of, Int.toNat_natCast, Int.toNat_zero, List.length_map, rdS, at_agg, bofZ, bof1, bof0, List.getD_cons_zero, List.getD_cons_succ]; first | done | omega | rfl | exact ⟨by omega, rfl⟩ | (simp; done) | (simp; omega)) | (intros; trivial))); (try (simp only [nc] at *)); (try simp (disch := (first | omega | (simp only [lnS, List.length_append, List.length_map, List.length_range, List.length_replicate]; omega))) only [nc, nct, w64_of, Int.toNat_natCast, Int.toNat_zero, List.length_map, rdS, at_agg, bofZ, bof1, bof0, List.getD_cons_zero, List.getD_cons_succ]); (try cbv))
    | fail
  )
  refine E.w (AWP.ghostSlot 10 2 rfl (by omega) (E.loopSA (ι := Nat) (fun k => k ≤ T.length) (fun k => T.length - k) (fun k => [(37, .i fun _ => ((k : Nat) : Int)), (10, .sl 2 (G (L k)) 2 (fun _ => 0) fun _ => (L k).length)]) (fun k h => h.set 2 (.run (G (L k)) 2 fun _ => ids (L k))) 0 (fun _ => by first | rfl | simp) (Nat.zero_le _) ?_ fun k hk I hI => ?_))
  · cbv; simp [l0, hG0, ids, LV.of]
  cbv
  have hSk := lS k
  have hLk := lL k
  have hTk := hTl k
  have hMk := hTm k
  have hak := fun hk : k < tl.length => ka (tl.getD k 0) (hTm k hk)
  skip
  repeat' (first
    | (refine ⟨fun _ h_s => ?_, fun _ h_s => ?_⟩ <;> (cbv; (try simp only [nc] at *); try simp (disch := (first | omega | (simp only [lnS, List.length_append, List.length_map, List.length_range, List.length_replicate]; omega))) only [nc, nct, w64_of, Int.toNat_natCast, Int.toNat_zero, List.length_map, rdS, at_agg, bofZ, bof1, bof0, List.getD_cons_zero, List.getD_cons_succ, reduceCtorEq, Bool.not_true, Bool.not_false, decide_eq_true_eq, decide_eq_false_iff_not, Bool.not_eq_true, Bool.not_eq_false, Bool.not_eq_true', Bool.not_eq_false', ne_eq, Decidable.not_not, Int.not_le, Int.not_lt, beq_iff_eq] at h_s))
    | (refine hF ?_; intro _; clear hF)
    | (refine hF ?_; cbv; clear hF)
    | (refine ⟨fun _ => ?_, ?_⟩; (· ((try simp only [nc] at *); first | done | omega | exact ⟨by omega, rfl⟩ | (simp (disch := (first | omega | (simp only [lnS, List.length_append, List.length_map, List.length_range, List.length_replicate]; omega))) only [nc, nct, w64_of, Int.toNat_natCast, Int.toNat_zero, List.length_map, rdS, at_agg, bofZ, bof1, bof0, List.getD_cons_zero, List.getD_cons_succ]; first | done | omega | rfl | exact ⟨by omega, rfl⟩ | (simp; done) | (simp; omega)) | (intros; trivial) | exact ⟨by first | trivial | rfl, by first | trivial | rfl | simp, by first | trivial | simp, by simp; omega, by simp; omega, by simp [AV.flat, AV.cells, AV.one]⟩)); (try (simp only [nc] at *)); (try simp (disch := (first | omega | (simp only [lnS, List.length_append, List.length_map, List.length_range, List.length_replicate]; omega))) only [nc, nct, w64_of, Int.toNat_natCast, Int.toNat_zero, List.length_map, rdS, at_agg, bofZ, bof1, bof0, List.getD_cons_zero, List.getD_cons_succ]); (try cbv))
    | fail
  )
  · have hk' : k < tl.length := by ((try simp only [nc] at *); omega)
    have kx := hak hk'
    rw [← hTk hk'] at kx
    have hS1 := hSk hk'
    clear hSk hTk hMk hak ka
    generalize (idsG g).getD (tl.getD k 0) id0 = d at *
    repeat' (first
      | (refine hI (k + 1) ?_ ?_ ?_; rotate_left 1; (· ((try simp only [nc] at *); omega)); (cbv; clear hI; (try clear hF); (try simp only [nc] at *); (try simp (disch := (first | omega | (simp only [lnS, List.length_append, List.length_map, List.length_range, List.length_replicate]; omega))) only [nc, nct, w64_of, Int.toNat_natCast, Int.toNat_zero, List.length_map, rdS, at_agg, bofZ, bof1, bof0, List.getD_cons_zero, List.getD_cons_succ, implies_true, and_true, true_and, forall_const])); rotate_left 1; (try ((try simp only [nc] at *); omega)))
      | (refine E.c (SCalls.of_le (kx) ?_ ?_); (· (cbv; (try simp only [nc] at *); first | done | (simp; done) | (simp (disch := (first | omega | (simp only [lnS, List.length_append, List.length_map, List.length_range, List.length_replicate]; omega))) only [nc, nct, w64_of, Int.toNat_natCast, Int.toNat_zero, List.length_map, rdS, at_agg, bofZ, bof1, bof0, List.getD_cons_zero, List.getD_cons_succ, implies_true, and_true, true_and, forall_const]; first | done | omega | (refine ⟨?_, ?_⟩ <;> omega)) | (simp (disch := (first | omega | (simp only [lnS, List.length_append, List.length_map, List.length_range, List.length_replicate]; omega))) [nc, nct, w64_of, Int.toNat_natCast, Int.toNat_zero, List.length_map, rdS, at_agg, bofZ, bof1, bof0, List.getD_cons_zero, List.getD_cons_succ]; done))); cbv)
      | (refine ⟨fun _ h_s => ?_, fun _ h_s => ?_⟩ <;> (cbv; (try simp only [nc] at *); try simp (disch := (first | omega | (simp only [lnS, List.length_append, List.length_map, List.length_range, List.length_replicate]; omega))) only [nc, nct, w64_of, Int.toNat_natCast, Int.toNat_zero, List.length_map, rdS, at_agg, bofZ, bof1, bof0, List.getD_cons_zero, List.getD_cons_succ, reduceCtorEq, Bool.not_true, Bool.not_false, decide_eq_true_eq, decide_eq_false_iff_not, Bool.not_eq_true, Bool.not_eq_false, Bool.not_eq_true', Bool.not_eq_false', ne_eq, Decidable.not_not, Int.not_le, Int.not_lt, beq_iff_eq] at h_s))
      | (refine hF ?_; intro _; clear hF)
      | (refine hF ?_; cbv; clear hF)
      | (refine ⟨fun _ => ?_, ?_⟩; (· ((try simp only [nc] at *); first | done | omega | exact ⟨by omega, rfl⟩ | (simp (disch := (first | omega | (simp only [lnS, List.length_append, List.length_map, List.length_range, List.length_replicate]; omega))) only [nc, nct, w64_of, Int.toNat_natCast, Int.toNat_zero, List.length_map, rdS, at_agg, bofZ, bof1, bof0, List.getD_cons_zero, List.getD_cons_succ]; first | done | omega | rfl | exact ⟨by omega, rfl⟩ | (simp; done) | (simp; omega)) | (intros; trivial) | exact ⟨by first | trivial | rfl, by first | trivial | rfl | simp, by first | trivial | simp, by simp; omega, by simp; omega, by simp [AV.flat, AV.cells, AV.one]⟩)); (try (simp only [nc] at *)); (try simp (disch := (first | omega | (simp only [lnS, List.length_append, List.length_map, List.length_range, List.length_replicate]; omega))) only [nc, nct, w64_of, Int.toNat_natCast, Int.toNat_zero, List.length_map, rdS, at_agg, bofZ, bof1, bof0, List.getD_cons_zero, List.getD_cons_succ]); (try cbv))
      | fail
    )
    · have hpos : 0 < d.t := by assumption
      rw [if_pos hpos] at hS1
      simp [hG, hS1, ids, setAll, AV.nrm]
    · have hneg : ¬ 0 < d.t := by ((try simp only [nc] at *); omega)
      rw [if_neg hneg, List.append_nil] at hS1
      rw [hS1]
      exact ⟨⟨by push_cast; rfl, rfl, rfl⟩, rfl, rfl⟩
  · have e : k = tl.length := by ((try simp only [nc] at *); omega)
    subst e
    rw [List.drop_zero, List.take_of_length_le (by simp)]
    simp
end Go.AL.Rl

namespace Go.AL.Rl
open Go Go.AL Go.Proofs
set_option maxRecDepth 100000
set_option maxHeartbeats 1600000
variable {γ : Nat → Option AV}

def gI : Gr := ⟨[1], [], [], []⟩
theorem gI_no : ¬ GOk gI := by decide +kernel
end Go.AL.Rl

namespace Go.AL.Rl
open Go Go.AL Go.Proofs
set_option maxRecDepth 100000
set_option maxHeartbeats 3200000
variable {γ : Nat → Option AV}

def vB : Vw := ⟨[⟨0, 0⟩, ⟨0, 1⟩, ⟨1, 0⟩, ⟨1, 1⟩, ⟨2, 0⟩, ⟨2, 1⟩], [⟨2, 0, 1, 0, 0⟩, ⟨2, 1, 1, 0, 0⟩, ⟨2, 0, 5, 0, 1⟩, ⟨1, 1, 5, 0, 0⟩, ⟨2, 1, 5, 0, 1⟩, ⟨1, 0, 5, 0, 0⟩], [-1, -1, -1, 1, -1, 0], [0, 0, 1, -1, 1, -1]⟩
theorem gBok : GOk gB := by decide +kernel
theorem gBv : viewG gB = vB := by
  unfold viewG vB
  simp only [Vw.mk.injEq]
  decide +kernel
theorem gBn : nG gB = 6 := rfl
theorem rdB : Rd gB := by
  refine ⟨by simp [gB], by simp [gB], by simp [gB], by simp [gB], ?_, ?_, ?_⟩ <;> simp [gB]
theorem rdI : Rd gI := by
  refine ⟨by simp [gI], by simp [gI], by simp [gI], by simp [gI], ?_, ?_, ?_⟩ <;> simp [gI]
theorem swB : swF vB 6 = [0, 0, 0, 0, 0, 0] := by rw [swC_eq (by omega) (by decide +kernel)]; decide +kernel
theorem hbB : hbF vB 6 = [60, 60, 8, 0, 32, 0] := by unfold hbF; rw [swB]; decide +kernel
theorem fB1 : (fltM vB 6 1).br = false := rfl
theorem fB2 : (fltM vB 6 2).br = false := by show (updF vB 6).br = false; decide +kernel
theorem fB3 : (fltM vB 6 3).br = false := by show (circF (porfF vB 6)).br = false; decide +kernel
theorem fB4 : (fltM vB 6 4).br = false := by show (circF (hbF vB 6)).br = false; rw [hbB]; decide +kernel
theorem fB5 : (fltM vB 6 5).br = false := by show (cohF (hbF vB 6) (ecoF vB 6)).br = false; rw [hbB]; decide +kernel
theorem fB6 : (fltM vB 6 6).br = true ∧ (fltM vB 6 6).a = 2 ∧ (fltM vB 6 6).b = -1 := by
  show (circF (plusM 6 (togF vB 6))).br = true ∧ (circF (plusM 6 (togF vB 6))).a = 2 ∧ (circF (plusM 6 (togF vB 6))).b = -1
  decide +kernel
theorem wB2 : Pure Tryd.prog γ false 8 [.i fun _ => 2, aGr gB] (aBk ⟨0, 0, 0, false⟩) := by
  have k := why_yes (γ := γ) 2 [1, 2, 3, 4, 5] gB (.inr rfl) (by simp) (by decide) rules_yes2 rdB gBok
  rw [gBv, gBn] at k
  have e : [1, 2, 3, 4, 5].find? (fun k => (fltM vB 6 k).br) = none := by simp [List.find?, fB1, fB2, fB3, fB4, fB5]
  rw [e] at k
  exact k
theorem wB1 : Pure Tryd.prog γ false 8 [.i fun _ => 1, aGr gB] (aBk ⟨6, 2, -1, true⟩) := by
  have k := why_yes (γ := γ) 1 [1, 2, 6] gB (.inl rfl) (by simp) (by decide) rules_yes1 rdB gBok
  rw [gBv, gBn] at k
  have e : [1, 2, 6].find? (fun k => (fltM vB 6 k).br) = some 6 := by simp [List.find?, fB1, fB2, fB6]
  rw [e] at k
  simp only [fB6.2.1, fB6.2.2] at k
  exact k
theorem cB2 : Pure Tryd.prog γ false 4 [.i fun _ => 2, aGr gB] (.tup [.b fun _ => true, .i fun _ => 0]) := by
  have k := mcheck_ok (γ := γ) 2 gB _ wB2
  simpa using k
theorem cB1 : Pure Tryd.prog γ false 4 [.i fun _ => 1, aGr gB] (.tup [.b fun _ => false, .i fun _ => 0]) := by
  have k := mcheck_ok (γ := γ) 1 gB _ wB1
  simpa using k
theorem cB3 : Pure Tryd.prog γ false 4 [.i fun _ => 3, aGr gB] (.tup [.b fun _ => false, .i fun _ => 2]) := by
  have k := mcheck_ok (γ := γ) 3 gB _ (why_bad 3 gB (by decide))
  simpa using k
theorem lives16_ok : Pure Tryd.prog γ false 9 [] (.b fun _ => true) := by
  have kb := buffers_ok (γ := γ)
  have k1 := cB1 (γ := γ)
  have k2 := cB2 (γ := γ)
  have k3 := wB1 (γ := γ)
  generalize gB = g at *
  refine Pure.go (ty := ty) ty_eq mo Tryd.func9 rfl Tryd.ntmps9 Tryd.results9 Tryd.call9 (by simp) fun P C CQ D W F E hF => ?_
  cbv
  repeat' (first
    | (refine E.c (SCalls.of_le (k3) ?_ ?_); (· (cbv; (try simp only [nc] at *); first | done | (simp; done) | (simp (disch := (first | omega | (simp only [lnS, List.length_append, List.length_map, List.length_range, List.length_replicate]; omega))) only [nc, nct, w64_of, Int.toNat_natCast, Int.toNat_zero, List.length_map, rdS, at_agg, bofZ, bof1, bof0, List.getD_cons_zero, List.getD_cons_succ, implies_true, and_true, true_and, forall_const]; first | done | omega | (refine ⟨?_, ?_⟩ <;> omega)) | (simp (disch := (first | omega | (simp only [lnS, List.length_append, List.length_map, List.length_range, List.length_replicate]; omega))) [nc, nct, w64_of, Int.toNat_natCast, Int.toNat_zero, List.length_map, rdS, at_agg, bofZ, bof1, bof0, List.getD_cons_zero, List.getD_cons_succ]; done))); cbv)
    | (refine E.c (SCalls.of_le (k2) ?_ ?_); (· (cbv; (try simp only [nc] at *); first | done | (simp; done) | (simp (disch := (first | omega | (simp only [lnS, List.length_append, List.length_map, List.length_range, List.length_replicate]; omega))) only [nc, nct, w64_of, Int.toNat_natCast, Int.toNat_zero, List.length_map, rdS, at_agg, bofZ, bof1, bof0, List.getD_cons_zero, List.getD_cons_succ, implies_true, and_true, true_and, forall_const]; first | done | omega | (refine ⟨?_, ?_⟩ <;> omega)) | (simp (disch := (first | omega | (simp only [lnS, List.length_append, List.length_map, List.length_range, List.length_replicate]; omega))) [nc, nct, w64_of, Int.toNat_natCast, Int.toNat_zero, List.length_map, rdS, at_agg, bofZ, bof1, bof0, List.getD_cons_zero, List.getD_cons_succ]; done))); cbv)
    | (refine E.c (SCalls.of_le (k1) ?_ ?_); (· (cbv; (try simp only [nc] at *); first | done | (simp; done) | (simp (disch := (first | omega | (simp only [lnS, List.length_append, List.length_map, List.length_range, List.length_replicate]; omega))) only [nc, nct, w64_of, Int.toNat_natCast, Int.toNat_zero, List.length_map, rdS, at_agg, bofZ, bof1, bof0, List.getD_cons_zero, List.getD_cons_succ, implies_true, and_true, true_and, forall_const]; first | done | omega | (refine ⟨?_, ?_⟩ <;> omega)) | (simp (disch := (first | omega | (simp only [lnS, List.length_append, List.length_map, List.length_range, List.length_replicate]; omega))) [nc, nct, w64_of, Int.toNat_natCast, Int.toNat_zero, List.length_map, rdS, at_agg, bofZ, bof1, bof0, List.getD_cons_zero, List.getD_cons_succ]; done))); cbv)
    | (refine E.c (SCalls.of_le (kb) ?_ ?_); (· (cbv; (try simp only [nc] at *); first | done | (simp; done) | (simp (disch := (first | omega | (simp only [lnS, List.length_append, List.length_map, List.length_range, List.length_replicate]; omega))) only [nc, nct, w64_of, Int.toNat_natCast, Int.toNat_zero, List.length_map, rdS, at_agg, bofZ, bof1, bof0, List.getD_cons_zero, List.getD_cons_succ, implies_true, and_true, true_and, forall_const]; first | done | omega | (refine ⟨?_, ?_⟩ <;> omega)) | (simp (disch := (first | omega | (simp only [lnS, List.length_append, List.length_map, List.length_range, List.length_replicate]; omega))) [nc, nct, w64_of, Int.toNat_natCast, Int.toNat_zero, List.length_map, rdS, at_agg, bofZ, bof1, bof0, List.getD_cons_zero, List.getD_cons_succ]; done))); cbv)
    | (refine ⟨fun _ h_s => ?_, fun _ h_s => ?_⟩ <;> (cbv; (try simp only [nc] at *); try simp (disch := (first | omega | (simp only [lnS, List.length_append, List.length_map, List.length_range, List.length_replicate]; omega))) only [nc, nct, w64_of, Int.toNat_natCast, Int.toNat_zero, List.length_map, rdS, at_agg, bofZ, bof1, bof0, List.getD_cons_zero, List.getD_cons_succ, reduceCtorEq, Bool.not_true, Bool.not_false, decide_eq_true_eq, decide_eq_false_iff_not, Bool.not_eq_true, Bool.not_eq_false, Bool.not_eq_true', Bool.not_eq_false', ne_eq, Decidable.not_not, Int.not_le, Int.not_lt, beq_iff_eq] at h_s))
    | (refine hF ?_; intro _; clear hF)
    | (refine hF ?_; cbv; clear hF)
    | (refine ⟨fun _ => ?_, ?_⟩; (· ((try simp only [nc] at *); first | done | omega | exact ⟨by omega, rfl⟩ | (simp (disch := (first | omega | (simp only [lnS, List.length_append, List.length_map, List.length_range, List.length_replicate]; omega))) only [nc, nct, w64_of, Int.toNat_natCast, Int.toNat_zero, List.length_map, rdS, at_agg, bofZ, bof1, bof0, List.getD_cons_zero, List.getD_cons_succ]; first | done | omega | rfl | exact ⟨by omega, rfl⟩ | (simp; done) | (simp; omega)) | (intros; trivial))); (try (simp only [nc] at *)); (try simp (disch := (first | omega | (simp only [lnS, List.length_append, List.length_map, List.length_range, List.length_replicate]; omega))) only [nc, nct, w64_of, Int.toNat_natCast, Int.toNat_zero, List.length_map, rdS, at_agg, bofZ, bof1, bof0, List.getD_cons_zero, List.getD_cons_succ]); (try cbv))
    | fail
  )
  all_goals first
    | (simp; done)
    | (exfalso; revert h_s; simp; done)
theorem holds_low (m : Int) (g : Gr) (hm : m < 1) : Pure Tryd.prog γ false 13 [.i fun _ => m, aGr g] (.b fun _ => false) := by
  refine Pure.go (ty := ty) ty_eq mo Tryd.func13 rfl Tryd.ntmps13 Tryd.results13 Tryd.call13 (by simp) fun P C CQ D W F E hF => ?_
  cbv
  repeat' (first
    | (refine ⟨fun _ h_s => ?_, fun _ h_s => ?_⟩ <;> (cbv; (try simp only [nc] at *); try simp (disch := (first | omega | (simp only [lnS, List.length_append, List.length_map, List.length_range, List.length_replicate]; omega))) only [nc, nct, w64_of, Int.toNat_natCast, Int.toNat_zero, List.length_map, rdS, at_agg, bofZ, bof1, bof0, List.getD_cons_zero, List.getD_cons_succ, reduceCtorEq, Bool.not_true, Bool.not_false, decide_eq_true_eq, decide_eq_false_iff_not, Bool.not_eq_true, Bool.not_eq_false, Bool.not_eq_true', Bool.not_eq_false', ne_eq, Decidable.not_not, Int.not_le, Int.not_lt, beq_iff_eq] at h_s))
    | (refine hF ?_; intro _; clear hF)
    | (refine hF ?_; cbv; clear hF)
    | (refine ⟨fun _ => ?_, ?_⟩; (· ((try simp only [nc] at *); first | done | omega | exact ⟨by omega, rfl⟩ | (simp (disch := (first | omega | (simp only [lnS, List.length_append, List.length_map, List.length_range, List.length_replicate]; omega))) only [nc, nct, w64_of, Int.toNat_natCast, Int.toNat_zero, List.length_map, rdS, at_agg, bofZ, bof1, bof0, List.getD_cons_zero, List.getD_cons_succ]; first | done | omega | rfl | exact ⟨by omega, rfl⟩ | (simp; done) | (simp; omega)) | (intros; trivial))); (try (simp only [nc] at *)); (try simp (disch := (first | omega | (simp only [lnS, List.length_append, List.length_map, List.length_range, List.length_replicate]; omega))) only [nc, nct, w64_of, Int.toNat_natCast, Int.toNat_zero, List.length_map, rdS, at_agg, bofZ, bof1, bof0, List.getD_cons_zero, List.getD_cons_succ]); (try cbv))
    | (refine E.d 6 (by decide +kernel) ?_; cbv; (fail_if_success guard_target =~ False))
    | fail
  )
  all_goals first
    | rfl
    | (exfalso; ((try simp only [nc] at *); omega))
theorem fS2 : (fltM (vS 4) 3 2).br = false := by show (updF (vS 4) 3).br = false; decide +kernel
theorem togS : togF (vS 4) 3 = [6, 4, 0] := by decide +kernel
theorem fS6 : (fltM (vS 4) 3 6).br = false := by show (circF (plusM 3 (togF (vS 4) 3))).br = false; decide +kernel
theorem wS1 : Pure Tryd.prog γ false 8 [.i fun _ => 1, aGr (gS 4)] (aBk ⟨0, 0, 0, false⟩) := by
  have k := why_yes (γ := γ) 1 [1, 2, 6] (gS 4) (.inl rfl) (by simp) (by decide) rules_yes1 (rdSm 4) gS4
  rw [gS4v, gSn] at k
  have f1 : (fltM (vS 4) 3 1).br = false := rfl
  have e : [1, 2, 6].find? (fun k => (fltM (vS 4) 3 k).br) = none := by simp [List.find?, f1, fS2, fS6]
  rw [e] at k
  exact k
theorem cS1 : Pure Tryd.prog γ false 4 [.i fun _ => 1, aGr (gS 4)] (.tup [.b fun _ => true, .i fun _ => 0]) := by
  have k := mcheck_ok (γ := γ) 1 (gS 4) _ wS1
  simpa using k
theorem small_sorts : Sorts (turnM [6, 4, 0]) 3 (fullM 3) [] [0, 1, 2] := by
  refine .step _ _ _ 0 (by decide) ⟨by decide, by decide⟩ (fun k hk => absurd hk (by omega)) ?_
  refine .step _ _ _ 1 (by decide) ⟨by decide, by decide⟩ (fun k hk => ?_) ?_
  · obtain rfl : k = 0 := by omega
    exact fun h => absurd h.1 (by decide)
  refine .step _ _ _ 2 (by decide) ⟨by decide, by decide⟩ (fun k hk => ?_) ?_
  · have : k = 0 ∨ k = 1 := by omega
    rcases this with rfl | rfl
    · exact fun h => absurd h.1 (by decide)
    · exact fun h => absurd h.1 (by decide)
  exact .done _
theorem linS (hγ : γ 0 = some tabAV) : Pure Tryd.prog γ false 6 [aGr (gS 4)] (.tup [.vs 2 fun _ => ids [⟨1, 0⟩, ⟨2, 0⟩], .b fun _ => true]) := by
  have e : togF (viewG (gS 4)) (nG (gS 4)) = [6, 4, 0] := by rw [gS4v, gSn, togS]
  have k := linear_yes (γ := γ) hγ (gS 4) (rdSm 4) gS4 cS1 (by rw [e, gSn]; decide +kernel) [0, 1, 2] (by rw [e, gSn]; exact small_sorts) (by rw [gSn]; decide) (by simp)
  have e2 : linL (gS 4) [0, 1, 2] = [⟨1, 0⟩, ⟨2, 0⟩] := by decide +kernel
  rwa [e2] at k
theorem modelNames_ok (hγ : γ 0 = some tabAV) : Pure Tryd.prog γ false 3 [] (.b fun _ => true) := by
  have kb := buffers_ok (γ := γ)
  have k3 := cB3 (γ := γ)
  have ks := small_ok (γ := γ) 4
  have kn := linS (γ := γ) hγ
  have kw := why_no (γ := γ) 2 gI (.inr rfl) rdI gI_no
  have kl := lives16_ok (γ := γ)
  have ki := kids_ok (γ := γ) [⟨1, 0⟩, ⟨2, 0⟩] [⟨1, 0⟩, ⟨2, 0⟩] (by simp)
  have kr := rules_yes1 (γ := γ)
  have kt := ints_ok (γ := γ) [1, 2, 6] [1, 2, 6] (by simp)
  have k0 := rules_no (γ := γ) 0 (by decide) (by decide)
  have kh := holds_low (γ := γ) 0 gB (by decide)
  generalize gB = g at *
  generalize gS 4 = s at *
  refine Pure.go (ty := ty) ty_eq mo Tryd.func3 rfl Tryd.ntmps3 Tryd.results3 Tryd.call3 (by simp) fun P C CQ D W F E hF => ?_
  cbv
  repeat' (first
    | (refine E.c (SCalls.of_le (kn) ?_ ?_); (· (cbv; (try simp only [nc] at *); first | done | (simp; done) | (simp (disch := (first | omega | (simp only [lnS, List.length_append, List.length_map, List.length_range, List.length_replicate]; omega))) only [nc, nct, w64_of, Int.toNat_natCast, Int.toNat_zero, List.length_map, rdS, at_agg, bofZ, bof1, bof0, List.getD_cons_zero, List.getD_cons_succ, implies_true, and_true, true_and, forall_const]; first | done | omega | (refine ⟨?_, ?_⟩ <;> omega)) | (simp (disch := (first | omega | (simp only [lnS, List.length_append, List.length_map, List.length_range, List.length_replicate]; omega))) [nc, nct, w64_of, Int.toNat_natCast, Int.toNat_zero, List.length_map, rdS, at_agg, bofZ, bof1, bof0, List.getD_cons_zero, List.getD_cons_succ]; done))); cbv)
    | (refine E.c (SCalls.of_le (ks) ?_ ?_); (· (cbv; (try simp only [nc] at *); first | done | (simp; done) | (simp (disch := (first | omega | (simp only [lnS, List.length_append, List.length_map, List.length_range, List.length_replicate]; omega))) only [nc, nct, w64_of, Int.toNat_natCast, Int.toNat_zero, List.length_map, rdS, at_agg, bofZ, bof1, bof0, List.getD_cons_zero, List.getD_cons_succ, implies_true, and_true, true_and, forall_const]; first | done | omega | (refine ⟨?_, ?_⟩ <;> omega)) | (simp (disch := (first | omega | (simp only [lnS, List.length_append, List.length_map, List.length_range, List.length_replicate]; omega))) [nc, nct, w64_of, Int.toNat_natCast, Int.toNat_zero, List.length_map, rdS, at_agg, bofZ, bof1, bof0, List.getD_cons_zero, List.getD_cons_succ]; done))); cbv)
    | (refine E.c (SCalls.of_le (k3) ?_ ?_); (· (cbv; (try simp only [nc] at *); first | done | (simp; done) | (simp (disch := (first | omega | (simp only [lnS, List.length_append, List.length_map, List.length_range, List.length_replicate]; omega))) only [nc, nct, w64_of, Int.toNat_natCast, Int.toNat_zero, List.length_map, rdS, at_agg, bofZ, bof1, bof0, List.getD_cons_zero, List.getD_cons_succ, implies_true, and_true, true_and, forall_const]; first | done | omega | (refine ⟨?_, ?_⟩ <;> omega)) | (simp (disch := (first | omega | (simp only [lnS, List.length_append, List.length_map, List.length_range, List.length_replicate]; omega))) [nc, nct, w64_of, Int.toNat_natCast, Int.toNat_zero, List.length_map, rdS, at_agg, bofZ, bof1, bof0, List.getD_cons_zero, List.getD_cons_succ]; done))); cbv)
    | (refine E.c (SCalls.of_le (kb) ?_ ?_); (· (cbv; (try simp only [nc] at *); first | done | (simp; done) | (simp (disch := (first | omega | (simp only [lnS, List.length_append, List.length_map, List.length_range, List.length_replicate]; omega))) only [nc, nct, w64_of, Int.toNat_natCast, Int.toNat_zero, List.length_map, rdS, at_agg, bofZ, bof1, bof0, List.getD_cons_zero, List.getD_cons_succ, implies_true, and_true, true_and, forall_const]; first | done | omega | (refine ⟨?_, ?_⟩ <;> omega)) | (simp (disch := (first | omega | (simp only [lnS, List.length_append, List.length_map, List.length_range, List.length_replicate]; omega))) [nc, nct, w64_of, Int.toNat_natCast, Int.toNat_zero, List.length_map, rdS, at_agg, bofZ, bof1, bof0, List.getD_cons_zero, List.getD_cons_succ]; done))); cbv)
    | (refine ⟨fun _ h_s => ?_, fun _ h_s => ?_⟩ <;> (cbv; (try simp only [nc] at *); try simp (disch := (first | omega | (simp only [lnS, List.length_append, List.length_map, List.length_range, List.length_replicate]; omega))) only [nc, nct, w64_of, Int.toNat_natCast, Int.toNat_zero, List.length_map, rdS, at_agg, bofZ, bof1, bof0, List.getD_cons_zero, List.getD_cons_succ, reduceCtorEq, Bool.not_true, Bool.not_false, decide_eq_true_eq, decide_eq_false_iff_not, Bool.not_eq_true, Bool.not_eq_false, Bool.not_eq_true', Bool.not_eq_false', ne_eq, Decidable.not_not, Int.not_le, Int.not_lt, beq_iff_eq] at h_s))
    | (refine hF ?_; intro _; clear hF)
    | (refine hF ?_; cbv; clear hF)
    | (refine ⟨fun _ => ?_, ?_⟩; (· ((try simp only [nc] at *); first | done | omega | exact ⟨by omega, rfl⟩ | (simp (disch := (first | omega | (simp only [lnS, List.length_append, List.length_map, List.length_range, List.length_replicate]; omega))) only [nc, nct, w64_of, Int.toNat_natCast, Int.toNat_zero, List.length_map, rdS, at_agg, bofZ, bof1, bof0, List.getD_cons_zero, List.getD_cons_succ]; first | done | omega | rfl | exact ⟨by omega, rfl⟩ | (simp; done) | (simp; omega)) | (intros; trivial))); (try (simp only [nc] at *)); (try simp (disch := (first | omega | (simp only [lnS, List.length_append, List.length_map, List.length_range, List.length_replicate]; omega))) only [nc, nct, w64_of, Int.toNat_natCast, Int.toNat_zero, List.length_map, rdS, at_agg, bofZ, bof1, bof0, List.getD_cons_zero, List.getD_cons_succ]); (try cbv))
    | fail
  )
  refine E.c (SCalls.of_le (kw) ?_ ?_)
  · cbv
    simp [gI, is, evss, idss, LV.of, LV.l, setAll, AV.nrm, nrm1]
  cbv
  repeat' (first
    | (refine E.c (SCalls.of_le (kh) ?_ ?_); (· (cbv; (try simp only [nc] at *); first | done | (simp; done) | (simp (disch := (first | omega | (simp only [lnS, List.length_append, List.length_map, List.length_range, List.length_replicate]; omega))) only [nc, nct, w64_of, Int.toNat_natCast, Int.toNat_zero, List.length_map, rdS, at_agg, bofZ, bof1, bof0, List.getD_cons_zero, List.getD_cons_succ, implies_true, and_true, true_and, forall_const]; first | done | omega | (refine ⟨?_, ?_⟩ <;> omega)) | (simp (disch := (first | omega | (simp only [lnS, List.length_append, List.length_map, List.length_range, List.length_replicate]; omega))) [nc, nct, w64_of, Int.toNat_natCast, Int.toNat_zero, List.length_map, rdS, at_agg, bofZ, bof1, bof0, List.getD_cons_zero, List.getD_cons_succ]; done))); cbv)
    | (refine E.c (SCalls.of_le (k0) ?_ ?_); (· (cbv; (try simp only [nc] at *); first | done | (simp; done) | (simp (disch := (first | omega | (simp only [lnS, List.length_append, List.length_map, List.length_range, List.length_replicate]; omega))) only [nc, nct, w64_of, Int.toNat_natCast, Int.toNat_zero, List.length_map, rdS, at_agg, bofZ, bof1, bof0, List.getD_cons_zero, List.getD_cons_succ, implies_true, and_true, true_and, forall_const]; first | done | omega | (refine ⟨?_, ?_⟩ <;> omega)) | (simp (disch := (first | omega | (simp only [lnS, List.length_append, List.length_map, List.length_range, List.length_replicate]; omega))) [nc, nct, w64_of, Int.toNat_natCast, Int.toNat_zero, List.length_map, rdS, at_agg, bofZ, bof1, bof0, List.getD_cons_zero, List.getD_cons_succ]; done))); cbv)
    | (refine E.c (SCalls.of_le (kt) ?_ ?_); (· (cbv; simp [rls, ps, us, is, ids, evs, evss, idss, LV.of, setAll, AV.nrm]; done)); cbv)
    | (refine E.q (QCalls.of_le (kt) ?_ ?_); (· (cbv; simp [rls, ps, us, is, ids, evs, evss, idss, LV.of, setAll, AV.nrm]; done)); cbv)
    | (refine E.c (SCalls.of_le (kr) ?_ ?_); (· (cbv; (try simp only [nc] at *); first | done | (simp; done) | (simp (disch := (first | omega | (simp only [lnS, List.length_append, List.length_map, List.length_range, List.length_replicate]; omega))) only [nc, nct, w64_of, Int.toNat_natCast, Int.toNat_zero, List.length_map, rdS, at_agg, bofZ, bof1, bof0, List.getD_cons_zero, List.getD_cons_succ, implies_true, and_true, true_and, forall_const]; first | done | omega | (refine ⟨?_, ?_⟩ <;> omega)) | (simp (disch := (first | omega | (simp only [lnS, List.length_append, List.length_map, List.length_range, List.length_replicate]; omega))) [nc, nct, w64_of, Int.toNat_natCast, Int.toNat_zero, List.length_map, rdS, at_agg, bofZ, bof1, bof0, List.getD_cons_zero, List.getD_cons_succ]; done))); cbv)
    | (refine E.c (SCalls.of_le (ki) ?_ ?_); (· (cbv; simp [rls, ps, us, is, ids, evs, evss, idss, LV.of, setAll, AV.nrm]; done)); cbv)
    | (refine E.q (QCalls.of_le (ki) ?_ ?_); (· (cbv; simp [rls, ps, us, is, ids, evs, evss, idss, LV.of, setAll, AV.nrm]; done)); cbv)
    | (refine E.c (SCalls.of_le (kl) ?_ ?_); (· (cbv; (try simp only [nc] at *); first | done | (simp; done) | (simp (disch := (first | omega | (simp only [lnS, List.length_append, List.length_map, List.length_range, List.length_replicate]; omega))) only [nc, nct, w64_of, Int.toNat_natCast, Int.toNat_zero, List.length_map, rdS, at_agg, bofZ, bof1, bof0, List.getD_cons_zero, List.getD_cons_succ, implies_true, and_true, true_and, forall_const]; first | done | omega | (refine ⟨?_, ?_⟩ <;> omega)) | (simp (disch := (first | omega | (simp only [lnS, List.length_append, List.length_map, List.length_range, List.length_replicate]; omega))) [nc, nct, w64_of, Int.toNat_natCast, Int.toNat_zero, List.length_map, rdS, at_agg, bofZ, bof1, bof0, List.getD_cons_zero, List.getD_cons_succ]; done))); cbv)
    | (refine E.c (SCalls.of_le (kb) ?_ ?_); (· (cbv; (try simp only [nc] at *); first | done | (simp; done) | (simp (disch := (first | omega | (simp only [lnS, List.length_append, List.length_map, List.length_range, List.length_replicate]; omega))) only [nc, nct, w64_of, Int.toNat_natCast, Int.toNat_zero, List.length_map, rdS, at_agg, bofZ, bof1, bof0, List.getD_cons_zero, List.getD_cons_succ, implies_true, and_true, true_and, forall_const]; first | done | omega | (refine ⟨?_, ?_⟩ <;> omega)) | (simp (disch := (first | omega | (simp only [lnS, List.length_append, List.length_map, List.length_range, List.length_replicate]; omega))) [nc, nct, w64_of, Int.toNat_natCast, Int.toNat_zero, List.length_map, rdS, at_agg, bofZ, bof1, bof0, List.getD_cons_zero, List.getD_cons_succ]; done))); cbv)
    | (refine ⟨fun _ h_s => ?_, fun _ h_s => ?_⟩ <;> (cbv; (try simp only [nc] at *); try simp (disch := (first | omega | (simp only [lnS, List.length_append, List.length_map, List.length_range, List.length_replicate]; omega))) only [nc, nct, w64_of, Int.toNat_natCast, Int.toNat_zero, List.length_map, rdS, at_agg, bofZ, bof1, bof0, List.getD_cons_zero, List.getD_cons_succ, reduceCtorEq, Bool.not_true, Bool.not_false, decide_eq_true_eq, decide_eq_false_iff_not, Bool.not_eq_true, Bool.not_eq_false, Bool.not_eq_true', Bool.not_eq_false', ne_eq, Decidable.not_not, Int.not_le, Int.not_lt, beq_iff_eq] at h_s))
    | (refine hF ?_; intro _; clear hF)
    | (refine hF ?_; cbv; clear hF)
    | (refine ⟨fun _ => ?_, ?_⟩; (· ((try simp only [nc] at *); first | done | omega | exact ⟨by omega, rfl⟩ | (simp (disch := (first | omega | (simp only [lnS, List.length_append, List.length_map, List.length_range, List.length_replicate]; omega))) only [nc, nct, w64_of, Int.toNat_natCast, Int.toNat_zero, List.length_map, rdS, at_agg, bofZ, bof1, bof0, List.getD_cons_zero, List.getD_cons_succ]; first | done | omega | rfl | exact ⟨by omega, rfl⟩ | (simp; done) | (simp; omega)) | (intros; trivial))); (try (simp only [nc] at *)); (try simp (disch := (first | omega | (simp only [lnS, List.length_append, List.length_map, List.length_range, List.length_replicate]; omega))) only [nc, nct, w64_of, Int.toNat_natCast, Int.toNat_zero, List.length_map, rdS, at_agg, bofZ, bof1, bof0, List.getD_cons_zero, List.getD_cons_succ]); (try cbv))
    | fail
  )
  all_goals first
    | rfl
    | (exfalso; revert h_s; simp; done)
end Go.AL.Rl
