import Derived.Test.YtmhkblagbfaflaaDoorBl2
import Derived.StillTail
import Derived.OpenShut
import Derived.ReadAgain
import Derived.Deep.DeepHandedRow
import Derived.Lib.LaidTab
import Derived.ProofKit
set_option linter.unusedVariables false
set_option linter.unusedSimpArgs false
namespace Go.AL
open Go Go.RowKit

/-! ### Frozen: what a value reads as while nobody writes -/
mutual
def fz (h : List Blk) : AV → AV → Prop
  | .i n, x => match x with | .i m => ∀ _ : Unit, m () = n () | .lit m => ∀ _ : Unit, m = n () | _ => False
  | .u n, x => match x with | .u m => ∀ _ : Unit, m () = n () | _ => False
  | .b n, x => match x with | .b m => ∀ _ : Unit, m () = n () | .tt => ∀ _ : Unit, n () = true | .ff => ∀ _ : Unit, n () = false | _ => False
  | .vs k es, x => match x with
    | .vs k' es' => k' = k ∧ ∀ _ : Unit, (es' ()).l = (es ()).l
    | .nils => ∀ _ : Unit, (es ()).l = []
    | .sl b g k' off len => match h[b]? with
      | some (.run g' _ es') => k' = k ∧ ∀ _ : Unit, g' = g ∧ off () + len () ≤ (es' ()).l.length ∧ (((es' ()).l.drop (off ())).take (len ())) = (es ()).l
      | _ => False
    | _ => False
  | .vp v off, x => match x with
    | .vp v' off' => off' = off ∧ ∀ _ : Unit, v' () = v ()
    | .ptr b off' => match h[b]? with
      | some (.box w) => off' = off ∧ fz h (v ()) w
      | _ => False
    | _ => False
  | .agg ds, x => match x with | .agg cs => fzs h ds cs | _ => False
  | .tup ds, x => match x with | .tup cs => fzs h ds cs | _ => False
  | .fn f a c, x => match x with | .fn f' a' c' => f' = f ∧ fzs h a a' ∧ fzs h c c' | _ => False
  | .any, _ => True
  | .raw v, x => ∀ _ : Unit, x = .raw v
  | .np, x => match x with | .np => True | _ => False
  | .nils, x => match x with | .nils => True | _ => False
  | .undef, x => match x with | .undef => True | _ => False
  | .vm ks vs, x => match x with
    | .vm ks' vs' => ∀ _ : Unit, (ks' ()).l = (ks ()).l ∧ (vs' ()).l = (vs ()).l
    | .mp b => match h[b]? with
      | some (.map ks' vs') => ∀ _ : Unit, (ks' ()).l = (ks ()).l ∧ (vs' ()).l = (vs ()).l
      | _ => False
    | _ => False
  | _, _ => False
def fzs (h : List Blk) : List AV → List AV → Prop
  | [], xs => match xs with | [] => True | _ => False
  | y :: ys, xs => match xs with | x :: xs => fz h y x ∧ fzs h ys xs | [] => False
end

/-- what stays while the heap is frozen -/
abbrev Froz (S : Nat → Prop) (ρ : List Loc) : Nat → Prop := fun k => S k ∨ ∃ (b : Nat) (loc : Loc), ρ[b]? = some loc ∧ loc.k = some k

section
variable {P : Program} {γ : Nat → Option AV}

theorem l_inj {a b : LV} (h : a.l = b.l) : a = b := by rw [← LV.of_l a, ← LV.of_l b, h]

mutual
theorem fz_sound {B : Nat} {S : Nat → Prop} {ρ : List Loc} {h : List Blk} {w : World} (hh : HeapR B S γ ρ h w) (y x : AV) (v : Value) (hf : fz h y x) (hr : R S w (some ρ) x v) : R (Froz S ρ) w none y v := by
  have up : ∀ {x : AV} {v : Value}, R S w none x v → R (Froz S ρ) w none x v := fun {x v} h => R.mono (S' := Froz S ρ) (w' := w) (fun k hk => .inl hk) (fun _ _ => rfl) (ρ := none) (ρ' := none) trivial x v h
  match y with
  | .i n =>
    simp only [fz] at hf; split at hf
    · simp only [R] at hr ⊢; rw [hr, hf ()]
    · simp only [R] at hr ⊢; rw [hr, hf ()]
    · exact hf.elim
  | .u n =>
    simp only [fz] at hf; split at hf
    · simp only [R] at hr ⊢; rw [hr, hf ()]
    · exact hf.elim
  | .b n =>
    simp only [fz] at hf; split at hf
    · simp only [R] at hr ⊢; rw [hr, hf ()]
    · simp only [R] at hr ⊢; rw [hr, hf ()]
    · simp only [R] at hr ⊢; rw [hr, hf ()]
    · exact hf.elim
  | .vs k es =>
    simp only [fz] at hf; split at hf
    · obtain ⟨rfl, e⟩ := hf; have e := e ()
      obtain ⟨a, cap, evs, h1, h2, h3, h4⟩ := up (x := .vs _ _) hr
      exact ⟨a, cap, evs, h1, h2, (l_inj e) ▸ h3, h4⟩
    · obtain ⟨a, rfl⟩ := hr
      exact ⟨a, 0, [], rfl, Nat.le_refl _, by rw [RL_iff, hf ()]; rfl, .inl rfl⟩
    · rename_i b g k' off len
      split at hf
      · rename_i g' kk es' hb
        obtain ⟨rfl, e⟩ := hf; obtain ⟨rfl, e1, e2⟩ := e ()
        obtain ⟨l, loc, a, cap, hl, q1, q2, q3, q4, rfl, q6, q7, q8⟩ := hr
        cases hl
        obtain ⟨_, d2, d3, bvs, d4, d5, d6⟩ := hh.blk b _ loc hb q1
        have d4' := (RL_iff _ _ _ _).1 d4
        have hbl : bvs.length = (es' ()).l.length := Rs_len d4'
        have hlt : ((bvs.drop (off ())).take (len ())).length = len () := by simp; omega
        refine ⟨a, cap, (bvs.drop (off ())).take (len ()), by rw [hlt], by rw [hlt]; exact q6, ?_, ?_⟩
        · rw [RL_iff, ← e2]
          exact Rs.mono (S := S) (fun k hk => .inl hk) (fun _ _ => rfl) (ρ := none) (ρ' := none) trivial _ _ (Rs_take (Rs_drop d4' _) _)
        · by_cases hn : len () = 0
          · left; simp [hn]
          · rcases q8 d2 with ⟨r1, r2, _⟩ | ⟨K, r1, r2, r3⟩
            · omega
            · rcases d6 with ⟨e1, _⟩ | ⟨K', cc, cty, m1, m2, m3, m4, m5⟩
              · rw [r1] at e1; cases e1
              · rw [r1] at m1; cases m1
                rcases r2 with r2 | r2
                · omega
                · right
                  refine ⟨_, r2, rfl, .inr ⟨b, loc, q1, r1⟩, fun i e he => ?_⟩
                  rw [List.getElem?_take] at he
                  split at he
                  · rw [List.getElem?_drop] at he
                    obtain ⟨f1, f2⟩ := m5 _ _ he
                    refine ⟨by rw [f1]; exact q3, fun j c hc => ?_⟩
                    rw [cell_heap m2, ← q3]
                    rw [show off () * loc.e + (i * loc.e + j) = (off () + i) * loc.e + j from by rw [Nat.add_mul]; omega]
                    exact f2 j c hc
                  · cases he
      · exact hf.elim
    · exact hf.elim
  | .vp u off =>
    simp only [fz] at hf; split at hf
    · obtain ⟨rfl, e⟩ := hf; have e := e ()
      obtain ⟨a, xv, h1, h2, h3, h4⟩ := up (x := .vp _ _) hr
      exact ⟨a, xv, h1, e ▸ h2, h3, h4⟩
    · rename_i b off'
      split at hf
      · rename_i x hb
        obtain ⟨rfl, e⟩ := hf
        obtain ⟨l, loc, K, hl, k1, k2, k3, rfl⟩ := hr
        cases hl
        obtain ⟨_, K', ty, xv, k4, k5, k6, k7⟩ := hh.blk b _ loc hb k1
        rw [k3] at k4; cases k4
        refine ⟨⟨K, 0, none⟩, xv, by simp, fz_sound hh (u ()) x xv e k6, .inr ⟨b, loc, k1, k3⟩, fun j c hc => ?_⟩
        rw [cell_heap k5]; simpa using hc
      · exact hf.elim
    · exact hf.elim
  | .agg ds =>
    simp only [fz] at hf; split at hf
    · obtain ⟨vals, h1, h2⟩ := hr
      exact ⟨vals, h1, fzs_sound hh ds _ vals hf h2⟩
    · exact hf.elim
  | .tup ds =>
    simp only [fz] at hf; split at hf
    · obtain ⟨vals, h1, h2⟩ := hr
      exact ⟨vals, h1, fzs_sound hh ds _ vals hf h2⟩
    · exact hf.elim
  | .fn f a c =>
    simp only [fz] at hf; split at hf
    · obtain ⟨rfl, f1, f2⟩ := hf
      obtain ⟨fv, cv, h1, h2, h3⟩ := hr
      exact ⟨fv, cv, h1, fzs_sound hh a _ fv f1 h2, fzs_sound hh c _ cv f2 h3⟩
    · exact hf.elim
  | .any => trivial
  | .raw u => simp only [fz] at hf; have hf := hf (); subst hf; exact hr
  | .np => simp only [fz] at hf; split at hf <;> first | exact hf.elim | exact hr
  | .nils => simp only [fz] at hf; split at hf <;> first | exact hf.elim | exact hr
  | .undef => simp only [fz] at hf; split at hf <;> first | exact hf.elim | exact hr
  | .vm ks vs =>
    simp only [fz] at hf; split at hf
    · obtain ⟨e1, e2⟩ := hf ()
      obtain ⟨K, kv, vv, ent, clock, h1, h2, h3, h4, h5, h6⟩ := up (x := .vm _ _) hr
      exact ⟨K, kv, vv, ent, clock, h1, h2, h3, (l_inj e1) ▸ h4, (l_inj e2) ▸ h5, h6⟩
    · rename_i b
      split at hf
      · rename_i ks' vs' hb
        obtain ⟨e1, e2⟩ := hf ()
        obtain ⟨l, loc, K, hl, k1, k2, k3, rfl⟩ := hr
        cases hl
        obtain ⟨_, K', kv, vv, ent, clock, m1, m2, m3, m4, m5⟩ := hh.blk b _ loc hb k1
        rw [k3] at m1; cases m1
        refine ⟨K, kv, vv, ent, clock, rfl, .inr ⟨b, loc, k1, k3⟩, m2, ?_, ?_, m5⟩
        · exact RL.mono (S := S) (w := w) (fun k hk => .inl hk) (fun _ _ => rfl) _ _ ((l_inj e1) ▸ m3)
        · exact RL.mono (S := S) (w := w) (fun k hk => .inl hk) (fun _ _ => rfl) _ _ ((l_inj e2) ▸ m4)
      · exact hf.elim
    · exact hf.elim
  | .tt | .ff | .lit _ | .ptr .. | .hp .. | .sl .. | .mp _ => simp [fz] at hf
theorem fzs_sound {B : Nat} {S : Nat → Prop} {ρ : List Loc} {h : List Blk} {w : World} (hh : HeapR B S γ ρ h w) (ys xs : List AV) (vals : List Value) (hf : fzs h ys xs) (hr : Rs S w (some ρ) xs vals) : Rs (Froz S ρ) w none ys vals := by
  match ys with
  | [] => simp only [fzs] at hf; split at hf <;> first | exact hf.elim | exact hr
  | y :: ys =>
    cases xs with
    | nil => exact hf.elim
    | cons x xs =>
      obtain ⟨f1, f2⟩ := hf
      obtain ⟨v, vs, rfl, h1, h2⟩ := hr
      exact ⟨v, vs, rfl, fz_sound hh y x v f1 h1, fzs_sound hh ys xs vs f2 h2⟩
end
end
end Go.AL

namespace Go.AL
open Go Go.RowKit

/-! ### What a function hands back -/
def vres (τ : Nat → TI) (h : List Blk) (s : Tr) : List ResultVar → (List AV → Prop) → Prop
  | [], k => k []
  | .tmp t :: r, k => vres τ h s r fun vs => k (s.get t :: vs)
  | .cell a t :: r, k => vload h (s.get a) (τ t) fun v => vres τ h s r fun vs => k (v :: vs)
def vresult : List AV → AV
  | [v] => v
  | vs => .tup vs

/-- the temporaries at the function's entry -/
def tr0 : Nat → List AV → Tr → Tr
  | _, [], t => t
  | i, v :: vs, t => tr0 (i + 1) vs (t.set' 10 i v)
def start (n : Nat) (args : List AV) (h : List Blk) : St := ⟨n, tr0 0 args .nil, h⟩
def bodyQ (τ : Nat → TI) (rs : List ResultVar) (Q : AV → List Blk → Prop) : Exit → St → Prop
  | .normal, A => vres τ A.h A.s rs fun vs => Q (vresult vs) A.h
  | .ret, A => vres τ A.h A.s rs fun vs => Q (vresult vs) A.h
  | _, _ => False

section
variable {P : Program} {γ : Nat → Option AV} {τ : Nat → TI}

theorem vload_asAddr {t : TypeId} {ti : TI} {h : List Blk} {p : AV} {k : AV → Prop} (hv : vload h p ti k) {S : Nat → Prop} {w : World} {ρ : Option (List Loc)} {p' : Value} (hp : R S w ρ p p') :
    (do loadVar t (← asAddr p')).run P w = (Instr.loadAt t p').run P w := by
  unfold vload at hv
  split at hv
  · obtain ⟨a, xv, rfl, _⟩ := hp; rfl
  · obtain ⟨l, loc, K, _, _, _, _, rfl⟩ := hp; rfl
  · obtain ⟨l, loc, ab, ao, _, _, _, _, rfl, _⟩ := hp; rfl
  · exact hv.elim

theorem run_vres (hτ : ∀ t, τ t = tiOf P t) {h : List Blk} {s : Tr} : ∀ (rs : List ResultVar) {k : List AV → Prop}, vres τ h s rs k →
    ∃ vs, k vs ∧ ∀ B S ρ w (tmps : Array Value), HeapR B S γ ρ h w → (∀ n, R S w (some ρ) (s.get n) (tmps.getD n Go.undef)) →
      ∃ vals, (rs.mapM (m := Sem) fun | .tmp t => pure (tmps.getD t Go.undef) | .cell a t => do loadVar t (← asAddr (tmps.getD a Go.undef))).run P w = .ok vals w ∧ Rs S w (some ρ) vs vals
  | [], k, hv => ⟨[], hv, fun B S ρ w tmps hh hs => ⟨[], rfl, rfl⟩⟩
  | .tmp t :: r, k, hv => by
    obtain ⟨vs, h1, h2⟩ := run_vres hτ r hv
    refine ⟨_, h1, fun B S ρ w tmps hh hs => ?_⟩
    obtain ⟨vals, h3, h4⟩ := h2 B S ρ w tmps hh hs
    refine ⟨_ :: vals, ?_, _, _, rfl, hs t, h4⟩
    simp only [List.mapM_cons, Sem.run_bind, Sem.run_pure, Result.andThen_ok, h3]
  | .cell a t :: r, k, hv => by
    simp only [vres, hτ] at hv
    obtain ⟨x, h1, h2⟩ := run_vload (γ := γ) hv
    obtain ⟨vs, h3, h4⟩ := run_vres hτ r h1
    refine ⟨_, h3, fun B S ρ w tmps hh hs => ?_⟩
    obtain ⟨x', k1, k2⟩ := h2 B S ρ w _ hh (hs a)
    obtain ⟨vals, k3, k4⟩ := h4 B S ρ w tmps hh hs
    refine ⟨x' :: vals, ?_, _, _, rfl, k2, k4⟩
    rw [List.mapM_cons, Sem.run_bind, vload_asAddr hv (hs a), k1]
    simp only [Result.andThen_ok, Sem.run_bind, Sem.run_pure, k3]

theorem run_results (hτ : ∀ t, τ t = tiOf P t) {fn : Func} {h : List Blk} {s : Tr} {k : List AV → Prop} (hv : vres τ h s fn.results.toList k) :
    ∃ vs, k vs ∧ ∀ B S ρ w (tmps : Array Value), HeapR B S γ ρ h w → (∀ n, R S w (some ρ) (s.get n) (tmps.getD n Go.undef)) →
      ∃ v, (results fn tmps).run P w = .ok v w ∧ R S w (some ρ) (vresult vs) v := by
  obtain ⟨vs, h1, h2⟩ := run_vres (γ := γ) hτ _ hv
  refine ⟨vs, h1, fun B S ρ w tmps hh hs => ?_⟩
  obtain ⟨vals, h3, h4⟩ := h2 B S ρ w tmps hh hs
  have : (results fn tmps).run P w = .ok (if h : vals.toArray.size = 1 then vals.toArray[0] else .tuple vals.toArray) w := by
    unfold results
    rw [Array.mapM_eq_mapM_toList]
    simp only [map_eq_pure_bind, bind_assoc, pure_bind]
    rw [Sem.run_bind]
    erw [h3]
    rfl
  rw [this]
  refine ⟨_, rfl, ?_⟩
  match vs, vals, h4 with
  | [], _, h => obtain rfl := h; exact ⟨[], rfl, rfl⟩
  | [x], _, ⟨v, _, rfl, hx, rfl⟩ => exact hx
  | x :: y :: r, _, ⟨v, _, rfl, hx, u, us, rfl, hy, hr⟩ =>
    rw [dif_neg (by simp)]
    exact ⟨v :: u :: us, rfl, v, _, rfl, hx, u, _, rfl, hy, hr⟩

theorem tr0_get : ∀ (vs : List AV) (i : Nat) (t : Tr) (n : Nat), i + vs.length < 1000 → (tr0 i vs t).get n = if i ≤ n ∧ n < i + vs.length then vs.getD (n - i) .undef else t.get n
  | [], i, t, n, _ => by
    rw [if_neg (by simp <;> omega)]; rfl
  | v :: vs, i, t, n, h => by
    simp only [List.length_cons] at h
    simp only [tr0, List.length_cons]
    rw [tr0_get vs (i + 1) _ n (by omega), Tr.get_set' 10 t i n v (by omega)]
    by_cases h1 : n = i
    · subst h1; rw [if_neg (by omega), if_pos rfl, if_pos (by omega)]; simp
    · by_cases h2 : i + 1 ≤ n ∧ n < i + 1 + vs.length
      · rw [if_pos h2, if_pos (by omega)]
        obtain ⟨m, rfl⟩ : ∃ m, n = i + 1 + m := ⟨n - (i + 1), by omega⟩
        rw [show i + 1 + m - (i + 1) = m by omega, show i + 1 + m - i = m + 1 by omega]; rfl
      · rw [if_neg h2, if_neg h1, if_neg (by omega)]

theorem Sim.start {B : Nat} {S : Nat → Prop} {ρ : List Loc} {h : List Blk} {w : World} (hh : HeapR B S γ ρ h w) {n : Nat} {args : List AV} {vals : List Value} (hr : Rs S w (some ρ) args vals) (hn : args.length ≤ n) (hb : n < 1000) :
    Sim B S γ ρ (start n args h) { tmps := vals.toArray ++ Array.replicate (n - vals.toArray.size) Go.undef, defers := [] } w := by
  have hlen := Rs_len hr
  refine ⟨rfl, by simp [AL.start]; omega, by simp [AL.start]; omega, fun m => ?_, hh⟩
  show R S w (some ρ) ((tr0 0 args .nil).get m) _
  rw [tr0_get _ _ _ _ (by omega)]
  have hgetD : (vals.toArray ++ Array.replicate (n - vals.toArray.size) Go.undef).getD m Go.undef = vals.getD m Go.undef := by
    rw [Array.getD_eq_getD_getElem?, List.getD_eq_getElem?_getD, Array.getElem?_append]
    by_cases hm : m < vals.length
    · simp [hm]
    · simp only [List.size_toArray, hm, if_false]
      rw [List.getElem?_eq_none (by omega)]
      by_cases h2 : m - vals.length < n - vals.length
      · simp [h2]
      · rw [Array.getElem?_eq_none (by simpa using h2)]
  rw [hgetD]
  by_cases hm : m < args.length
  · rw [if_pos (by omega)]
    obtain ⟨v, h1, h2⟩ := Rs_get hr (i := m) (List.getElem?_eq_getElem hm)
    simp only [Nat.sub_zero, List.getD_eq_getElem?_getD, List.getElem?_eq_getElem hm, h1]
    exact h2
  · rw [if_neg (by omega)]
    simp only [List.getD_eq_getElem?_getD, List.getElem?_eq_none (show vals.length ≤ m by omega)]
    rfl
end
end Go.AL

namespace Go.AL
open Go Go.RowKit

/-! ### Bodies, contracts -/
mutual
/-- holds nothing of memory -/
def AV.bare : AV → Bool
  | .any | .undef | .tt | .ff | .b _ | .lit _ | .i _ | .u _ | .raw _ | .np | .nils => true
  | .agg cs => bares cs
  | .tup cs => bares cs
  | .fn _ a c => bares a && bares c
  | _ => false
def bares : List AV → Bool
  | [] => true
  | c :: cs => c.bare && bares cs
end
mutual
/-- holds nothing that the function itself may write -/
def AV.stable : AV → Bool
  | .ptr .. | .hp .. | .sl .. | .mp _ => false
  | .agg cs => stables cs
  | .tup cs => stables cs
  | .fn _ a c => stables a && stables c
  | _ => true
def stables : List AV → Bool
  | [] => true
  | c :: cs => c.stable && stables cs
end

section
variable {P : Program} {γ : Nat → Option AV} {τ : Nat → TI}

mutual
theorem R_bare {S S' : Nat → Prop} {w w' : World} {m m' : Option (List Loc)} (x : AV) (v : Value) (hx : x.bare = true) (h : R S w m x v) : R S' w' m' x v := by
  match x with
  | .any | .undef | .tt | .ff | .b _ | .lit _ | .i _ | .u _ | .raw _ | .np | .nils => exact h
  | .agg cs =>
    obtain ⟨vals, h1, h2⟩ := h
    exact ⟨vals, h1, Rs_bare cs vals hx h2⟩
  | .tup cs =>
    obtain ⟨vals, h1, h2⟩ := h
    exact ⟨vals, h1, Rs_bare cs vals hx h2⟩
  | .fn f a c =>
    obtain ⟨fv, cv, h1, h2, h3⟩ := h
    simp only [AV.bare, Bool.and_eq_true] at hx
    exact ⟨fv, cv, h1, Rs_bare a fv hx.1 h2, Rs_bare c cv hx.2 h3⟩
  | .ptr .. | .hp .. | .sl .. | .mp _ | .vp .. | .vs .. | .vm .. => simp [AV.bare] at hx
theorem Rs_bare {S S' : Nat → Prop} {w w' : World} {m m' : Option (List Loc)} (xs : List AV) (vs : List Value) (hx : bares xs = true) (h : Rs S w m xs vs) : Rs S' w' m' xs vs := by
  match xs with
  | [] => exact h
  | x :: xs =>
    obtain ⟨v, vs, rfl, h1, h2⟩ := h
    simp only [bares, Bool.and_eq_true] at hx
    exact ⟨v, vs, rfl, R_bare x v hx.1 h1, Rs_bare xs vs hx.2 h2⟩
end
mutual
theorem R_stable {S : Nat → Prop} {w : World} {m m' : Option (List Loc)} (x : AV) (v : Value) (hx : x.stable = true) (h : R S w m x v) : R S w m' x v := by
  match x with
  | .any | .undef | .tt | .ff | .b _ | .lit _ | .i _ | .u _ | .raw _ | .np | .nils | .vp .. | .vs .. | .vm .. => exact h
  | .agg cs =>
    obtain ⟨vals, h1, h2⟩ := h
    exact ⟨vals, h1, Rs_stable cs vals hx h2⟩
  | .tup cs =>
    obtain ⟨vals, h1, h2⟩ := h
    exact ⟨vals, h1, Rs_stable cs vals hx h2⟩
  | .fn f a c =>
    obtain ⟨fv, cv, h1, h2, h3⟩ := h
    simp only [AV.stable, Bool.and_eq_true] at hx
    exact ⟨fv, cv, h1, Rs_stable a fv hx.1 h2, Rs_stable c cv hx.2 h3⟩
  | .ptr .. | .hp .. | .sl .. | .mp _ => simp [AV.stable] at hx
theorem Rs_stable {S : Nat → Prop} {w : World} {m m' : Option (List Loc)} (xs : List AV) (vs : List Value) (hx : stables xs = true) (h : Rs S w m xs vs) : Rs S w m' xs vs := by
  match xs with
  | [] => exact h
  | x :: xs =>
    obtain ⟨v, vs, rfl, h1, h2⟩ := h
    simp only [stables, Bool.and_eq_true] at hx
    exact ⟨v, vs, rfl, R_stable x v hx.1 h1, Rs_stable xs vs hx.2 h2⟩
end

theorem bodyQ_run (hτ : ∀ t, τ t = tiOf P t) {fn : Func} {Q : AV → List Blk → Prop} {e : Exit} {A : St} (h : bodyQ τ fn.results.toList Q e A) {B : Nat} {S : Nat → Prop} {ρ : List Loc} {a : Act} {w : World} (hs : Sim B S γ ρ A a w) {R' : Ending → World → Prop}
    (hR : ∀ v v', Q v A.h → R S w (some ρ) v v' → R' (.returned v') w) : bodyPost P fn R' e a w := by
  have go : vres τ A.h A.s fn.results.toList (fun vs => Q (vresult vs) A.h) → a.defers = [] ∧ ∃ v, (results fn a.tmps).run P w = .ok v w ∧ R' (.returned v) w := fun hv => by
    obtain ⟨vs, h1, h2⟩ := run_results (γ := γ) hτ hv
    obtain ⟨v, h3, h4⟩ := h2 B S ρ w a.tmps hs.heap hs.slot
    exact ⟨hs.nodef, v, h3, hR _ _ h1 h4⟩
  cases e with
  | normal => exact go h
  | ret => exact go h
  | _ => exact h.elim

/-- A CONTRACT, from the body's walk in the caller's abstract heap. -/
theorem SCalls.of_body (hτ : ∀ t, τ t = tiOf P t) {f : FuncId} {fn : Func} {c : Code} {n : Nat} {rs : List ResultVar} (hf : P.funcs[f]? = some fn) (hb : fn.body = some c) (hn : fn.ntmps = n) (hr : fn.results.toList = rs)
    (he : Enters P f) {args : List AV} {h : List Blk} {Q : AV → List Blk → Prop} (hsz : args.length ≤ n ∧ n < 1000) (h0 : AWP P γ c (bodyQ τ rs Q) (start n args h)) : SCalls P γ f args h Q := by
  subst hn; subst hr
  refine ⟨he, fun B S ρ w vals hh hargs => calls_of_wp hf hb ?_⟩
  refine wp_mono (h0 B S ρ _ w (Sim.start hh hargs hsz.1 hsz.2)) fun e a' w' ⟨S', ρ', A', h1, h2, h3⟩ => ?_
  exact bodyQ_run hτ h1 h2 fun v v' hv hr => ⟨v, A'.h, S', ρ', v', rfl, hv, hr, h2.heap, h3⟩

/-- A CONTRACT ON DATA. -/
theorem Pure.of_body (hτ : ∀ t, τ t = tiOf P t) {f : FuncId} {fn : Func} {c : Code} {n : Nat} {rs : List ResultVar} (hf : P.funcs[f]? = some fn) (hb : fn.body = some c) (hn : fn.ntmps = n) (hr : fn.results.toList = rs)
    (he : Enters P f) {args : List AV} {y : AV} (hsz : args.length ≤ n ∧ n < 1000) (h0 : AWP P γ c (bodyQ τ rs fun v h => fz h y v) (start n args [])) : Pure P γ false f args y := by
  subst hn; subst hr
  refine ⟨he, fun S w vals hS hg hargs => calls_of_wp hf hb ?_⟩
  have hh : HeapR w.heap.size S γ [] [] w := ⟨rfl, fun b blk loc h _ => by simp at h, fun b loc K h _ => by simp at h, fun b b' loc loc' K h _ _ _ => by simp at h, hS, hg, Nat.le_refl _⟩
  refine wp_mono (h0 w.heap.size S [] _ w (Sim.start hh (Rs.mono (S := S) (fun _ h => h) (fun _ _ => rfl) (ρ := none) (ρ' := some []) trivial _ _ hargs) hsz.1 hsz.2)) fun e a' w' ⟨S', ρ', A', h1, h2, h3⟩ => ?_
  refine bodyQ_run hτ h1 h2 fun v v' hv hr => ⟨v', Froz S' ρ', rfl, fz_sound h2.heap y v v' hv hr, h3.fr, h3.below, fun k hk => .inl (h3.sub k hk.2), fun k hk => ?_⟩
  rcases hk with hk | ⟨b, loc, hb, hk⟩
  · rcases h3.grow k hk with h4 | h4
    · exact .inl ⟨rfl, h4⟩
    · exact .inr ⟨h4, h2.heap.sle k hk⟩
  · obtain ⟨_, h5, h6⟩ := h2.heap.own b loc k hb hk
    exact .inr ⟨h6, h5⟩

theorem ExtQ.of_false {S S' : Nat → Prop} {w w' : World} (h : ExtQ (fun k => false = false ∧ S k) w S' w') : ExtQ S w S' w' :=
  ⟨h.fr, h.same, fun k hk => h.sub k ⟨rfl, hk⟩, fun k hk => (h.new k hk).imp (fun h => h.2) id⟩

/-- one value, whatever the caller's heap -/
theorem QCalls.of_bare {f : FuncId} {args args' : List AV} {y : AV} {h : List Blk} {k : AV → Prop} (hp : Pure P γ false f args' y) (hy : y.bare = true) (hf : fzs h args' args) (hk : k y) : QCalls P γ h f args k := by
  refine ⟨y, hk, hp.1, fun B S ρ w vals hh hr => ?_⟩
  refine (hp.2 (Froz S ρ) w vals ?_ ?_ (fzs_sound hh _ _ _ hf hr)).mono fun e w' ⟨v', S', h1, h2, h3⟩ => ?_
  · rintro k (hk | ⟨b, loc, hb, hk⟩)
    · exact hh.sle k hk
    · exact (hh.own b loc k hb hk).2.1
  · exact fun g x hg => R.mono (S := S) (fun k hk => .inl hk) (fun _ _ => rfl) (ρ := none) (ρ' := none) trivial _ _ (hh.gok g x hg)
  · exact ⟨v', S, h1, R_bare _ _ hy h2, ⟨h3.fr, h3.same, fun _ h => h, fun _ h => .inl h⟩⟩
theorem QCalls.of_stable {f : FuncId} {args : List AV} {y : AV} {h : List Blk} {k : AV → Prop} (hp : Pure P γ false f args y) (hs : stables args = true) (hk : k y) : QCalls P γ h f args k := by
  refine ⟨y, hk, hp.1, fun B S ρ w vals hh hr => ?_⟩
  refine (hp.2 S w vals hh.sle hh.gok (Rs_stable _ _ hs hr)).mono fun e w' ⟨v', S', h1, h2, h3⟩ => ?_
  exact ⟨v', S', h1, R.mono (S := S') (fun _ h => h) (fun _ _ => rfl) (ρ := none) (ρ' := some ρ) trivial _ _ h2, h3.of_false⟩
theorem SCalls.of_q {f : FuncId} {args : List AV} {h : List Blk} {Q : AV → List Blk → Prop} (hq : QCalls P γ h f args fun v => Q v h) : SCalls P γ f args h Q := by
  obtain ⟨v, hk, he, hc⟩ := hq
  refine ⟨he, fun B S ρ w vals hh hr => (hc B S ρ w vals hh hr).mono fun e w' ⟨v', S', h1, h2, h3⟩ => ?_⟩
  exact ⟨v, h, S', ρ, v', h1, hk, h2, hh.q h3, hh.ext h3⟩
theorem SCalls.mono {f : FuncId} {args : List AV} {h : List Blk} {Q Q' : AV → List Blk → Prop} (hs : SCalls P γ f args h Q) (hq : ∀ v h, Q v h → Q' v h) : SCalls P γ f args h Q' :=
  ⟨hs.1, fun B S ρ w vals hh hr => (hs.2 B S ρ w vals hh hr).mono fun _ _ ⟨v, h', S', ρ', v', h1, h2, h3⟩ => ⟨v, h', S', ρ', v', h1, hq _ _ h2, h3⟩⟩
theorem SCalls.of_bare {f : FuncId} {args args' : List AV} {y : AV} {h : List Blk} {Q : AV → List Blk → Prop} (hp : Pure P γ false f args' y) (hy : y.bare = true) (hf : fzs h args' args) (hk : Q y h) : SCalls P γ f args h Q := .of_q (.of_bare hp hy hf hk)
theorem SCalls.of_stable {f : FuncId} {args : List AV} {y : AV} {h : List Blk} {Q : AV → List Blk → Prop} (hp : Pure P γ false f args y) (hs : stables args = true) (hk : Q y h) : SCalls P γ f args h Q := .of_q (.of_stable hp hs hk)
end
end Go.AL

namespace Go.AL
open Go Go.RowKit

/-- THE WALK. Loops and regions that draw their order stay: 'W', 'D'. -/
def vc (τ : Nat → TI) (γ : Nat → Option AV) (C : EC) (D : Array Oper → (St → Prop) → St → Prop) (W : Code → (Exit → St → Prop) → St → Prop) : Code → (Exit → St → Prop) → St → Prop
  | .skip, Q, A => Q .normal A
  | .seq x y, Q, A => vc τ γ C D W x (thenE (fun A => vc τ γ C D W y Q A) Q) A
  | .cond c x y, Q, A => br (A.ev γ c) (fun _ => vc τ γ C D W x Q A) (fun _ => vc τ γ C D W y Q A)
  | .block id c, Q, A => vc τ γ C D W c (inBlk id Q) A
  | .exit id, Q, A => Q (.exit id) A
  | .ret, Q, A => Q .ret A
  | .region _ ops false, Q, A => vops τ γ C ops.toList ops.toList A (Q .normal)
  | .region _ ops true, Q, A => D ops (Q .normal) A
  | .loop c, Q, A => W c Q A
  | _, _, _ => False

section
variable {P : Program} {γ : Nat → Option AV} {τ : Nat → TI} {C : EC} {D : Array Oper → (St → Prop) → St → Prop} {W : Code → (Exit → St → Prop) → St → Prop}

theorem vc_sound (hτ : ∀ t, τ t = tiOf P t) (hC : ∀ f args h Q, C f args h Q → SCalls P γ f args h Q)
    (hD : ∀ id ops K (Q : Exit → St → Prop) A, (∀ A, K A → Q .normal A) → D ops K A → AWP P γ (.region id ops true) Q A) (hW : ∀ c Q A, W c Q A → AWP P γ (.loop c) Q A) :
    ∀ (c : Code) (Q : Exit → St → Prop) (A : St), vc τ γ C D W c Q A → AWP P γ c Q A
  | .skip, Q, A, h => AWP.skip h
  | .seq x y, Q, A, h => by
    refine AWP.seq ((vc_sound hτ hC hD hW x _ _ h).mono fun e A' h' => ?_)
    cases e with
    | normal => exact vc_sound hτ hC hD hW y _ _ h'
    | _ => exact h'
  | .cond c x y, Q, A, h => by
    refine AWP.cond ?_
    simp only [vc] at h
    generalize A.ev γ c = v at *
    cases v
    all_goals first | exact h.elim | skip
    all_goals simp only [br] at h ⊢
    all_goals first | exact vc_sound hτ hC hD hW _ _ _ h | skip
    exact ⟨fun u hu => vc_sound hτ hC hD hW x _ _ (h.1 u hu), fun u hu => vc_sound hτ hC hD hW y _ _ (h.2 u hu)⟩
  | .block id c, Q, A, h => AWP.block (vc_sound hτ hC hD hW c _ _ h)
  | .exit id, Q, A, h => AWP.exit h
  | .ret, Q, A, h => AWP.ret h
  | .region id ops false, Q, A, h => AWP.region hτ hC h
  | .region id ops true, Q, A, h => hD id ops _ Q A (fun _ h => h) h
  | .loop c, Q, A, h => hW c Q A h
  | .scope .., _, _, h => h.elim
  | .goto _, _, _, h => h.elim
  | .label _, _, _, h => h.elim
  | .refuse _, _, _, h => h.elim
  | .rangeFunc .., _, _, h => h.elim
end
end Go.AL

namespace Go.AL
open Go

/-- the table's equations, node by node -/
def TT.Ok (P : Program) (n : Nat) : TT → Nat → Nat → Prop
  | .nil, a, _ => n ≤ a
  | .node v l r, a, b => v = tiOf P a ∧ TT.Ok P n l (a + b) (2 * b) ∧ TT.Ok P n r (a + 2 * b) (2 * b)
theorem TT.Ok.get {P : Program} {n : Nat} : ∀ {tt : TT} {a b : Nat}, TT.Ok P n tt a b → ∀ k, a + b * k < n → tt.get k = tiOf P (a + b * k)
  | .nil, a, b, h, k, hk => by
    simp only [TT.Ok] at h
    omega
  | .node v l r, a, b, ⟨h1, h2, h3⟩, k, hk => by
    simp only [TT.get]
    by_cases h0 : k = 0
    · subst h0; simpa using h1
    · rw [if_neg h0]
      by_cases ho : k % 2 = 1
      · obtain ⟨m, rfl⟩ : ∃ m, k = 2 * m + 1 := ⟨k / 2, by omega⟩
        have e : a + b + 2 * b * m = a + b * (2 * m + 1) := by rw [Nat.mul_add, ← Nat.mul_assoc, Nat.mul_comm 2 b]; simp only [Nat.mul_one]; ac_rfl
        rw [if_pos ho, show (2 * m + 1) / 2 = m by omega, h2.get m (by omega), e]
      · obtain ⟨m, rfl⟩ : ∃ m, k = 2 * m + 2 := ⟨k / 2 - 1, by omega⟩
        have e : a + 2 * b + 2 * b * m = a + b * (2 * m + 2) := by rw [Nat.mul_add, ← Nat.mul_assoc, Nat.mul_comm 2 b]; ac_rfl
        rw [if_neg ho, show (2 * m + 2) / 2 - 1 = m by omega, h3.get m (by omega), e]
/-- the table, where it reaches -/
def TT.ty (P : Program) (n : Nat) (tt : TT) : Nat → Nat → TI
  | 0, t => tiOf P t
  | f + 1, t => if t < n then tt.get t else TT.ty P n tt f t
theorem TT.ok {P : Program} {tt : TT} {n : Nat} (h : TT.Ok P n tt 0 1) (t : Nat) : tt.ty P n 1 t = tiOf P t := by
  simp only [TT.ty]
  split
  · rename_i ht; simpa using h.get t (by omega)
  · rfl
end Go.AL

namespace Go.AL
open Go Go.RowKit

/-! ### Regions that draw their order -/
def Tr.top : Tr → AV | .nil => .undef | .node v _ _ => v
def Tr.lf : Tr → Tr | .nil => .nil | .node _ l _ => l
def Tr.rt : Tr → Tr | .nil => .nil | .node _ _ r => r
theorem Tr.set'_succ (t : Tr) (f n : Nat) (v : AV) : t.set' (f + 1) n v = if n = 0 then .node v t.lf t.rt else if n % 2 = 1 then .node t.top (t.lf.set' f (n / 2) v) t.rt else .node t.top t.lf (t.rt.set' f (n / 2 - 1) v) := by
  cases t <;> simp only [Tr.set', Tr.top, Tr.lf, Tr.rt]
theorem Tr.set'_comm : ∀ (f : Nat) (t : Tr) (n m : Nat) (v u : AV), n ≠ m → (t.set' f n v).set' f m u = (t.set' f m u).set' f n v
  | 0, t, n, m, v, u, _ => by cases t <;> rfl
  | f + 1, t, n, m, v, u, h => by
    by_cases n0 : n = 0
    · by_cases m0 : m = 0
      · omega
      · by_cases m1 : m % 2 = 1 <;> simp [Tr.set'_succ, n0, m0, m1, Tr.top, Tr.lf, Tr.rt]
    · by_cases m0 : m = 0
      · by_cases n1 : n % 2 = 1 <;> simp [Tr.set'_succ, n0, m0, n1, Tr.top, Tr.lf, Tr.rt]
      · by_cases n1 : n % 2 = 1 <;> by_cases m1 : m % 2 = 1 <;> simp only [Tr.set'_succ, n0, m0, n1, m1, if_true, if_false, Tr.top, Tr.lf, Tr.rt]
        · rw [Tr.set'_comm f _ _ _ _ _ (by omega)]
        · rw [Tr.set'_comm f _ _ _ _ _ (by omega)]

theorem St.put_comm (A : St) {x y : Option Tmp} (v u : AV) (h : ∀ d, x = some d → y ≠ some d) : (A.put x v).put y u = (A.put y u).put x v := by
  cases x with
  | none => rfl
  | some d =>
    cases y with
    | none => rfl
    | some e =>
      have hne : d ≠ e := fun he => h d rfl (he ▸ rfl)
      simp only [St.put]
      by_cases h1 : d < A.n <;> by_cases h2 : e < A.n <;> simp only [h1, h2, if_true, if_false]
      rw [Tr.set'_comm 10 _ _ _ _ _ hne]
theorem St.put_n (A : St) (x : Option Tmp) (v : AV) : (A.put x v).n = A.n := by cases x <;> simp only [St.put]; split <;> rfl
theorem St.put_h (A : St) (x : Option Tmp) (v : AV) : (A.put x v).h = A.h := by cases x <;> simp only [St.put]; split <;> rfl
theorem St.put_get {A : St} (hn : A.n ≤ 1000) {x : Option Tmp} {m : Nat} (v : AV) (h : x ≠ some m) : (A.put x v).s.get m = A.s.get m := by
  cases x with
  | none => rfl
  | some d =>
    simp only [St.put]
    split
    · rename_i hd
      have hd : @LT.lt Nat _ d A.n := hd
      show (A.s.set' 10 d v).get m = _
      rw [Tr.get_set' 10 _ _ _ _ (by omega), if_neg (fun e => h (by rw [e]))]
    · rfl
theorem St.put_ev {γ : Nat → Option AV} {A : St} (hn : A.n ≤ 1000) {x : Option Tmp} (v : AV) {o : Operand} (h : ∀ d, x = some d → o ≠ .tmp d) : (A.put x v).ev γ o = A.ev γ o := by
  cases o with
  | tmp t => exact St.put_get hn v (fun e => h t e rfl)
  | _ => rfl

/-- whether an operation comes up, where that is told -/
def wantA (ops : Array Oper) (o : Oper) (A : St) : Option Bool :=
  match o.guard with
  | none => some true
  | some (j, want) => match (ops[j]?).bind (·.dst) with
    | some d => match A.s.get d with
      | .tt => some want
      | .ff => some (!want)
      | .undef => some false
      | _ => none
    | none => none

section
variable {P : Program} {γ : Nat → Option AV} {ops : Array Oper} {md : Region.Mode} {al : Option AV}

theorem wantA_sound {B : Nat} {S : Nat → Prop} {ρ : List Loc} {A : St} {a : Act} {w : World} (hs : Sim B S γ ρ A a w) {o : Oper} {b : Bool} (h : wantA ops o A = some b) : Region.wanted o (yielded ops a.tmps) = b := by
  unfold wantA at h
  unfold Region.wanted
  cases hg : o.guard with
  | none => rw [hg] at h; cases h; rfl
  | some g =>
    obtain ⟨j, want⟩ := g
    rw [hg] at h
    simp only at h ⊢
    cases hd : (ops[j]?).bind (·.dst) with
    | none => rw [hd] at h; cases h
    | some d =>
      rw [hd] at h
      simp only at h
      have hslot := hs.slot d
      obtain ⟨oj, hj, hd'⟩ : ∃ oj, ops[j]? = some oj ∧ oj.dst = some d := by
        cases hj : ops[j]? with
        | none => rw [hj] at hd; cases hd
        | some oj => rw [hj] at hd; exact ⟨oj, rfl, hd⟩
      have hy : yielded ops a.tmps j = match a.tmps.getD d Go.undef with | .bool b => some b | _ => none := yielded_eq (ops := ops) (by simpa using hj) hd' a.tmps
      rw [hy]
      split at h
      · rename_i e; rw [e] at hslot
        have e2 : a.tmps.getD d Go.undef = .bool true := hslot
        rw [e2]; have h := Option.some.inj h; subst h; cases want <;> rfl
      · rename_i e; rw [e] at hslot
        have e2 : a.tmps.getD d Go.undef = .bool false := hslot
        rw [e2]; have h := Option.some.inj h; subst h; cases want <;> rfl
      · rename_i e; rw [e] at hslot
        have e2 : a.tmps.getD d Go.undef = Go.undef := hslot
        rw [e2]; cases h; simp [Go.undef]
      · cases h
theorem wantA_put {o : Oper} {A : St} (hn : A.n ≤ 1000) {dst : Option Tmp} {v : AV} (h : ∀ d, dst = some d → d ∉ o.looksAt ops) : wantA ops o (A.put dst v) = wantA ops o A := by
  unfold wantA
  cases hg : o.guard with
  | none => rfl
  | some g =>
    obtain ⟨j, want⟩ := g
    simp only
    cases hd : (ops[j]?).bind (·.dst) with
    | none => rfl
    | some d =>
      simp only
      rw [St.put_get hn v (fun e => h d e (by unfold Oper.looksAt; rw [hg]; simp [hd]))]

theorem QOp.congr {o : Oper} {e e' : Operand → AV} {h : List Blk} {v : AV} (hq : QOp P γ o e h v) (he : ∀ x ∈ o.op.operands, e' x = e x) : QOp P γ o e' h v :=
  fun B S ρ w re a next Q' hh hx hn => hq B S ρ w re a next Q' hh (fun x hm => he x hm ▸ hx x hm) hn

/-- What operation 'o' yields in state 'A'. -/
def YieldsA (P : Program) (γ : Nat → Option AV) (al : Option AV) (ops : Array Oper) (o : Oper) (v : AV) (A : St) : Prop :=
  (((∀ t, o.op ≠ .alloc t) ∧ wantA ops o A = some true ∧ QOp P γ o (A.ev γ) A.h v) ∨ (wantA ops o A = some false ∧ v = .undef)) ∨
    ∃ t z h0, o.op = .alloc t ∧ o.guard = none ∧ al = some z ∧ (tiOf P t).k.isOther = false ∧ (tiOf P t).zero = some z ∧ z.flat = true ∧ A.h = h0 ++ [Blk.any] ∧ v = .ptr h0.length 0
def aOp (P : Program) (γ : Nat → Option AV) (al : Option AV) (ops : Array Oper) (i : Nat) (K : St → Prop) (A : St) : Prop :=
  match ops[i]? with
  | none => K A
  | some o => ∃ v, YieldsA P γ al ops o v A ∧ K (A.put o.dst v)
theorem aOp_mono {i : Nat} {A : St} {K K' : St → Prop} (hn : A.n ≤ 1000) (h : ∀ A, A.n ≤ 1000 → K A → K' A) (hh : aOp P γ al ops i K A) : aOp P γ al ops i K' A := by
  unfold aOp at *
  split
  · rename_i ho; simp only [ho] at hh; exact h _ hn hh
  · rename_i o ho
    simp only [ho] at hh
    obtain ⟨v, h1, h2⟩ := hh
    exact ⟨v, h1, h _ (by rw [St.put_n]; exact hn) h2⟩
theorem YieldsA.put {o : Oper} {v : AV} {A : St} (hn : A.n ≤ 1000) (hy : YieldsA P γ al ops o v A) {dst : Option Tmp} {u : AV} (h : ∀ d, dst = some d → d ∉ o.looksAt ops) : YieldsA P γ al ops o v (A.put dst u) := by
  unfold YieldsA at *
  rw [wantA_put hn h, St.put_h]
  refine hy.imp (fun hy => hy.imp (fun ⟨h0, h1, h2⟩ => ⟨h0, h1, h2.congr fun x hx => St.put_ev hn u fun d hd e => ?_⟩) id) id
  subst e
  exact h d hd (List.mem_append_left _ (List.mem_filterMap.2 ⟨.tmp d, by simpa using hx, rfl⟩))
theorem YieldsA.unput {o : Oper} {v : AV} {A : St} (hn : A.n ≤ 1000) {dst : Option Tmp} {u : AV} (hy : YieldsA P γ al ops o v (A.put dst u)) (h : ∀ d, dst = some d → d ∉ o.looksAt ops) : YieldsA P γ al ops o v A := by
  unfold YieldsA at *
  rw [wantA_put hn h, St.put_h] at hy
  refine hy.imp (fun hy => hy.imp (fun ⟨h0, h1, h2⟩ => ⟨h0, h1, h2.congr fun x hx => (St.put_ev hn u fun d hd e => ?_).symm⟩) id) id
  subst e
  exact h d hd (List.mem_append_left _ (List.mem_filterMap.2 ⟨.tmp d, by simpa using hx, rfl⟩))

theorem aOp_put {j : Nat} {oi oj : Oper} {v : AV} (hj : ops[j]? = some oj) (hap : oi.apart ops oj = true) {K : St → Prop} {A : St} (hn : A.n ≤ 1000)
    (hy : YieldsA P γ al ops oi v A) (h : aOp P γ al ops j K (A.put oi.dst v)) : aOp P γ al ops j (fun A' => YieldsA P γ al ops oi v A' ∧ K (A'.put oi.dst v)) A := by
  obtain ⟨h1, h2, h3⟩ := Oper.apart_spec hap
  unfold aOp at *
  simp only [hj] at *
  obtain ⟨u, hu, hK⟩ := h
  exact ⟨u, hu.unput hn h1, hy.put hn h3, by rw [← St.put_comm A v u h2]; exact hK⟩

/-- Whatever order is picked: the first 'n' operations; then 'L'. -/
def wpAnyA (P : Program) (γ : Nat → Option AV) (al : Option AV) (md : Region.Mode) (ops : Array Oper) (n : Nat) (L : Array Bool → St → Prop) : Nat → Array Bool → St → Prop
  | 0, listed, A => L listed A
  | f + 1, listed, A => Region.ready md ops listed ≠ [] ∧ ∀ i ∈ Region.ready md ops listed, i < n ∧ aOp P γ al ops i (wpAnyA P γ al md ops n L f (listed.setIfInBounds i true)) A

theorem wpOp_of_aOp {B : Nat} {S : Nat → Prop} {ρ : List Loc} {A : St} {a : Act} {w : World} (hs : Sim B S γ ρ A a w) {i : Nat} {K : St → Prop} {K' : Act → World → Prop} {Q' : Exit → Act → World → Prop}
    (h : aOp P γ none ops i K A) (hK : ∀ S' A' a' w', K A' → Sim B S' γ ρ A' a' w' → ExtQ S w S' w' → K' a' w') : wpOp P ops Q' i K' a w := by
  unfold aOp at h
  unfold wpOp
  split
  · rename_i ho; simp only [ho] at h; exact hK S A a w h hs (ExtQ.refl S w)
  · rename_i o ho
    simp only [ho] at h
    obtain ⟨v, hy, hk⟩ := h
    rcases hy with (⟨_, h1, h2⟩ | ⟨h1, h2⟩) | ⟨_, _, _, _, _, h, _⟩
    · rw [if_pos (wantA_sound hs h1)]
      refine .inl (h2 B S ρ w a.eval a _ _ hs.heap (fun x _ => hs.ev x) fun S' w' v' hq hv => ?_)
      exact hK S' _ _ w' hk ((hs.q hq).put o.dst hv) hq
    · rw [if_neg (by rw [wantA_sound hs h1]; simp)]
      subst h2
      exact hK S _ _ w hk (hs.put o.dst (v := .undef) (v' := Go.undef) rfl) (ExtQ.refl S w)
    · cases h

theorem wpAny_of_A {n g : Nat} {L : Array Bool → St → Prop} {Q' : Exit → Act → World → Prop} {B : Nat} {S : Nat → Prop} {ρ : List Loc} {w : World}
    (hL : ∀ listed S' A a w', L listed A → Sim B S' γ ρ A a w' → ExtQ S w S' w' → wpAny P md ops Q' g listed a w') :
    ∀ (f : Nat) (listed : Array Bool) (S' : Nat → Prop) (A : St) (a : Act) (w' : World), Sim B S' γ ρ A a w' → ExtQ S w S' w' → wpAnyA P γ none md ops n L f listed A → wpAny P md ops Q' (f + g) listed a w'
  | 0, listed, S', A, a, w', hs, hx, h => by rw [Nat.zero_add]; exact hL _ _ _ _ _ h hs hx
  | f + 1, listed, S', A, a, w', hs, hx, h => by
    rw [show f + 1 + g = (f + g) + 1 by omega]
    exact ⟨fun h0 => absurd h0 h.1, fun i hi => wpOp_of_aOp hs (h.2 i hi).2 fun S'' A'' a'' w'' hk hs' hq => wpAny_of_A hL f _ S'' A'' a'' w'' hs' (hx.trans hq) hk⟩

theorem wpAnyA_first {n i : Nat} {oi : Oper} {v : AV} {L : Array Bool → St → Prop} (hi : ops[i]? = some oi) (hin : i < n)
    (hhead : ∀ (listed : Array Bool), HeadInv md ops n listed → listed.getD i true = false → ∀ j ∈ Region.ready md ops listed, j < n)
    (hdone : ∀ listed A, L listed A → ∀ j ∈ Region.ready md ops listed, n ≤ j) :
    ∀ (f : Nat) (listed : Array Bool) (A : St), A.n ≤ 1000 → HeadInv md ops n listed →
      (∀ j oj, ops[j]? = some oj → j ≠ i → listed.getD j true = false → (∀ e ∈ oj.after, Region.binds md e = true → e.on ≠ i) → oi.apart ops oj = true) →
      i ∈ Region.ready md ops listed → YieldsA P γ al ops oi v A →
      wpAnyA P γ al md ops n L f (listed.setIfInBounds i true) (A.put oi.dst v) → wpAnyA P γ al md ops n L (f + 1) listed A := by
  intro f
  induction f with
  | zero =>
    intro listed A hn inv _ hr hy H
    have hun := (mem_ready.1 hr).1
    refine ⟨fun h => (by rw [h] at hr; cases hr), fun j hj => ?_⟩
    have hjn : j < n := hhead listed inv hun j hj
    refine ⟨hjn, ?_⟩
    by_cases hji : j = i
    · subst hji; unfold aOp; simp only [hi]; exact ⟨v, hy, H⟩
    · have := hdone _ _ H j (ready_mono hj hji)
      omega
  | succ f ih =>
    intro listed A hn inv hfree hr hy H
    have hun := (mem_ready.1 hr).1
    refine ⟨fun h => (by rw [h] at hr; cases hr), fun j hj => ?_⟩
    have hjn : j < n := hhead listed inv hun j hj
    refine ⟨hjn, ?_⟩
    by_cases hji : j = i
    · subst hji; unfold aOp; simp only [hi]; exact ⟨v, hy, H⟩
    · have h1 := (H.2 j (ready_mono hj hji)).2
      obtain ⟨hjun, oj, hoj, hall⟩ := mem_ready.1 hj
      have hnot : ∀ e ∈ oj.after, Region.binds md e = true → e.on ≠ i := fun e he hb heq => by
        have h1 := hall e he hb
        rw [heq, getD_both hun] at h1
        cases h1
      have h2 := aOp_put hoj (hfree j oj hoj hji hjun hnot) hn hy h1
      have hfree' : ∀ k ok, ops[k]? = some ok → k ≠ i → (listed.setIfInBounds j true).getD k true = false →
          (∀ e ∈ ok.after, Region.binds md e = true → e.on ≠ i) → oi.apart ops ok = true := fun k ok hk hki hun hno => by
        refine hfree k ok hk hki ?_ hno
        by_cases hjk : j = k
        · subst hjk; exact hjun
        · rw [getD_set_ne true hjk] at hun; exact hun
      refine aOp_mono hn (fun A' hn' h3 => ih (listed.setIfInBounds j true) A' hn' (inv.set hj hjn) hfree' (ready_mono hr (Ne.symm hji)) h3.1 ?_) h2
      rw [Array.setIfInBounds_comm _ _ hji]
      exact h3.2
end
end Go.AL

namespace Go.AL
open Go Go.RowKit

/-- a truth that decides whether others come up is told apart -/
def isGuard (ops : Array Oper) (d : Option Tmp) : Bool :=
  ops.any fun o => match o.guard with | some (j, _) => (match ops[j]? with | some oj => oj.dst == d | none => false) | none => false
def splitG (g : Bool) (v : AV) (k : AV → Prop) : Prop :=
  match g with
  | false => k v
  | true => match v with
    | .b x => (∀ _ : Unit, x () = true → k .tt) ∧ (∀ _ : Unit, x () = false → k .ff)
    | v => k v

/-- THE LEXICAL WALK of operations that write nothing. -/
def vhd (τ : Nat → TI) (γ : Nat → Option AV) (C : List Blk → QC) (ops : Array Oper) : List Oper → St → (St → Prop) → Prop
  | [], A, K => K A
  | o :: r, A, K => match wantA ops o A with
    | some true => vq τ (C A.h) o.op (A.ev γ) A.h fun v => splitG (isGuard ops o.dst) v fun v => vhd τ γ C ops r (A.put o.dst v) K
    | some false => vhd τ γ C ops r (A.put o.dst .undef) K
    | none => False
def drawB (ops : Array Oper) (n : Nat) : Bool :=
  if n < ops.size then Region.lexTailB .any ops n else Region.noSelect ops && decide (n = ops.size) && Region.lexHead .any ops 0 n 0 (Array.replicate ops.size false)

section
variable {P : Program} {γ : Nat → Option AV} {τ : Nat → TI} {C : EC} {CQ : List Blk → QC}
def wpLexA (P : Program) (γ : Nat → Option AV) (al : Option AV) (ops : Array Oper) (K : St → Prop) : List Oper → St → Prop
  | [], A => K A
  | o :: r, A => ∃ v, YieldsA P γ al ops o v A ∧ wpLexA P γ al ops K r (A.put o.dst v)

theorem QOp.b {o : Oper} {e : Operand → AV} {h : List Blk} {x : Unit → Bool} (hq : QOp P γ o e h (.b x)) {v : AV} (hv : ∀ S w m u, R S w m (.b x) u → R S w m v u) : QOp P γ o e h v :=
  fun B S ρ w re a next Q' hh hx hn => hq B S ρ w re a next Q' hh hx fun S' w' v' h1 h2 => hn S' w' v' h1 (hv S' w' _ v' h2)

theorem vhd_sound (hτ : ∀ t, τ t = tiOf P t) (hC : ∀ h f args k, CQ h f args k → QCalls P γ h f args k) {ops : Array Oper} {K : St → Prop} : ∀ (l : List Oper) (A : St), vhd τ γ CQ ops l A K → wpLexA P γ none ops K l A
  | [], A, h => h
  | o :: r, A, h => by
    simp only [vhd] at h
    cases hw : wantA ops o A with
    | none => rw [hw] at h; exact h.elim
    | some b =>
      rw [hw] at h
      cases b with
      | false => exact ⟨.undef, .inl (.inr ⟨hw, rfl⟩), vhd_sound hτ hC r _ h⟩
      | true =>
        simp only at h
        have hna : ∀ t, o.op ≠ .alloc t := fun t e => by rw [e] at h; exact h
        obtain ⟨v, h1, h2⟩ := vq_sound (γ := γ) hτ (hC A.h) h
        cases hg : isGuard ops o.dst with
        | false => rw [hg] at h1; exact ⟨v, .inl (.inl ⟨hna, hw, h2⟩), vhd_sound hτ hC r _ h1⟩
        | true =>
          rw [hg] at h1
          simp only [splitG] at h1
          split at h1
          · rename_i x
            cases hx : x () with
            | true => exact ⟨.tt, .inl (.inl ⟨hna, hw, h2.b fun S w m u hu => by have hu : u = .bool (x ()) := hu; rw [hx] at hu; exact hu⟩), vhd_sound hτ hC r _ (h1.1 () hx)⟩
            | false => exact ⟨.ff, .inl (.inl ⟨hna, hw, h2.b fun S w m u hu => by have hu : u = .bool (x ()) := hu; rw [hx] at hu; exact hu⟩), vhd_sound hτ hC r _ (h1.2 () hx)⟩
          · exact ⟨v, .inl (.inl ⟨hna, hw, h2⟩), vhd_sound hτ hC r _ h1⟩

theorem wpAnyA_lex {al : Option AV} {md : Region.Mode} {ops : Array Oper} {n g : Nat} {Lq : St → Prop}
    (hhead : ∀ (i : Nat), i < n → ∀ (listed : Array Bool), HeadInv md ops n listed → listed.getD i true = false → ∀ j ∈ Region.ready md ops listed, j < n) :
    ∀ (l : List Oper) (k : Nat) (listed : Array Bool) (A : St), A.n ≤ 1000 → (∀ j, j < l.length → l[j]? = ops[k + j]?) → k + l.length = n → HeadInv md ops n listed →
    Region.lexHead md ops g l.length k listed = true → (∀ j, j < k → listed.getD j true = true) → wpLexA P γ al ops Lq l A →
    wpAnyA P γ al md ops n (fun listed' A' => (Region.seqB md ops g n listed' = true ∧ ∀ j, j < n → listed'.getD j true = true) ∧ Lq A') l.length listed A
  | [], k, listed, A, hn, _, hk, _, hB, hd, h => by
    have : k = n := by simpa using hk
    subst this
    exact ⟨⟨by simpa [Region.lexHead] using hB, hd⟩, h⟩
  | o :: l, k, listed, A, hn, hl, hk, inv, hB, hd, h => by
    have h0 : ops[k]? = some o := by simpa using (hl 0 (by simp)).symm
    simp only [List.length_cons, Region.lexHead, Bool.and_eq_true] at hB
    obtain ⟨⟨hr, hf⟩, hB'⟩ := hB
    have hkn : k < n := by simp only [List.length_cons] at hk; omega
    have hr' : k ∈ Region.ready md ops listed := by simpa using hr
    obtain ⟨v, hy, hK⟩ := h
    exact wpAnyA_first h0 hkn (hhead k hkn) (fun listed' A' hL => seqB_ready hL.1.1) l.length listed A hn inv (Region.free_spec h0 hf) hr' hy
      (wpAnyA_lex hhead l (k + 1) _ _ (by rw [St.put_n]; exact hn) (fun j hj => by have := hl (j + 1) (by simp; omega); simpa [Nat.add_assoc, Nat.add_comm 1 j] using this) (by simp only [List.length_cons] at hk; omega) (inv.set hr' hkn) hB' (fun j hj => by
        by_cases e : k = j
        · subst e
          have hlt : k < listed.size := by
            rcases Nat.lt_or_ge k listed.size with h | h
            · exact h
            · have := (mem_ready.1 hr').1; rw [Array.getD_eq_getD_getElem?, Array.getElem?_eq_none h] at this; cases this
          rw [Array.getD_eq_getD_getElem?, Array.getElem?_setIfInBounds_self_of_lt hlt]; rfl
        · rw [getD_set_ne true e]; exact hd j (by omega)) hK)

theorem wp_region_A {id : Nat} {Q : Exit → Act → World → Prop} {ops : Array Oper} {B : Nat} {S : Nat → Prop} {ρ : List Loc} {A : St} {a : Act} {w : World} {K : St → Prop} (n : Nat) (hm : P.follows .mixedOrders = true) (hB : drawB ops n = true) (hs : Sim B S γ ρ A a w)
    (h : wpLexA P γ none ops K (ops.toList.take n) A) (hK : ∀ S' A' a' w', K A' → Sim B S' γ ρ A' a' w' → Ext B S ρ w S' ρ w' → wpList P ops Q (ops.toList.drop n) a' w') : (Code.region id ops true).wp P Q a w := by
  have hs1 : Sim B S γ ρ A a { w with drawn := w.drawn + 1 } ∧ ExtQ S w S { w with drawn := w.drawn + 1 } := by
    have hq : ExtQ S w S { w with drawn := w.drawn + 1 } := ⟨⟨rfl, rfl, rfl, Nat.le_refl _, fun _ => rfl⟩, fun _ _ => rfl, fun _ h => h, fun _ h => .inl h⟩
    exact ⟨hs.q hq, hq⟩
  have inv0 : HeadInv .any ops n (Array.replicate ops.size false) :=
    ⟨by simp, fun j oj _ hl => (by rw [getD_replicate_false] at hl; cases hl), fun t _ ht => getD_in (by simpa using ht) (getD_replicate_false _ _)⟩
  have fin : ∀ (g : Nat), n + g = ops.size → (∀ (i : Nat), i < n → ∀ (listed : Array Bool), HeadInv .any ops n listed → listed.getD i true = false → ∀ j ∈ Region.ready .any ops listed, j < n) →
      Region.lexHead .any ops g n 0 (Array.replicate ops.size false) = true → (Code.region id ops true).wp P Q a w := by
    intro g hg hhead hlex
    have htl : (ops.toList.take n).length = n := by simp; omega
    have hdl : (ops.toList.drop n).length = g := by simp; omega
    have H := wpAnyA_lex (P := P) (γ := γ) (md := .any) (g := g) hhead (ops.toList.take n) 0 (Array.replicate ops.size false) A hs.small (fun j hj => by
      have hj' : j < n := by rw [htl] at hj; exact hj
      simp [hj']) (by simpa using htl) inv0 (by rw [htl]; exact hlex) (fun j hj => absurd hj (by omega)) h
    refine wp_region_any hm ?_
    have := wpAny_of_A (P := P) (γ := γ) (Q' := Q) (g := g) (B := B) (S := S) (ρ := ρ) (w := { w with drawn := w.drawn + 1 }) (fun listed S' A' a' w' hL hs' hq' => by
      have := wpAny_of_seq (md := .any) (Q' := Q) (ops.toList.drop n) n listed a' w' (fun j => by simp [List.getElem?_drop]) (by rw [hdl]; exact hL.1.1) (hK S' A' a' w' hL.2 hs' (hs.heap.ext (hs1.2.trans hq')))
      rwa [hdl] at this) _ _ S A a _ hs1.1 (ExtQ.refl _ _) H
    rw [htl, show n + g = ops.size by omega] at this
    exact this
  unfold drawB at hB
  split at hB
  · rename_i hn
    simp only [Region.lexTailB, Bool.and_eq_true, decide_eq_true_eq] at hB
    obtain ⟨⟨⟨⟨hsel, _⟩, hs'⟩, hc⟩, hlex⟩ := hB
    exact fin (ops.size - n) (by omega) (fun i hi listed inv hun j hj => by
      rcases Nat.lt_or_ge j n with h | h
      · exact h
      · exact absurd hj (tail_waits hs' hc hn inv _ i rfl hi hun j h)) hlex
  · simp only [Bool.and_eq_true, decide_eq_true_eq] at hB
    obtain ⟨⟨hsel, hn⟩, hlex⟩ := hB
    exact fin 0 (by omega) (fun i hi listed inv hun j hj => by
      obtain ⟨_, oj, hoj, _⟩ := mem_ready.1 hj
      have := (Array.getElem?_eq_some_iff.1 hoj).1
      omega) hlex

/-- A REGION THAT DRAWS: the first 'n' operations write nothing; the others come one behind the other. -/
theorem AWP.draw (hτ : ∀ t, τ t = tiOf P t) (hC : ∀ f args h Q, C f args h Q → SCalls P γ f args h Q) (hCQ : ∀ h f args k, CQ h f args k → QCalls P γ h f args k) (hm : P.follows .mixedOrders = true)
    {id : Nat} {ops : Array Oper} {Q : Exit → St → Prop} {A : St} (n : Nat) (hB : drawB ops n = true)
    (hv : vhd τ γ CQ ops (ops.toList.take n) A fun A => vops τ γ C ops.toList (ops.toList.drop n) A (Q .normal)) : AWP P γ (.region id ops true) Q A := by
  intro B S ρ a w hs
  refine wp_region_A n hm hB hs (vhd_sound hτ hCQ _ _ hv) fun S' A' a' w' hv' hs' hx => ?_
  exact vops_sound hτ hC _ A' B S' ρ a' w' hs' hv' fun S'' ρ'' A'' a'' w'' h1 h2 h3 => ⟨S'', ρ'', A'', h1, h2, hx.trans h3⟩
end
end Go.AL

namespace Go.AL
open Go Go.RowKit

/-! ### To know less: loops' heads -/
mutual
/-- 'y' tells no more than 'x', and of the first 'n' blocks only -/
def leV (n : Nat) : AV → AV → Prop
  | .any, _ => True
  | .i k, x => match x with | .i m => ∀ _ : Unit, m () = k () | .lit m => ∀ _ : Unit, m = k () | _ => False
  | .lit k, x => match x with | .i m => ∀ _ : Unit, m () = k | .lit m => ∀ _ : Unit, m = k | _ => False
  | .u k, x => match x with | .u m => ∀ _ : Unit, m () = k () | _ => False
  | .b k, x => match x with | .b m => ∀ _ : Unit, m () = k () | .tt => ∀ _ : Unit, k () = true | .ff => ∀ _ : Unit, k () = false | _ => False
  | .tt, x => match x with | .b m => ∀ _ : Unit, m () = true | .tt => True | _ => False
  | .ff, x => match x with | .b m => ∀ _ : Unit, m () = false | .ff => True | _ => False
  | .vs k es, x => match x with | .vs k' es' => k' = k ∧ ∀ _ : Unit, es' () = es () | .nils => ∀ _ : Unit, (es ()).l = [] | _ => False
  | .vp v off, x => match x with | .vp v' off' => off' = off ∧ ∀ _ : Unit, v' () = v () | _ => False
  | .vm ks vs, x => match x with | .vm ks' vs' => ∀ _ : Unit, ks' () = ks () ∧ vs' () = vs () | _ => False
  | .agg cs, x => match x with | .agg ds => leVs n cs ds | _ => False
  | .tup cs, x => match x with | .tup ds => leVs n cs ds | _ => False
  | .fn f a c, x => match x with | .fn f' a' c' => f' = f ∧ leVs n a a' ∧ leVs n c c' | _ => False
  | .ptr b off, x => match x with | .ptr b' off' => b' = b ∧ off' = off ∧ b < n | _ => False
  | .hp b g i off, x => match x with | .hp b' g' i' off' => b' = b ∧ off' = off ∧ b < n ∧ ∀ _ : Unit, g' = g ∧ i' () = i () | _ => False
  | .sl b g k off len, x => match x with | .sl b' g' k' off' len' => b' = b ∧ k' = k ∧ b < n ∧ ∀ _ : Unit, g' = g ∧ off' () = off () ∧ len' () = len () | _ => False
  | .mp b, x => match x with | .mp b' => b' = b ∧ b < n | _ => False
  | .np, x => match x with | .np => True | _ => False
  | .nils, x => match x with | .nils => True | _ => False
  | .undef, x => match x with | .undef => True | _ => False
  | .raw v, x => ∀ _ : Unit, x = .raw v
def leVs (n : Nat) : List AV → List AV → Prop
  | [], xs => match xs with | [] => True | _ => False
  | y :: ys, xs => match xs with | x :: xs => leV n y x ∧ leVs n ys xs | [] => False
end
def undefT : Tr → Prop
  | .nil => True
  | .node v l r => leV 0 .undef v ∧ undefT l ∧ undefT r
def leT (n : Nat) : Tr → Tr → Prop
  | .nil, x => undefT x
  | .node v l r, x => leV n v x.top ∧ leT n l x.lf ∧ leT n r x.rt
def leB (n : Nat) : Blk → Blk → Prop
  | .any, _ => True
  | .box v, x => match x with | .box v' => leV n v v' ∧ v.flat = true | _ => False
  | .run g k es, x => match x with | .run g' k' es' => k' = k ∧ ∀ _ : Unit, g' = g ∧ es' () = es () | _ => False
  | .map ks vs, x => match x with | .map ks' vs' => ∀ _ : Unit, ks' () = ks () ∧ vs' () = vs () | _ => False
def leH (n : Nat) : List Blk → List Blk → Prop
  | [], _ => True
  | y :: ys, xs => match xs with | x :: xs => leB n y x ∧ leH n ys xs | [] => False
def leSt0 (n : Nat) (y x : St) : Prop := y.n = x.n ∧ leT n y.s x.s ∧ leH n y.h x.h
/-! the same; and a slice of a block that is left out reads on as data -/
mutual
def leVF (n : Nat) (h : List Blk) (y x : AV) : Prop :=
  match y with
  | .vs k es => match x with
    | .sl b g k' off len => match h[b]? with
      | some (.run g' _ es') => k' = k ∧ n ≤ b ∧ ∀ _ : Unit, g' = g ∧ off () + len () ≤ (es' ()).l.length ∧ (((es' ()).l.drop (off ())).take (len ())) = (es ()).l
      | _ => False
    | x => leV n (.vs k es) x
  | .agg cs => match x with | .agg ds => leVFs n h cs ds | _ => False
  | .tup cs => match x with | .tup ds => leVFs n h cs ds | _ => False
  | .fn f a c => match x with | .fn f' a' c' => f' = f ∧ leVFs n h a a' ∧ leVFs n h c c' | _ => False
  | y => leV n y x
def leVFs (n : Nat) (h : List Blk) : List AV → List AV → Prop
  | [], xs => match xs with | [] => True | _ => False
  | y :: ys, xs => match xs with | x :: xs => leVF n h y x ∧ leVFs n h ys xs | [] => False
end
def leTF (n : Nat) (h : List Blk) : Tr → Tr → Prop
  | .nil, x => undefT x
  | .node v l r, x => leVF n h v x.top ∧ leTF n h l x.lf ∧ leTF n h r x.rt
def leBF (n : Nat) (h : List Blk) (y x : Blk) : Prop :=
  match y with
  | .box v => match x with | .box v' => leVF n h v v' ∧ v.flat = true | _ => False
  | y => leB n y x
def leHF (n : Nat) (h : List Blk) : List Blk → List Blk → Prop
  | [], _ => True
  | y :: ys, xs => match xs with | x :: xs => leBF n h y x ∧ leHF n h ys xs | [] => False
def leSt (n : Nat) (y x : St) : Prop := y.n = x.n ∧ leTF n x.h y.s x.s ∧ leHF n x.h y.h x.h

section
variable {P : Program} {γ : Nat → Option AV}

theorem take_get {l : List Loc} {n b : Nat} {loc : Loc} (h : l[b]? = some loc) (hb : b < n) : (l.take n)[b]? = some loc := by
  rw [List.getElem?_take, if_pos hb]; exact h
theorem get_take {l : List Loc} {n b : Nat} {loc : Loc} (h : (l.take n)[b]? = some loc) : b < n ∧ l[b]? = some loc := by
  rw [List.getElem?_take] at h
  split at h
  · exact ⟨by assumption, h⟩
  · cases h

mutual
theorem R_le {n : Nat} {S : Nat → Prop} {w : World} {ρ : List Loc} (y x : AV) (v : Value) (hl : leV n y x) (h : R S w (some ρ) x v) : R S w (some (ρ.take n)) y v := by
  match y with
  | .any => trivial
  | .i k =>
    simp only [leV] at hl; split at hl <;> first | exact hl.elim | skip
    all_goals (simp only [R] at h ⊢; rw [h, hl ()])
  | .lit k =>
    simp only [leV] at hl; split at hl <;> first | exact hl.elim | skip
    all_goals (simp only [R] at h ⊢; rw [h, hl ()])
  | .u k =>
    simp only [leV] at hl; split at hl <;> first | exact hl.elim | skip
    all_goals (simp only [R] at h ⊢; rw [h, hl ()])
  | .b k =>
    simp only [leV] at hl; split at hl <;> first | exact hl.elim | skip
    all_goals (simp only [R] at h ⊢; rw [h, hl ()])
  | .tt =>
    simp only [leV] at hl; split at hl <;> first | exact hl.elim | skip
    · simp only [R] at h ⊢; rw [h, hl ()]
    · exact h
  | .ff =>
    simp only [leV] at hl; split at hl <;> first | exact hl.elim | skip
    · simp only [R] at h ⊢; rw [h, hl ()]
    · exact h
  | .vs k es =>
    simp only [leV] at hl; split at hl <;> first | exact hl.elim | skip
    · obtain ⟨rfl, e⟩ := hl; have e := e ()
      obtain ⟨a, cap, evs, h1, h2, h3, h4⟩ := h
      exact ⟨a, cap, evs, h1, h2, e ▸ h3, h4⟩
    · obtain ⟨a, rfl⟩ := h
      exact ⟨a, 0, [], rfl, Nat.le_refl _, by rw [RL_iff, hl ()]; rfl, .inl rfl⟩
  | .vp u off =>
    simp only [leV] at hl; split at hl <;> first | exact hl.elim | skip
    obtain ⟨rfl, e⟩ := hl; have e := e ()
    obtain ⟨a, xv, h1, h2, h3, h4⟩ := h
    exact ⟨a, xv, h1, e ▸ h2, h3, h4⟩
  | .vm ks vs =>
    simp only [leV] at hl; split at hl <;> first | exact hl.elim | skip
    obtain ⟨e1, e2⟩ := hl ()
    obtain ⟨K, kv, vv, ent, clock, h1, h2, h3, h4, h5, h6⟩ := h
    exact ⟨K, kv, vv, ent, clock, h1, h2, h3, e1 ▸ h4, e2 ▸ h5, h6⟩
  | .agg cs =>
    simp only [leV] at hl; split at hl <;> first | exact hl.elim | skip
    obtain ⟨vals, h1, h2⟩ := h
    exact ⟨vals, h1, Rs_le cs _ vals hl h2⟩
  | .tup cs =>
    simp only [leV] at hl; split at hl <;> first | exact hl.elim | skip
    obtain ⟨vals, h1, h2⟩ := h
    exact ⟨vals, h1, Rs_le cs _ vals hl h2⟩
  | .fn f a c =>
    simp only [leV] at hl; split at hl <;> first | exact hl.elim | skip
    obtain ⟨rfl, e1, e2⟩ := hl
    obtain ⟨fv, cv, h1, h2, h3⟩ := h
    exact ⟨fv, cv, h1, Rs_le a _ fv e1 h2, Rs_le c _ cv e2 h3⟩
  | .ptr b off =>
    simp only [leV] at hl; split at hl <;> first | exact hl.elim | skip
    obtain ⟨rfl, rfl, hb⟩ := hl
    obtain ⟨l, loc, K, hl, k1, k2⟩ := h
    cases hl
    exact ⟨_, loc, K, rfl, take_get k1 hb, k2⟩
  | .hp b g i off =>
    simp only [leV] at hl; split at hl <;> first | exact hl.elim | skip
    obtain ⟨rfl, rfl, hb, e0⟩ := hl; obtain ⟨rfl, e⟩ := e0 ()
    obtain ⟨l, loc, ab, ao, hl, k1, k2, k3, k4, k5⟩ := h
    cases hl
    exact ⟨_, loc, ab, ao, rfl, take_get k1 hb, k2, k3, k4, e ▸ k5⟩
  | .sl b g k off len =>
    simp only [leV] at hl; split at hl <;> first | exact hl.elim | skip
    obtain ⟨rfl, rfl, hb, e0⟩ := hl; obtain ⟨rfl, e1, e2⟩ := e0 ()
    obtain ⟨l, loc, a, cap, hl, k1, k2, k3, k4, k5, k6, k7, k8⟩ := h
    cases hl
    exact ⟨_, loc, a, cap, rfl, take_get k1 hb, k2, k3, k4, e2 ▸ k5, e2 ▸ k6, k7, e1 ▸ k8⟩
  | .mp b =>
    simp only [leV] at hl; split at hl <;> first | exact hl.elim | skip
    obtain ⟨rfl, hb⟩ := hl
    obtain ⟨l, loc, K, hl, k1, k2⟩ := h
    cases hl
    exact ⟨_, loc, K, rfl, take_get k1 hb, k2⟩
  | .np => simp only [leV] at hl; split at hl <;> first | exact hl.elim | exact h
  | .nils => simp only [leV] at hl; split at hl <;> first | exact hl.elim | exact h
  | .undef => simp only [leV] at hl; split at hl <;> first | exact hl.elim | exact h
  | .raw u => simp only [leV] at hl; have hl := hl (); subst hl; exact h
theorem Rs_le {n : Nat} {S : Nat → Prop} {w : World} {ρ : List Loc} (ys xs : List AV) (vs : List Value) (hl : leVs n ys xs) (h : Rs S w (some ρ) xs vs) : Rs S w (some (ρ.take n)) ys vs := by
  match ys with
  | [] => simp only [leVs] at hl; split at hl <;> first | exact hl.elim | exact h
  | y :: ys =>
    simp only [leVs] at hl; split at hl <;> first | exact hl.elim | skip
    obtain ⟨v, vs, rfl, h1, h2⟩ := h
    exact ⟨v, vs, rfl, R_le y _ v hl.1 h1, Rs_le ys _ vs hl.2 h2⟩
end

theorem undefT_get : ∀ {x : Tr}, undefT x → ∀ k, x.get k = .undef
  | .nil, _, k => rfl
  | .node v l r, ⟨h1, h2, h3⟩, k => by
    simp only [Tr.get]
    split
    · cases v <;> first | rfl | exact h1.elim
    · split
      · exact undefT_get h2 (k / 2)
      · exact undefT_get h3 (k / 2 - 1)
theorem Tr.get_eq (x : Tr) (k : Nat) : x.get k = if k = 0 then x.top else if k % 2 = 1 then x.lf.get (k / 2) else x.rt.get (k / 2 - 1) := by
  cases x with
  | nil => simp only [Tr.get, Tr.top, Tr.lf, Tr.rt]; split <;> (try split) <;> rfl
  | node v l r => rfl
theorem leT_get {n : Nat} : ∀ {y x : Tr}, leT n y x → ∀ k, leV n (y.get k) (x.get k)
  | .nil, x, h, k => by rw [undefT_get h k]; simp [Tr.get, leV]
  | .node v l r, x, ⟨h1, h2, h3⟩, k => by
    rw [Tr.get_eq x]
    simp only [Tr.get]
    split
    · exact h1
    · split
      · exact leT_get h2 (k / 2)
      · exact leT_get h3 (k / 2 - 1)
theorem leH_get {n : Nat} : ∀ {ys xs : List Blk}, leH n ys xs → ∀ (b : Nat) (y : Blk), ys[b]? = some y → ∃ x, xs[b]? = some x ∧ leB n y x
  | [], _, _, b, y, hy => by simp at hy
  | y :: ys, xs, h, b, y', hy => by
    cases xs with
    | nil => exact h.elim
    | cons x xs =>
      obtain ⟨h1, h2⟩ := h
      cases b with
      | zero => simp at hy; subst hy; exact ⟨x, rfl, h1⟩
      | succ b => simpa using leH_get h2 b y' (by simpa using hy)
theorem leH_len {n : Nat} {ys xs : List Blk} (h : leH n ys xs) : ys.length ≤ xs.length := by
  rcases Nat.lt_or_ge xs.length ys.length with hlt | hge
  · obtain ⟨x, hx, _⟩ := leH_get h xs.length _ (List.getElem?_eq_getElem hlt)
    simp at hx
  · exact hge

theorem Sim.le0 {n : Nat} {B : Nat} {S : Nat → Prop} {ρ : List Loc} {A A' : St} {a : Act} {w : World} (hs : Sim B S γ ρ A a w) (hl : leSt0 n A' A) (hn : A'.h.length = n) : Sim B S γ (ρ.take n) A' a w := by
  obtain ⟨h1, h2, h3⟩ := hl
  have hlen := leH_len h3
  have hρ := hs.heap.len
  refine ⟨hs.nodef, by rw [hs.size, h1], by rw [h1]; exact hs.small, fun k => R_le _ _ _ (leT_get h2 k) (hs.slot k), ?_⟩
  refine ⟨by simp; omega, fun b blk loc hb hloc => ?_, fun b loc K hloc hK => hs.heap.own b loc K (get_take hloc).2 hK, fun b b' loc loc' K e1 e2 => hs.heap.inj b b' loc loc' K (get_take e1).2 (get_take e2).2, hs.heap.sle, hs.heap.gok, hs.heap.bsz⟩
  obtain ⟨_, hloc'⟩ := get_take hloc
  obtain ⟨x, hx, hle⟩ := leH_get h3 b blk hb
  have hb' := hs.heap.blk b x loc hx hloc'
  cases blk with
  | any => trivial
  | box v =>
    simp only [leB] at hle; split at hle <;> first | exact hle.elim | skip
    obtain ⟨k1, K, ty, xv, k2, k3, k4, k5⟩ := hb'
    exact ⟨k1, K, ty, xv, k2, k3, R_le _ _ _ hle.1 k4, hle.2⟩
  | run g k es =>
    simp only [leB] at hle; split at hle <;> first | exact hle.elim | skip
    obtain ⟨rfl, e0⟩ := hle; obtain ⟨rfl, e⟩ := e0 ()
    obtain ⟨k1, k2, k3, evs, k4, k5⟩ := hb'
    exact ⟨k1, k2, k3, evs, e ▸ k4, k5⟩
  | map ks vs =>
    simp only [leB] at hle; split at hle <;> first | exact hle.elim | skip
    obtain ⟨e1, e2⟩ := hle ()
    obtain ⟨k1, K, kv, vv, ent, clock, k2, k3, k4, k5, k6⟩ := hb'
    exact ⟨k1, K, kv, vv, ent, clock, k2, k3, e1 ▸ k4, e2 ▸ k5, k6⟩


mutual
theorem leVF_of {n : Nat} {h : List Blk} (y x : AV) (hl : leV n y x) : leVF n h y x := by
  match y with
  | .vs k es => cases x <;> first | exact hl | (simp only [leV] at hl)
  | .agg cs => simp only [leV] at hl; split at hl <;> first | exact hl.elim | exact leVFs_of cs _ hl
  | .tup cs => simp only [leV] at hl; split at hl <;> first | exact hl.elim | exact leVFs_of cs _ hl
  | .fn f a c =>
    simp only [leV] at hl; split at hl <;> first | exact hl.elim | skip
    exact ⟨hl.1, leVFs_of a _ hl.2.1, leVFs_of c _ hl.2.2⟩
  | .any | .undef | .tt | .ff | .b _ | .lit _ | .i _ | .u _ | .raw _ | .np | .nils | .ptr .. | .hp .. | .sl .. | .mp _ | .vp .. | .vm .. => exact hl
theorem leVFs_of {n : Nat} {h : List Blk} (ys xs : List AV) (hl : leVs n ys xs) : leVFs n h ys xs := by
  match ys with
  | [] => exact hl
  | y :: ys =>
    simp only [leVs] at hl; split at hl <;> first | exact hl.elim | skip
    exact ⟨leVF_of y _ hl.1, leVFs_of ys _ hl.2⟩
end
theorem leTF_of {n : Nat} {h : List Blk} : ∀ (y x : Tr), leT n y x → leTF n h y x
  | .nil, _, hl => hl
  | .node v l r, x, ⟨h1, h2, h3⟩ => ⟨leVF_of _ _ h1, leTF_of l _ h2, leTF_of r _ h3⟩
theorem leHF_of {n : Nat} {h : List Blk} : ∀ (ys xs : List Blk), leH n ys xs → leHF n h ys xs
  | [], _, _ => trivial
  | y :: ys, xs, hl => by
    cases xs with
    | nil => exact hl.elim
    | cons x xs =>
      refine ⟨?_, leHF_of ys xs hl.2⟩
      have h1 := hl.1
      cases y with
      | box v =>
        simp only [leB] at h1; split at h1 <;> first | exact h1.elim | skip
        exact ⟨leVF_of _ _ h1.1, h1.2⟩
      | _ => exact h1

/-- what stays, the blocks from 'n' on being left out -/
abbrev SF (n : Nat) (S : Nat → Prop) (ρ : List Loc) : Nat → Prop := fun k => S k ∨ ∃ (b : Nat) (loc : Loc), n ≤ b ∧ ρ[b]? = some loc ∧ loc.k = some k
mutual
theorem R_leF {n B : Nat} {S : Nat → Prop} {w : World} {ρ : List Loc} {h : List Blk} (hh : HeapR B S γ ρ h w) (y x : AV) (v : Value) (hl : leVF n h y x) (hr : R S w (some ρ) x v) : R (SF n S ρ) w (some (ρ.take n)) y v := by
  have old : leV n y x → R (SF n S ρ) w (some (ρ.take n)) y v := fun hl => R.mono (S := S) (fun k hk => .inl hk) (fun _ _ => rfl) (ρ := some (ρ.take n)) (ρ' := some (ρ.take n)) (Up.refl _) _ _ (R_le y x v hl hr)
  match y with
  | .vs k es =>
    cases x with
    | sl b g k' off len =>
      simp only [leVF] at hl
      split at hl
      · rename_i g' kk es' hb
        obtain ⟨rfl, hnb, e⟩ := hl; obtain ⟨rfl, e1, e2⟩ := e ()
        obtain ⟨l, loc, a, cap, hl, q1, q2, q3, q4, rfl, q6, q7, q8⟩ := hr
        cases hl
        obtain ⟨_, d2, d3, bvs, d4, d5, d6⟩ := hh.blk b _ loc hb q1
        have d4' := (RL_iff _ _ _ _).1 d4
        have hbl : bvs.length = (es' ()).l.length := Rs_len d4'
        have hlt : ((bvs.drop (off ())).take (len ())).length = len () := by simp; omega
        refine ⟨a, cap, (bvs.drop (off ())).take (len ()), by rw [hlt], by rw [hlt]; exact q6, ?_, ?_⟩
        · rw [RL_iff, ← e2]
          exact Rs.mono (S := S) (fun k hk => .inl hk) (fun _ _ => rfl) (ρ := none) (ρ' := none) trivial _ _ (Rs_take (Rs_drop d4' _) _)
        · by_cases hn : len () = 0
          · left; simp [hn]
          · rcases q8 d2 with ⟨r1, r2, _⟩ | ⟨K, r1, r2, r3⟩
            · omega
            · rcases d6 with ⟨e1, _⟩ | ⟨K', cc, cty, m1, m2, m3, m4, m5⟩
              · rw [r1] at e1; cases e1
              · rw [r1] at m1; cases m1
                rcases r2 with r2 | r2
                · omega
                · right
                  refine ⟨_, r2, rfl, .inr ⟨b, loc, hnb, q1, r1⟩, fun i e he => ?_⟩
                  rw [List.getElem?_take] at he
                  split at he
                  · rw [List.getElem?_drop] at he
                    obtain ⟨f1, f2⟩ := m5 _ _ he
                    refine ⟨by rw [f1]; exact q3, fun j c hc => ?_⟩
                    rw [cell_heap m2, ← q3]
                    rw [show off () * loc.e + (i * loc.e + j) = (off () + i) * loc.e + j from by rw [Nat.add_mul]; omega]
                    exact f2 j c hc
                  · cases he
      · exact hl.elim
    | _ => exact old hl
  | .agg cs =>
    simp only [leVF] at hl; split at hl <;> first | exact hl.elim | skip
    obtain ⟨vals, h1, h2⟩ := hr
    exact ⟨vals, h1, Rs_leF hh cs _ vals hl h2⟩
  | .tup cs =>
    simp only [leVF] at hl; split at hl <;> first | exact hl.elim | skip
    obtain ⟨vals, h1, h2⟩ := hr
    exact ⟨vals, h1, Rs_leF hh cs _ vals hl h2⟩
  | .fn f a c =>
    simp only [leVF] at hl; split at hl <;> first | exact hl.elim | skip
    obtain ⟨rfl, e1, e2⟩ := hl
    obtain ⟨fv, cv, h1, h2, h3⟩ := hr
    exact ⟨fv, cv, h1, Rs_leF hh a _ fv e1 h2, Rs_leF hh c _ cv e2 h3⟩
  | .any | .undef | .tt | .ff | .b _ | .lit _ | .i _ | .u _ | .raw _ | .np | .nils | .ptr .. | .hp .. | .sl .. | .mp _ | .vp .. | .vm .. => exact old hl
theorem Rs_leF {n B : Nat} {S : Nat → Prop} {w : World} {ρ : List Loc} {h : List Blk} (hh : HeapR B S γ ρ h w) (ys xs : List AV) (vs : List Value) (hl : leVFs n h ys xs) (hr : Rs S w (some ρ) xs vs) : Rs (SF n S ρ) w (some (ρ.take n)) ys vs := by
  match ys with
  | [] => simp only [leVFs] at hl; split at hl <;> first | exact hl.elim | exact hr
  | y :: ys =>
    simp only [leVFs] at hl; split at hl <;> first | exact hl.elim | skip
    obtain ⟨v, vs, rfl, h1, h2⟩ := hr
    exact ⟨v, vs, rfl, R_leF hh y _ v hl.1 h1, Rs_leF hh ys _ vs hl.2 h2⟩
end
theorem leTF_get {n : Nat} {h : List Blk} : ∀ {y x : Tr}, leTF n h y x → ∀ k, leVF n h (y.get k) (x.get k)
  | .nil, x, hl, k => by rw [undefT_get hl k]; simp [Tr.get, leVF, leV]
  | .node v l r, x, ⟨h1, h2, h3⟩, k => by
    rw [Tr.get_eq x]
    simp only [Tr.get]
    split
    · exact h1
    · split
      · exact leTF_get h2 (k / 2)
      · exact leTF_get h3 (k / 2 - 1)
theorem leHF_get {n : Nat} {h : List Blk} : ∀ {ys xs : List Blk}, leHF n h ys xs → ∀ (b : Nat) (y : Blk), ys[b]? = some y → ∃ x, xs[b]? = some x ∧ leBF n h y x
  | [], _, _, b, y, hy => by simp at hy
  | y :: ys, xs, hl, b, y', hy => by
    cases xs with
    | nil => exact hl.elim
    | cons x xs =>
      obtain ⟨h1, h2⟩ := hl
      cases b with
      | zero => simp at hy; subst hy; exact ⟨x, rfl, h1⟩
      | succ b => simpa using leHF_get h2 b y' (by simpa using hy)
theorem leHF_len {n : Nat} {h : List Blk} {ys xs : List Blk} (hl : leHF n h ys xs) : ys.length ≤ xs.length := by
  rcases Nat.lt_or_ge xs.length ys.length with hlt | hge
  · obtain ⟨x, hx, _⟩ := leHF_get hl xs.length _ (List.getElem?_eq_getElem hlt)
    simp at hx
  · exact hge
theorem Sim.le {n : Nat} {B : Nat} {S : Nat → Prop} {ρ : List Loc} {A A' : St} {a : Act} {w : World} (hs : Sim B S γ ρ A a w) (hl : leSt n A' A) (hn : A'.h.length = n) : Sim B (SF n S ρ) γ (ρ.take n) A' a w ∧ ∀ k, SF n S ρ k → S k ∨ B ≤ k := by
  obtain ⟨h1, h2, h3⟩ := hl
  have hlen := leHF_len h3
  have hρ := hs.heap.len
  have up : ∀ k, S k → SF n S ρ k := fun k hk => .inl hk
  refine ⟨⟨hs.nodef, by rw [hs.size, h1], by rw [h1]; exact hs.small, fun k => R_leF hs.heap _ _ _ (leTF_get h2 k) (hs.slot k), ?_⟩, fun k hk => ?_⟩
  · refine ⟨by simp; omega, fun b blk loc hb hloc => ?_, fun b loc K hloc hK => ?_, fun b b' loc loc' K e1 e2 => hs.heap.inj b b' loc loc' K (get_take e1).2 (get_take e2).2, fun k hk => ?_, fun g x hg => R.mono up (fun _ _ => rfl) (ρ := none) (ρ' := none) trivial _ _ (hs.heap.gok g x hg), hs.heap.bsz⟩
    · obtain ⟨_, hloc'⟩ := get_take hloc
      obtain ⟨x, hx, hle⟩ := leHF_get h3 b blk hb
      have hb' := hs.heap.blk b x loc hx hloc'
      cases blk with
      | any => trivial
      | box v =>
        simp only [leBF] at hle; split at hle <;> first | exact hle.elim | skip
        obtain ⟨k1, K, ty, xv, k2, k3, k4, k5⟩ := hb'
        exact ⟨k1, K, ty, xv, k2, k3, R_leF hs.heap _ _ _ hle.1 k4, hle.2⟩
      | run g k es =>
        simp only [leBF, leB] at hle; split at hle <;> first | exact hle.elim | skip
        obtain ⟨rfl, e0⟩ := hle; obtain ⟨rfl, e⟩ := e0 ()
        obtain ⟨k1, k2, k3, evs, k4, k5⟩ := hb'
        exact ⟨k1, k2, k3, evs, RL.mono up (fun _ _ => rfl) _ _ (e ▸ k4), k5⟩
      | map ks vs =>
        simp only [leBF, leB] at hle; split at hle <;> first | exact hle.elim | skip
        obtain ⟨e1, e2⟩ := hle ()
        obtain ⟨k1, K, kv, vv, ent, clock, k2, k3, k4, k5, k6⟩ := hb'
        exact ⟨k1, K, kv, vv, ent, clock, k2, k3, RL.mono up (fun _ _ => rfl) _ _ (e1 ▸ k4), RL.mono up (fun _ _ => rfl) _ _ (e2 ▸ k5), k6⟩
    · obtain ⟨hbn, hloc'⟩ := get_take hloc
      obtain ⟨m1, m2, m3⟩ := hs.heap.own b loc K hloc' hK
      refine ⟨fun hk => ?_, m2, m3⟩
      rcases hk with hk | ⟨b', loc', e1, e2, e3⟩
      · exact m1 hk
      · have := hs.heap.inj b b' loc loc' K hloc' e2 hK e3
        omega
    · rcases hk with hk | ⟨b', loc', e1, e2, e3⟩
      · exact hs.heap.sle k hk
      · exact (hs.heap.own b' loc' k e2 e3).2.1
  · rcases hk with hk | ⟨b', loc', e1, e2, e3⟩
    · exact .inl hk
    · exact .inr (hs.heap.own b' loc' k e2 e3).2.2

theorem LocsUp.take {ρ ρ' : List Loc} (h : LocsUp ρ ρ') : LocsUp ρ (ρ'.take ρ.length) := by
  intro b loc hb
  obtain ⟨loc', h1, h2⟩ := h b loc hb
  exact ⟨loc', take_get h1 (List.getElem?_eq_some_iff.1 hb).1, h2⟩

/-- A LOOP: states told by an index, less than what is known. -/
theorem AWP.loopI {c : Code} {Q : Exit → St → Prop} {A : St} {ι : Type} (n : Nat) (inv : ι → St) (ok : ι → Prop) (m : ι → Nat) (j0 : ι) (hA : A.h.length = n) (hn : ∀ j, (inv j).h.length = n)
    (h0 : ok j0 ∧ leSt n (inv j0) A) (round : ∀ j, ok j → AWP P γ c (thenE (fun A' => ∃ j', ok j' ∧ m j' < m j ∧ leSt n (inv j') A') Q) (inv j)) : AWP P γ (.loop c) Q A := by
  intro B S ρ a w hs b k cs
  have key : ∀ k' S ρ j a w, m j = k' → ok j → Sim B S γ ρ (inv j) a w → ∃ e a' w', (∃ S' ρ' A', Q e A' ∧ Sim B S' γ ρ' A' a' w' ∧ Ext B S ρ w S' ρ' w') ∧ Arrives P (lone (b.at a (.code c :: .inLoop c :: k)) cs w) b k cs e a' w' := by
    intro k'
    induction k' using Nat.strongRecOn with
    | _ k' ih =>
      intro S ρ j a w hm hok hs
      obtain ⟨e, a₁, w₁, ⟨S₁, ρ₁, A₁, hq, hs₁, hx₁⟩, harr⟩ := round j hok B S ρ a w hs b (.inLoop c :: k) cs
      cases e with
      | normal =>
        obtain ⟨j', hok', hm', hle⟩ := hq
        obtain ⟨hs₂, hg₂⟩ := hs₁.le hle (hn j')
        have hlen : ρ.length = n := by rw [hs.heap.len, hn]
        have hx₂ : Ext B S ρ w (SF n S₁ ρ₁) (ρ₁.take n) w₁ := ⟨hx₁.fr, hx₁.below, fun k hk => .inl (hx₁.sub k hk), hx₁.same, hlen ▸ hx₁.locs.take, fun k hk => (hg₂ k hk).elim (hx₁.grow k) .inr⟩
        obtain ⟨e₂, a₂, w₂, ⟨S₂, ρ₂, A₂, k1, k2, k3⟩, harr₂⟩ := ih (m j') (hm ▸ hm') (SF n S₁ ρ₁) (ρ₁.take n) j' a₁ w₁ rfl hok' hs₂
        exact ⟨e₂, a₂, w₂, ⟨S₂, ρ₂, A₂, k1, k2, hx₂.trans k3⟩, .of_steps (Steps.trans harr (.one step_inLoop)) harr₂⟩
      | exit id => exact ⟨_, a₁, w₁, ⟨S₁, ρ₁, A₁, hq, hs₁, hx₁⟩, .pass (x := .inLoop c) rfl (fun _ _ => .inl (by simp)) harr⟩
      | goto l => exact ⟨_, a₁, w₁, ⟨S₁, ρ₁, A₁, hq, hs₁, hx₁⟩, .pass (x := .inLoop c) rfl (fun _ _ => .inl (by simp)) harr⟩
      | ret => exact ⟨_, a₁, w₁, ⟨S₁, ρ₁, A₁, hq, hs₁, hx₁⟩, .pass (x := .inLoop c) rfl (fun _ _ => .inl (by simp)) harr⟩
      | panic ch => exact ⟨_, a₁, w₁, ⟨S₁, ρ₁, A₁, hq, hs₁, hx₁⟩, .pass (x := .inLoop c) rfl (fun _ _ => .inl (by simp)) harr⟩
      | outgrown => exact ⟨_, a₁, w₁, ⟨S₁, ρ₁, A₁, hq, hs₁, hx₁⟩, .pass (x := .inLoop c) rfl (fun _ _ => .inl (by simp)) harr⟩
  obtain ⟨hs0, hg0⟩ := hs.le h0.2 (hn j0)
  rw [List.take_of_length_le (by rw [hs.heap.len]; omega)] at hs0
  obtain ⟨e, a', w', ⟨S', ρ', A', q1, q2, q3⟩, harr⟩ := key (m j0) _ ρ j0 a w rfl h0.1 hs0
  have hx0 : Ext B S ρ w (SF n S ρ) ρ w := ⟨Fr.refl w, fun _ _ => rfl, fun k hk => .inl hk, fun _ _ => rfl, LocsUp.refl ρ, hg0⟩
  exact ⟨e, a', w', ⟨S', ρ', A', q1, q2, hx0.trans q3⟩, .of_steps (.one step_loop) harr⟩

/-- the slots that code assigns -/
def dsts : Code → List Nat
  | .region _ ops _ => ops.toList.filterMap (·.dst)
  | .seq x y => dsts x ++ dsts y
  | .cond _ x y => dsts x ++ dsts y
  | .block _ c => dsts c
  | .loop c => dsts c
  | .scope c => dsts c
  | .rangeFunc _ ps a c => ps.toList ++ dsts a ++ dsts c
  | _ => []
def havoc : List Nat → Tr → Tr
  | [], s => s
  | d :: r, s => havoc r (s.set' 10 d .any)
def sets : List (Nat × AV) → Tr → Tr
  | [], s => s
  | (d, v) :: r, s => sets r (s.set' 10 d v)
end
end Go.AL

namespace Go.AL
open Go Go.RowKit

section
variable {P : Program} {γ : Nat → Option AV}

/-! ### A nil slice that will grow: a block that the machine has not -/
theorem R_ghost {S : Nat → Prop} {w : World} {ρ : List Loc} (k : Nat) {v : Value} (h : R S w (some ρ) .nils v) : R S w (some (ρ ++ [⟨false, 0, none, k, 0⟩])) (.sl ρ.length 0 k (fun _ => 0) fun _ => 0) v := by
  obtain ⟨a, rfl⟩ := h
  exact ⟨_, _, a, 0, rfl, getElem?_concat _ _, rfl, rfl, Nat.le_refl _, rfl, Nat.le_refl _, .inl rfl, fun _ => .inl ⟨rfl, rfl, rfl⟩⟩
theorem HeapR.ghostR {B : Nat} {S : Nat → Prop} {ρ : List Loc} {h : List Blk} {w : World} (hh : HeapR B S γ ρ h w) (k : Nat) :
    HeapR B S γ (ρ ++ [⟨false, 0, none, k, 0⟩]) (h ++ [.run 0 k fun _ => .nil]) w ∧ Ext B S ρ w S (ρ ++ [⟨false, 0, none, k, 0⟩]) w :=
  hh.ghost ⟨false, 0, none, k, 0⟩ rfl (.run 0 k fun _ => .nil) ⟨rfl, rfl, rfl, [], rfl, fun e he => (by cases he), .inl ⟨rfl, rfl⟩⟩
theorem HeapR.retell {B : Nat} {S : Nat → Prop} {ρ : List Loc} {h : List Blk} {w : World} (hh : HeapR B S γ ρ h w) (b : Nat) (blk : Blk) (hb : ∀ loc, ρ[b]? = some loc → BlkR S w ρ loc blk) : HeapR B S γ ρ (h.set b blk) w := by
  refine ⟨by simp [hh.len], fun c blk' loc h1 h2 => ?_, hh.own, hh.inj, hh.sle, hh.gok, hh.bsz⟩
  rw [List.getElem?_set] at h1
  split at h1
  · rename_i e
    subst e
    split at h1
    · cases h1; exact hb loc h2
    · cases h1
  · exact hh.blk c blk' loc h1 h2

theorem AWP.ghostSlot {c : Code} {Q : Exit → St → Prop} {A : St} (d k : Nat) (hd : A.s.get d = .nils) (hdn : d < 1000) (h : AWP P γ c Q ⟨A.n, A.s.set' 10 d (.sl A.h.length 0 k (fun _ => 0) fun _ => 0), A.h ++ [.run 0 k fun _ => .nil]⟩) : AWP P γ c Q A := by
  intro B S ρ a w hs
  obtain ⟨h1, h2⟩ := hs.heap.ghostR k
  refine wp_mono (h B S _ a w ⟨hs.nodef, hs.size, hs.small, fun n => ?_, h1⟩) fun e a' w' ⟨S', ρ', A', q1, q2, q3⟩ => ⟨S', ρ', A', q1, q2, h2.trans q3⟩
  rw [Tr.get_set' 10 _ _ _ _ (by omega)]
  split
  · rename_i e
    subst e
    have := hs.slot n
    rw [hd] at this
    rw [← hs.heap.len]
    exact R_ghost k this
  · exact h2.R (hs.slot n)
theorem AWP.ghostBox {c : Code} {Q : Exit → St → Prop} {A : St} (b k : Nat) (hb : A.h[b]? = some (.box .nils)) (h : AWP P γ c Q ⟨A.n, A.s, (A.h ++ [Blk.run 0 k fun _ => .nil]).set b (.box (.sl A.h.length 0 k (fun _ => 0) fun _ => 0))⟩) : AWP P γ c Q A := by
  intro B S ρ a w hs
  obtain ⟨h1, h2⟩ := hs.heap.ghostR k
  have hlt : b < ρ.length := by rw [hs.heap.len]; exact (List.getElem?_eq_some_iff.1 hb).1
  refine wp_mono (h B S _ a w ⟨hs.nodef, hs.size, hs.small, fun n => h2.R (hs.slot n), h1.retell b _ fun loc hloc => ?_⟩) fun e a' w' ⟨S', ρ', A', q1, q2, q3⟩ => ⟨S', ρ', A', q1, q2, h2.trans q3⟩
  rw [List.getElem?_append_left hlt] at hloc
  obtain ⟨k1, K, ty, xv, k2, k3, k4, _⟩ := hs.heap.blk b _ loc hb hloc
  exact ⟨k1, K, ty, xv, k2, k3, by rw [← hs.heap.len]; exact R_ghost k k4, rfl⟩
theorem AWP.ghostField {c : Code} {Q : Exit → St → Prop} {A : St} (b o k : Nat) {cs : List AV} (hb : A.h[b]? = some (.box (.agg cs))) (ho : cs[o]? = some .nils) (h : AWP P γ c Q ⟨A.n, A.s, (A.h ++ [Blk.run 0 k fun _ => .nil]).set b (.box (.agg (cs.set o (.sl A.h.length 0 k (fun _ => 0) fun _ => 0))))⟩) : AWP P γ c Q A := by
  intro B S ρ a w hs
  obtain ⟨h1, h2⟩ := hs.heap.ghostR k
  have hlt : b < ρ.length := by rw [hs.heap.len]; exact (List.getElem?_eq_some_iff.1 hb).1
  refine wp_mono (h B S _ a w ⟨hs.nodef, hs.size, hs.small, fun n => h2.R (hs.slot n), h1.retell b _ fun loc hloc => ?_⟩) fun e a' w' ⟨S', ρ', A', q1, q2, q3⟩ => ⟨S', ρ', A', q1, q2, h2.trans q3⟩
  rw [List.getElem?_append_left hlt] at hloc
  obtain ⟨k1, K, ty, xv, k2, k3, k4, k5⟩ := hs.heap.blk b _ loc hb hloc
  obtain ⟨vals, rfl, k4⟩ := k4
  obtain ⟨v, hv, hr⟩ := Rs_get k4 ho
  have hset := Rs_set (Rs.mono (S := S) (w := w) (fun _ h => h) (fun _ _ => rfl) (ρ := some ρ) (ρ' := some (ρ ++ [⟨false, 0, none, k, 0⟩])) (Up_some h2.locs) _ _ k4) o (R_ghost k hr)
  have hself : vals.set o v = vals := by
    apply List.ext_getElem? 
    intro i
    rw [List.getElem?_set]
    split
    · rename_i e; subst e
      split
      · exact hv.symm
      · rw [List.getElem?_eq_none (by omega)]
    · rfl
  rw [hself] at hset
  refine ⟨k1, K, ty, .agg vals.toArray, k2, k3, ⟨vals, rfl, by rw [← hs.heap.len]; exact hset⟩, ?_⟩
  simp only [AV.flat, AV.cells, List.all_eq_true] at k5 ⊢
  intro x hx
  rcases List.mem_or_eq_of_mem_set hx with hx | rfl
  · exact k5 x hx
  · rfl

end
end Go.AL

namespace Go.AL
open Go Go.RowKit

/-! ### A region that draws its order, in which a variable is made: its block is there from the first, untold -/
abbrev gl : Loc := ⟨true, 0, none, 0, 0⟩
abbrev fl (K : Nat) : Loc := ⟨true, 0, some K, 0, 0⟩

section
variable {P : Program} {γ : Nat → Option AV} {τ : Nat → TI}

theorem fill_get {ρ : List Loc} {K b : Nat} {loc : Loc} (h : (ρ ++ [gl])[b]? = some loc) (hn : loc ≠ gl) : (ρ ++ [fl K])[b]? = some loc := by
  by_cases hlt : b < ρ.length
  · rw [List.getElem?_append_left hlt] at h ⊢; exact h
  · rw [List.getElem?_append_right (by omega)] at h
    have : b - ρ.length = 0 := by have := (List.getElem?_eq_some_iff.1 h).1; simp at this; omega
    rw [this] at h; simp at h; exact absurd h.symm hn
mutual
theorem R_fill {S : Nat → Prop} {w : World} {ρ : List Loc} (K : Nat) (x : AV) (v : Value) (h : R S w (some (ρ ++ [gl])) x v) : R S w (some (ρ ++ [fl K])) x v := by
  match x with
  | .any | .undef | .tt | .ff | .b _ | .lit _ | .i _ | .u _ | .raw _ | .np | .nils | .vp .. | .vs .. | .vm .. => exact h
  | .ptr b off =>
    obtain ⟨l, loc, K', hl, k1, k2, k3, k4⟩ := h
    cases hl
    exact ⟨_, loc, K', rfl, fill_get k1 (fun e => by rw [e] at k3; cases k3), k2, k3, k4⟩
  | .hp b g i off =>
    obtain ⟨l, loc, ab, ao, hl, k1, k2, k3⟩ := h
    cases hl
    exact ⟨_, loc, ab, ao, rfl, fill_get k1 (fun e => by rw [e] at k2; cases k2), k2, k3⟩
  | .sl b g k off len =>
    obtain ⟨l, loc, a, cap, hl, k1, k2, k3⟩ := h
    cases hl
    exact ⟨_, loc, a, cap, rfl, fill_get k1 (fun e => by rw [e] at k2; cases k2), k2, k3⟩
  | .mp b =>
    obtain ⟨l, loc, K', hl, k1, k2, k3, k4⟩ := h
    cases hl
    exact ⟨_, loc, K', rfl, fill_get k1 (fun e => by rw [e] at k3; cases k3), k2, k3, k4⟩
  | .agg cs => obtain ⟨vals, h1, h2⟩ := h; exact ⟨vals, h1, Rs_fill K cs vals h2⟩
  | .tup cs => obtain ⟨vals, h1, h2⟩ := h; exact ⟨vals, h1, Rs_fill K cs vals h2⟩
  | .fn f a c => obtain ⟨fv, cv, h1, h2, h3⟩ := h; exact ⟨fv, cv, h1, Rs_fill K a fv h2, Rs_fill K c cv h3⟩
theorem Rs_fill {S : Nat → Prop} {w : World} {ρ : List Loc} (K : Nat) (xs : List AV) (vs : List Value) (h : Rs S w (some (ρ ++ [gl])) xs vs) : Rs S w (some (ρ ++ [fl K])) xs vs := by
  match xs with
  | [] => exact h
  | x :: xs => obtain ⟨v, vs, rfl, h1, h2⟩ := h; exact ⟨v, vs, rfl, R_fill K x v h1, Rs_fill K xs vs h2⟩
end

theorem app_key {ρ : List Loc} {l : Loc} {b : Nat} {loc : Loc} (h : (ρ ++ [l])[b]? = some loc) : (b < ρ.length ∧ ρ[b]? = some loc) ∨ (b = ρ.length ∧ loc = l) := by
  by_cases hlt : b < ρ.length
  · rw [List.getElem?_append_left hlt] at h; exact .inl ⟨hlt, h⟩
  · rw [List.getElem?_append_right (by omega)] at h
    have : b - ρ.length = 0 := by have := (List.getElem?_eq_some_iff.1 h).1; simp at this; omega
    rw [this] at h; simp at h; exact .inr ⟨by omega, h.symm⟩

/-- the block is made -/
theorem Sim.fill {B : Nat} {S : Nat → Prop} {ρ : List Loc} {A : St} {a : Act} {w : World} {h0 : List Blk} (hs : Sim B S γ (ρ ++ [gl]) A a w) (hA : A.h = h0 ++ [Blk.any]) (zc : Array Value) (t : TypeId) :
    Sim B S γ (ρ ++ [fl w.heap.size]) A a (w.alloc (.cells zc t)) ∧ ExtQ S w S (w.alloc (.cells zc t)) := by
  have hq : ExtQ S w S (w.alloc (.cells zc t)) := ⟨Fr.cells w zc t, fun k hk => Below.heap_alloc w _ k hk, fun _ h => h, fun _ h => .inl h⟩
  have hs2 := hs.q hq
  have hh := hs2.heap
  have hlen : ρ.length = h0.length := by have := hh.len; rw [hA] at this; simp at this; exact this
  refine ⟨⟨hs2.nodef, hs2.size, hs2.small, fun n => R_fill _ _ _ (hs2.slot n), ?_⟩, hq⟩
  refine ⟨by rw [hA]; simp [hlen], fun b blk loc h1 h2 => ?_, fun b loc K h1 h2 => ?_, fun b b' loc loc' K h1 h2 h3 h4 => ?_, hh.sle, hh.gok, hh.bsz⟩
  · rcases app_key h2 with ⟨c1, c2⟩ | ⟨c1, c2⟩
    · have h2' : (ρ ++ [gl])[b]? = some loc := by rw [List.getElem?_append_left c1]; exact c2
      have := hh.blk b blk loc h1 h2'
      cases blk with
      | any => trivial
      | box v =>
        obtain ⟨k1, K, ty, xv, k2, k3, k4, k5⟩ := this
        exact ⟨k1, K, ty, xv, k2, k3, R_fill _ _ _ k4, k5⟩
      | run g k es => exact this
      | map ks vs => exact this
    · rw [c1, hA, hlen] at h1
      simp at h1; subst h1; trivial
  · rcases app_key h1 with ⟨c1, c2⟩ | ⟨c1, c2⟩
    · exact hh.own b loc K (by rw [List.getElem?_append_left c1]; exact c2) h2
    · subst c2
      cases h2
      exact ⟨fun hk => by have := hs.heap.sle _ hk; omega, by simp, hs.heap.bsz⟩
  · have old : ∀ (b : Nat) (loc : Loc), ρ[b]? = some loc → loc.k = some K → K < w.heap.size := fun b loc e1 e2 =>
      (hs.heap.own b loc K (by rw [List.getElem?_append_left (List.getElem?_eq_some_iff.1 e1).1]; exact e1) e2).2.1
    rcases app_key h1 with ⟨c1, c2⟩ | ⟨c1, c2⟩ <;> rcases app_key h2 with ⟨d1, d2⟩ | ⟨d1, d2⟩
    · exact hh.inj b b' loc loc' K (by rw [List.getElem?_append_left c1]; exact c2) (by rw [List.getElem?_append_left d1]; exact d2) h3 h4
    · subst d2; cases h4; have := old b loc c2 h3; omega
    · subst c2; cases h3; have := old b' loc' d2 h4; omega
    · omega

/-- what holds while operations come up: the block is not yet made, or is -/
def SimG (zv : Value) (B : Nat) (S : Nat → Prop) (γ : Nat → Option AV) (ρ : List Loc) (dn : Bool) (A : St) (a : Act) (w : World) : Prop :=
  match dn with
  | false => Sim B S γ (ρ ++ [gl]) A a w
  | true => ∃ K ty, Sim B S γ (ρ ++ [fl K]) A a w ∧ w.heap[K]? = some (.cells zv.cells ty (0, 0))

theorem SimG.sim {zv : Value} {B : Nat} {S : Nat → Prop} {ρ : List Loc} {dn : Bool} {A : St} {a : Act} {w : World} (h : SimG zv B S γ ρ dn A a w) : ∃ l, Sim B S γ (ρ ++ [l]) A a w ∧
    ∀ S' A' a' w', Sim B S' γ (ρ ++ [l]) A' a' w' → (∀ k, k < w.heap.size → w'.heap[k]? = w.heap[k]?) → SimG zv B S' γ ρ dn A' a' w' := by
  cases dn with
  | false => exact ⟨gl, h, fun _ _ _ _ h _ => h⟩
  | true =>
    obtain ⟨K, ty, h1, h2⟩ := h
    exact ⟨fl K, h1, fun S' A' a' w' h3 h4 => ⟨K, ty, h3, by rw [h4 K (Array.getElem?_eq_some_iff.1 h2).1]; exact h2⟩⟩

theorem wpOp_of_aOpG {ops : Array Oper} {z : AV} {zv : Value} {B : Nat} {S : Nat → Prop} {ρ : List Loc} {A : St} {a : Act} {w : World} {h0 : List Blk} {dn : Bool} {ia : Nat} (hs : SimG zv B S γ ρ dn A a w) (hA : A.h = h0 ++ [Blk.any]) {i : Nat} {K : St → Prop} {K' : Act → World → Prop} {Q' : Exit → Act → World → Prop}
    {t : TypeId} (hz : ∀ w, (Instr.alloc t true (.tuple #[])).run P w = .ok (.pointer (some ⟨w.heap.size, 0, none⟩)) (w.alloc (.cells zv.cells t)))
    (hia : ∀ o (t : TypeId), ops[i]? = some o → o.op = .alloc t → i = ia) (hdn : i = ia → dn = false) (hia' : ∀ o, ops[ia]? = some o → o.op = .alloc t ∧ o.guard = none)
    (h : aOp P γ (some z) ops i K A) (hK : ∀ S' A' a' w', K A' → A'.h = h0 ++ [Blk.any] → SimG zv B S' γ ρ (dn || decide (i = ia)) A' a' w' → ExtQ S w S' w' → K' a' w') (hi : i < ops.size) : wpOp P ops Q' i K' a w := by
  unfold aOp at h
  unfold wpOp
  split
  · rename_i ho; exact absurd hi (by have := Array.getElem?_eq_none_iff.1 ho; omega)
  · rename_i o ho
    simp only [ho] at h
    obtain ⟨v, hy, hk⟩ := h
    have keep : ∀ S' A' a' w', K A' → A'.h = h0 ++ [Blk.any] → SimG zv B S' γ ρ dn A' a' w' → ExtQ S w S' w' → i ≠ ia → K' a' w' := fun S' A' a' w' e1 e2 e3 e4 e5 => hK S' A' a' w' e1 e2 (by rw [decide_eq_false e5, Bool.or_false]; exact e3) e4
    by_cases hii : i = ia
    · obtain ⟨ht0, hg0⟩ := hia' o (hii ▸ ho)
      have hwt : wantA ops o A = some true := by unfold wantA; rw [hg0]
      rcases hy with (⟨h1, _⟩ | ⟨h1, _⟩) | ⟨t', z', h0', e1, e2, e3, e4, e5, e6, e7, e8⟩
      · exact absurd ht0 (h1 t)
      · rw [hwt] at h1; cases h1
      · cases e3
        obtain rfl : t = t' := by rw [ht0] at e1; exact Op.alloc.inj e1
        obtain rfl : h0' = h0 := by rw [hA] at e7; exact (List.append_inj' e7 rfl).1.symm
        have hdn := hdn hii
        subst hdn
        have hs : Sim B S γ (ρ ++ [gl]) A a w := hs
        obtain ⟨f1, f2⟩ := hs.fill hA zv.cells t
        have hrun := hz w
        rw [if_pos (wantA_sound hs hwt)]
        refine .inl ?_
        have hex : (execOp a.eval o).run P w = .ok (.value (.pointer (some ⟨w.heap.size, 0, none⟩))) (w.alloc (.cells zv.cells t)) := by
          obtain ⟨d, op, ty, pos, af, g⟩ := o
          simp only at e1
          subst e1
          simp only [execOp, Sem.run_bind]
          rw [hrun]; rfl
        show Oper.wp P o a w _ Q'
        unfold Oper.wp
        rw [hex]
        have hlen : ρ.length = h0'.length := by have := hs.heap.len; rw [hA] at this; simpa using this
        have hp : R S (w.alloc (.cells zv.cells t)) (some (ρ ++ [fl w.heap.size])) v (.pointer (some ⟨w.heap.size, 0, none⟩)) := by
          rw [e8, ← hlen]
          exact ⟨_, fl w.heap.size, w.heap.size, rfl, getElem?_concat _ _, rfl, rfl, rfl⟩
        have hsg : SimG zv B S γ ρ (false || decide (i = ia)) (A.put o.dst v) (a.put o.dst (.pointer (some ⟨w.heap.size, 0, none⟩))) (w.alloc (.cells zv.cells t)) := by
          rw [decide_eq_true hii, Bool.or_true]
          exact ⟨w.heap.size, t, f1.put o.dst hp, heap_alloc_new w _⟩
        exact hK S _ _ _ hk (by rw [St.put_h]; exact hA) hsg f2
    · rcases hy with (⟨_, h1, h2⟩ | ⟨h1, h2⟩) | ⟨t, z', h0', e1, e2, e3, e4, e5, e6, e7, e8⟩
      · obtain ⟨l, hs1, hs2⟩ := hs.sim
        rw [if_pos (wantA_sound hs1 h1)]
        refine .inl (h2 B S (ρ ++ [l]) w a.eval a _ _ hs1.heap (fun x _ => hs1.ev x) fun S' w' v' hq hv => ?_)
        exact keep S' _ _ w' hk (by rw [St.put_h]; exact hA) (hs2 S' _ _ w' ((hs1.q hq).put o.dst hv) hq.same) hq hii
      · obtain ⟨l, hs1, hs2⟩ := hs.sim
        rw [if_neg (by rw [wantA_sound hs1 h1]; simp)]
        subst h2
        exact keep S _ _ w hk (by rw [St.put_h]; exact hA) (hs2 S _ _ w (hs1.put o.dst (v := .undef) (v' := Go.undef) rfl) (fun _ _ => rfl)) (ExtQ.refl S w) hii
      · exact absurd (hia o t ho e1) hii

theorem wpAny_of_AG {md : Region.Mode} {ops : Array Oper} {z : AV} {zv : Value} {h0 : List Blk} {ia : Nat} {n g : Nat} {L : Array Bool → St → Prop} {Q' : Exit → Act → World → Prop} {B : Nat} {S : Nat → Prop} {ρ : List Loc} {w : World} (hn : n ≤ ops.size) (hian : ia < n)
    {t : TypeId} (hz : ∀ w, (Instr.alloc t true (.tuple #[])).run P w = .ok (.pointer (some ⟨w.heap.size, 0, none⟩)) (w.alloc (.cells zv.cells t)))
    (hia : ∀ i o (t : TypeId), i < n → ops[i]? = some o → o.op = .alloc t → i = ia) (hia' : ∀ o, ops[ia]? = some o → o.op = .alloc t ∧ o.guard = none)
    (hL : ∀ listed S' A a w', L listed A → A.h = h0 ++ [Blk.any] → SimG zv B S' γ ρ (listed.getD ia true) A a w' → ExtQ S w S' w' → wpAny P md ops Q' g listed a w') :
    ∀ (f : Nat) (listed : Array Bool) (S' : Nat → Prop) (A : St) (a : Act) (w' : World), listed.size = ops.size → A.h = h0 ++ [Blk.any] → SimG zv B S' γ ρ (listed.getD ia true) A a w' → ExtQ S w S' w' → wpAnyA P γ (some z) md ops n L f listed A → wpAny P md ops Q' (f + g) listed a w'
  | 0, listed, S', A, a, w', _, hA, hs, hx, h => by rw [Nat.zero_add]; exact hL _ _ _ _ _ h hA hs hx
  | f + 1, listed, S', A, a, w', hsz, hA, hs, hx, h => by
    rw [show f + 1 + g = (f + g) + 1 by omega]
    refine ⟨fun h0 => absurd h0 h.1, fun i hi => ?_⟩
    have hin := (h.2 i hi).1
    have hun := (mem_ready.1 hi).1
    refine wpOp_of_aOpG hs hA hz (fun o t e1 e2 => hia i o t hin e1 e2) (fun e => by rw [← e]; exact hun) hia' (h.2 i hi).2 (fun S'' A'' a'' w'' hk hA'' hs' hq => ?_) (by omega)
    refine wpAny_of_AG hn hian hz hia hia' hL f _ S'' A'' a'' w'' (by simp [hsz]) hA'' ?_ (hx.trans hq) hk
    have : (listed.setIfInBounds i true).getD ia true = (listed.getD ia true || decide (i = ia)) := by
      by_cases e : i = ia
      · subst e
        rw [decide_eq_true rfl, Bool.or_true, Array.getD_eq_getD_getElem?, Array.getElem?_setIfInBounds_self_of_lt (by omega)]; rfl
      · rw [getD_set_ne true e, decide_eq_false e, Bool.or_false]
    rw [this]; exact hs'

/-- THE LEXICAL WALK, one operation making a variable -/
def vhdA (τ : Nat → TI) (γ : Nat → Option AV) (C : List Blk → QC) (ops : Array Oper) (b : Nat) : List Oper → St → (St → Prop) → Prop
  | [], A, K => K A
  | o :: r, A, K => match o.op with
    | .alloc _ => vhdA τ γ C ops b r (A.put o.dst (.ptr b 0)) K
    | _ => match wantA ops o A with
      | some true => vq τ (C A.h) o.op (A.ev γ) A.h fun v => splitG (isGuard ops o.dst) v fun v => vhdA τ γ C ops b r (A.put o.dst v) K
      | some false => vhdA τ γ C ops b r (A.put o.dst .undef) K
      | none => False
/-- the one operation that makes a variable, ahead of 'n'; its type -/
def allocAt (ops : List Oper) : Option Nat :=
  match ops with
  | [] => none
  | o :: r => match o.op with
    | .alloc t => if (r.all fun o => match o.op with | .alloc _ => false | _ => true) && o.guard.isNone then some t else none
    | _ => allocAt r
theorem allocAt_spec : ∀ {l : List Oper} {t : TypeId}, allocAt l = some t → ∃ (ia : Nat) (o : Oper), l[ia]? = some o ∧ o.op = .alloc t ∧ o.guard = none ∧ ∀ (i : Nat) (o' : Oper) (t' : TypeId), l[i]? = some o' → o'.op = .alloc t' → i = ia
  | [], _, h => by cases h
  | o :: r, t, h => by
    unfold allocAt at h
    split at h
    · rename_i t0 e0
      split at h
      · rename_i hc
        cases h
        rw [Bool.and_eq_true, List.all_eq_true] at hc
        refine ⟨0, o, rfl, e0, by simpa using hc.2, fun i o' t' h1 h2 => ?_⟩
        cases i with
        | zero => rfl
        | succ i =>
          have := hc.1 o' (List.mem_of_getElem? (by simpa using h1))
          rw [h2] at this; cases this
      · cases h
    · rename_i hne
      obtain ⟨ia, o1, h1, h2, h3, h4⟩ := allocAt_spec h
      refine ⟨ia + 1, o1, by simpa using h1, h2, h3, fun i o' t' k1 k2 => ?_⟩
      cases i with
      | zero =>
        simp at k1; subst k1
        exact absurd k2 (hne t')
      | succ i => rw [h4 i o' t' (by simpa using k1) k2]

theorem vhdA_sound (hτ : ∀ t, τ t = tiOf P t) {CQ : List Blk → QC} (hC : ∀ h f args k, CQ h f args k → QCalls P γ h f args k) {ops : Array Oper} {K : St → Prop} {h0 : List Blk} {z : AV} :
    ∀ (l : List Oper) (A : St), A.h = h0 ++ [Blk.any] → (∀ o ∈ l, ∀ t, o.op = .alloc t → o.guard = none ∧ (tiOf P t).k.isOther = false ∧ (tiOf P t).zero = some z ∧ z.flat = true) → vhdA τ γ CQ ops h0.length l A K → wpLexA P γ (some z) ops K l A
  | [], A, _, _, h => h
  | o :: r, A, hA, hl, h => by
    have hr : ∀ o ∈ r, ∀ t, o.op = .alloc t → o.guard = none ∧ (tiOf P t).k.isOther = false ∧ (tiOf P t).zero = some z ∧ z.flat = true := fun o' ho' => hl o' (by simp [ho'])
    have next : ∀ v, vhdA τ γ CQ ops h0.length r (A.put o.dst v) K → wpLexA P γ (some z) ops K r (A.put o.dst v) := fun v hv => vhdA_sound hτ hC r _ (by rw [St.put_h]; exact hA) hr hv
    unfold vhdA at h
    split at h
    · rename_i t e
      obtain ⟨g1, g2, g3, g4⟩ := hl o (by simp) t e
      exact ⟨_, .inr ⟨t, z, h0, e, g1, rfl, g2, g3, g4, hA, rfl⟩, next _ h⟩
    · rename_i hna
      split at h
      · rename_i hw
        obtain ⟨v, h1, h2⟩ := vq_sound (γ := γ) hτ (hC A.h) h
        cases hg : isGuard ops o.dst with
        | false => rw [hg] at h1; exact ⟨v, .inl (.inl ⟨hna, hw, h2⟩), next _ h1⟩
        | true =>
          rw [hg] at h1
          simp only [splitG] at h1
          split at h1
          · rename_i x
            cases hx : x () with
            | true => exact ⟨.tt, .inl (.inl ⟨hna, hw, h2.b fun S w m u hu => by have hu : u = .bool (x ()) := hu; rw [hx] at hu; exact hu⟩), next _ (h1.1 () hx)⟩
            | false => exact ⟨.ff, .inl (.inl ⟨hna, hw, h2.b fun S w m u hu => by have hu : u = .bool (x ()) := hu; rw [hx] at hu; exact hu⟩), next _ (h1.2 () hx)⟩
          · exact ⟨v, .inl (.inl ⟨hna, hw, h2⟩), next _ h1⟩
      · rename_i hw
        exact ⟨.undef, .inl (.inr ⟨hw, rfl⟩), next _ h⟩
      · exact h.elim
end
end Go.AL

namespace Go.AL
open Go Go.RowKit
section
variable {P : Program} {γ : Nat → Option AV} {τ : Nat → TI}

theorem wp_region_AG {id : Nat} {Q : Exit → Act → World → Prop} {ops : Array Oper} {B : Nat} {S : Nat → Prop} {ρ : List Loc} {A : St} {a : Act} {w : World} {K : St → Prop} {z : AV} {zv : Value} {ia : Nat} (n : Nat) (hm : P.follows .mixedOrders = true) (hB : drawB ops n = true) (hn : n < ops.size) (hs : Sim B S γ ρ A a w) (hian : ia < n)
    (hzz : z = ofV zv) (hzf : z.flat = true) {t : TypeId} (hz : ∀ w, (Instr.alloc t true (.tuple #[])).run P w = .ok (.pointer (some ⟨w.heap.size, 0, none⟩)) (w.alloc (.cells zv.cells t)))
    (hia : ∀ i o (t : TypeId), i < n → ops[i]? = some o → o.op = .alloc t → i = ia) (hia' : ∀ o, ops[ia]? = some o → o.op = .alloc t ∧ o.guard = none)
    (h : wpLexA P γ (some z) ops K (ops.toList.take n) ⟨A.n, A.s, A.h ++ [Blk.any]⟩) (hK : ∀ S' ρ' A' a' w', K A' → A'.h = A.h ++ [Blk.any] → Sim B S' γ ρ' ⟨A'.n, A'.s, A.h ++ [Blk.box z]⟩ a' w' → Ext B S ρ w S' ρ' w' → wpList P ops Q (ops.toList.drop n) a' w') : (Code.region id ops true).wp P Q a w := by
  obtain ⟨gh1, gh2⟩ := hs.heap.ghost gl rfl Blk.any trivial
  have hs0 : Sim B S γ (ρ ++ [gl]) ⟨A.n, A.s, A.h ++ [Blk.any]⟩ a w := ⟨hs.nodef, hs.size, hs.small, fun k => gh2.R (hs.slot k), gh1⟩
  have hq0 : ExtQ S w S { w with drawn := w.drawn + 1 } := ⟨⟨rfl, rfl, rfl, Nat.le_refl _, fun _ => rfl⟩, fun _ _ => rfl, fun _ h => h, fun _ h => .inl h⟩
  have hs1 := hs0.q hq0
  have inv0 : HeadInv .any ops n (Array.replicate ops.size false) :=
    ⟨by simp, fun j oj _ hl => (by rw [getD_replicate_false] at hl; cases hl), fun t _ ht => getD_in (by simpa using ht) (getD_replicate_false _ _)⟩
  unfold drawB at hB
  rw [if_pos hn] at hB
  simp only [Region.lexTailB, Bool.and_eq_true, decide_eq_true_eq] at hB
  obtain ⟨⟨⟨⟨hsel, _⟩, hs'⟩, hc⟩, hlex⟩ := hB
  have hhead : ∀ (i : Nat), i < n → ∀ (listed : Array Bool), HeadInv .any ops n listed → listed.getD i true = false → ∀ j ∈ Region.ready .any ops listed, j < n := fun i hi listed inv hun j hj => by
    rcases Nat.lt_or_ge j n with h | h
    · exact h
    · exact absurd hj (tail_waits hs' hc hn inv _ i rfl hi hun j h)
  have htl : (ops.toList.take n).length = n := by simp; omega
  have hdl : (ops.toList.drop n).length = ops.size - n := by simp
  have H := wpAnyA_lex (P := P) (γ := γ) (al := some z) (md := .any) (g := ops.size - n) hhead (ops.toList.take n) 0 (Array.replicate ops.size false) ⟨A.n, A.s, A.h ++ [Blk.any]⟩ hs.small (fun j hj => by
    have hj' : j < n := by rw [htl] at hj; exact hj
    simp [hj']) (by simpa using htl) inv0 (by rw [htl]; exact hlex) (fun j hj => absurd hj (by omega)) h
  refine wp_region_any hm ?_
  have := wpAny_of_AG (P := P) (γ := γ) (md := .any) (ops := ops) (z := z) (zv := zv) (h0 := A.h) (ia := ia) (n := n) (g := ops.size - n) (Q' := Q) (B := B) (S := S) (ρ := ρ) (w := { w with drawn := w.drawn + 1 }) (by omega) hian hz hia hia' (fun listed S' A' a' w' hL hA' hsg hq' => by
    have hd : listed.getD ia true = true := hL.1.2 ia hian
    rw [hd] at hsg
    obtain ⟨K0, ty, hsim, hcell⟩ := hsg
    have hlen : ρ.length = A.h.length := hs.heap.len
    -- the block is told
    have hsim2 : Sim B S' γ (ρ ++ [fl K0]) ⟨A'.n, A'.s, A.h ++ [Blk.box z]⟩ a' w' := by
      refine ⟨hsim.nodef, hsim.size, hsim.small, hsim.slot, ?_⟩
      have := hsim.heap.retell A.h.length (.box z) fun loc hloc => by
        rw [← hlen, getElem?_concat] at hloc
        cases hloc
        exact ⟨rfl, K0, ty, zv, rfl, hcell, by rw [hzz]; exact R_ofV zv, hzf⟩
      rw [hA'] at this
      simpa using this
    have hq2 : ExtQ S w S' w' := hq0.trans hq'
    have hx : Ext B S ρ w S' (ρ ++ [fl K0]) w' := ⟨hq2.fr, fun k hk => hq2.same k (Nat.lt_of_lt_of_le hk hs.heap.bsz), hq2.sub, fun k hk => hq2.same k (hs.heap.sle k hk), LocsUp.append _ _, fun k hk => (hq2.new k hk).imp (fun h => h) fun h => Nat.le_trans hs.heap.bsz h.1⟩
    have := wpAny_of_seq (md := .any) (Q' := Q) (ops.toList.drop n) n listed a' w' (fun j => by simp [List.getElem?_drop]) (by rw [hdl]; exact hL.1.1) (hK S' _ A' a' w' hL.2 hA' hsim2 hx)
    rwa [hdl] at this) _ (Array.replicate ops.size false) S _ a _ (by simp) rfl (by
      rw [getD_in (by simp; omega) (getD_replicate_false _ _)]; exact hs1) (ExtQ.refl _ _) H
  rw [htl, show n + (ops.size - n) = ops.size by omega] at this
  exact this

/-- A REGION THAT DRAWS, one of its first 'n' operations making a variable. -/
theorem AWP.drawA (hτ : ∀ t, τ t = tiOf P t) {C : EC} {CQ : List Blk → QC} (hC : ∀ f args h Q, C f args h Q → SCalls P γ f args h Q) (hCQ : ∀ h f args k, CQ h f args k → QCalls P γ h f args k) (hm : P.follows .mixedOrders = true)
    {id : Nat} {ops : Array Oper} {Q : Exit → St → Prop} {A : St} (n : Nat) {t : TypeId} {z : AV} (hB : (drawB ops n && decide (n < ops.size)) = true) (hal : allocAt (ops.toList.take n) = some t) (ho : (τ t).k.isOther = false) (hz : (τ t).zero = some z) (hf : z.flat = true)
    (hv : vhdA τ γ CQ ops A.h.length (ops.toList.take n) ⟨A.n, A.s, A.h ++ [Blk.any]⟩ fun A' => vops τ γ C ops.toList (ops.toList.drop n) ⟨A'.n, A'.s, A.h ++ [Blk.box z]⟩ (Q .normal)) : AWP P γ (.region id ops true) Q A := by
  intro B S ρ a w hs
  rw [Bool.and_eq_true, decide_eq_true_eq] at hB
  obtain ⟨ia, o0, h1, h2, h3, h4⟩ := allocAt_spec hal
  have hia : ia < n := by have := (List.getElem?_eq_some_iff.1 h1).1; simp at this; omega
  have get : ∀ (i : Nat) (o : Oper), i < n → ops[i]? = some o → (ops.toList.take n)[i]? = some o := fun i o hi h => by rw [List.getElem?_take, if_pos hi]; simpa using h
  rw [hτ] at ho hz
  obtain ⟨d, i, e1, e2, e3⟩ := tk_other (notOther ho)
  obtain ⟨zv, hzv, hzz⟩ : ∃ zv, i.zero = some zv ∧ z = ofV zv := by
    rw [e3] at hz
    cases hx : i.zero with
    | none => simp [hx] at hz
    | some zv => exact ⟨zv, rfl, by simpa [hx] using hz.symm⟩
  have ho0 : ops[ia]? = some o0 := by rw [List.getElem?_take, if_pos hia] at h1; simpa using h1
  have uniq : ∀ o ∈ ops.toList.take n, ∀ t', o.op = .alloc t' → o = o0 := fun o hm t' ht' => by
    obtain ⟨j, hj⟩ := List.getElem?_of_mem hm
    have := h4 j o t' hj ht'
    subst this
    rw [h1] at hj; cases hj; rfl
  have hrun : ∀ w, (Instr.alloc t true (.tuple #[])).run P w = .ok (.pointer (some ⟨w.heap.size, 0, none⟩)) (w.alloc (.cells zv.cells t)) := fun w => by simp [Instr.alloc, run_zeroValue e2 hzv, newVar, newRow]
  refine wp_region_AG (z := z) (zv := zv) (ia := ia) (K := fun A' => vops τ γ C ops.toList (ops.toList.drop n) ⟨A'.n, A'.s, A.h ++ [Blk.box z]⟩ (Q .normal)) n hm hB.1 hB.2 hs hia hzz hf hrun (fun i o t' k1 k2 k3 => h4 i o t' (get i o k1 k2) k3) (fun o k => by rw [ho0] at k; cases k; exact ⟨h2, h3⟩)
    (vhdA_sound hτ hCQ _ _ rfl (fun o hm t' ht' => by
      obtain rfl := uniq o hm t' ht'
      rw [h2] at ht'; cases ht'
      exact ⟨h3, ho, hz, hf⟩) hv) fun S' ρ' A' a' w' hk hA' hs' hx => ?_
  exact vops_sound hτ hC _ _ B S' ρ' a' w' hs' hk fun S'' ρ'' A'' a'' w'' h1 h2 h3 => ⟨S'', ρ'', A'', h1, h2, hx.trans h3⟩
end
end Go.AL

namespace Go.AL
open Go Go.RowKit

section
variable {P : Program} {γ : Nat → Option AV}

mutual
theorem leV_stable (y x : AV) (h : leV 0 y x) : y.stable = true := by
  match y with
  | .any | .i _ | .lit _ | .u _ | .b _ | .tt | .ff | .vs .. | .vp .. | .vm .. | .np | .nils | .undef | .raw _ => rfl
  | .agg cs => simp only [leV] at h; split at h <;> first | exact h.elim | exact leVs_stable cs _ h
  | .tup cs => simp only [leV] at h; split at h <;> first | exact h.elim | exact leVs_stable cs _ h
  | .fn f a c =>
    simp only [leV] at h; split at h <;> first | exact h.elim | skip
    simp only [AV.stable, Bool.and_eq_true]
    exact ⟨leVs_stable a _ h.2.1, leVs_stable c _ h.2.2⟩
  | .ptr .. => simp only [leV] at h; split at h <;> first | exact h.elim | (exact absurd h.2.2 (by omega))
  | .hp .. => simp only [leV] at h; split at h <;> first | exact h.elim | (exact absurd h.2.2.1 (by omega))
  | .sl .. => simp only [leV] at h; split at h <;> first | exact h.elim | (exact absurd h.2.2.1 (by omega))
  | .mp .. => simp only [leV] at h; split at h <;> first | exact h.elim | (exact absurd h.2 (by omega))
theorem leVs_stable (ys xs : List AV) (h : leVs 0 ys xs) : stables ys = true := by
  match ys with
  | [] => rfl
  | y :: ys =>
    simp only [leVs] at h; split at h <;> first | exact h.elim | skip
    simp only [stables, Bool.and_eq_true]
    exact ⟨leV_stable y _ h.1, leVs_stable ys _ h.2⟩
end

theorem QCalls.of_le {f : FuncId} {args args' : List AV} {y : AV} {h : List Blk} {k : AV → Prop} (hp : Pure P γ false f args' y) (hs : leVs 0 args' args) (hk : k y) : QCalls P γ h f args k := by
  refine ⟨y, hk, hp.1, fun B S ρ w vals hh hr => ?_⟩
  refine (hp.2 S w vals hh.sle hh.gok (Rs_stable _ _ (leVs_stable _ _ hs) (Rs_le _ _ _ hs hr))).mono fun e w' ⟨v', S', h1, h2, h3⟩ => ?_
  exact ⟨v', S', h1, R.mono (S := S') (fun _ h => h) (fun _ _ => rfl) (ρ := none) (ρ' := some ρ) trivial _ _ h2, h3.of_false⟩
theorem SCalls.of_le {f : FuncId} {args args' : List AV} {y : AV} {h : List Blk} {Q : AV → List Blk → Prop} (hp : Pure P γ false f args' y) (hs : leVs 0 args' args) (hk : Q y h) : SCalls P γ f args h Q := .of_q (.of_le hp hs hk)

end
end Go.AL

namespace Go.AL
open Go Go.RowKit

section
variable {P : Program} {γ : Nat → Option AV}

/-- what the walk of a program's code may lean on -/
structure Env (P : Program) (γ : Nat → Option AV) (C : EC) (CQ : List Blk → QC) (T : Nat → TI) (D : Array Oper → (St → Prop) → St → Prop) (W : Code → (Exit → St → Prop) → St → Prop) : Prop where
  c : ∀ {f args h Q}, SCalls P γ f args h Q → C f args h Q
  q : ∀ {h f args k}, QCalls P γ h f args k → CQ h f args k
  d : ∀ n {ops K A}, drawB ops n = true → vhd T γ CQ ops (ops.toList.take n) A (fun A => vops T γ C ops.toList (ops.toList.drop n) A K) → D ops K A
  da : ∀ n t {z ops K A}, (drawB ops n && decide (n < ops.size)) = true → allocAt (ops.toList.take n) = some t → (T t).k.isOther = false → (T t).zero = some z → z.flat = true →
    vhdA T γ CQ ops A.h.length (ops.toList.take n) ⟨A.n, A.s, A.h ++ [Blk.any]⟩ (fun A' => vops T γ C ops.toList (ops.toList.drop n) ⟨A'.n, A'.s, A.h ++ [Blk.box z]⟩ K) → D ops K A
  w : ∀ {c Q A}, AWP P γ (.loop c) Q A → W c Q A
  b : ∀ {c Q A}, vc T γ C D W c Q A → AWP P γ c Q A

theorem Env.top {ty : Program → Nat → TI} (hτ : ∀ t, ty P t = tiOf P t) (hm : P.follows .mixedOrders = true) : Env P γ (SCalls P γ) (fun h f args k => QCalls P γ h f args k) (ty P) (fun ops K A => (∃ n, drawB ops n = true ∧ vhd (ty P) γ (fun h f args k => QCalls P γ h f args k) ops (ops.toList.take n) A (fun A => vops (ty P) γ (SCalls P γ) ops.toList (ops.toList.drop n) A K)) ∨
        ∃ n t z, (drawB ops n && decide (n < ops.size)) = true ∧ allocAt (ops.toList.take n) = some t ∧ (ty P t).k.isOther = false ∧ (ty P t).zero = some z ∧ z.flat = true ∧
          vhdA (ty P) γ (fun h f args k => QCalls P γ h f args k) ops A.h.length (ops.toList.take n) ⟨A.n, A.s, A.h ++ [Blk.any]⟩ (fun A' => vops (ty P) γ (SCalls P γ) ops.toList (ops.toList.drop n) ⟨A'.n, A'.s, A.h ++ [Blk.box z]⟩ K)) (fun c Q A => AWP P γ (.loop c) Q A) := by
  have hb : ∀ {c Q A}, vc (ty P) γ (SCalls P γ) (fun ops K A => (∃ n, drawB ops n = true ∧ vhd (ty P) γ (fun h f args k => QCalls P γ h f args k) ops (ops.toList.take n) A (fun A => vops (ty P) γ (SCalls P γ) ops.toList (ops.toList.drop n) A K)) ∨
        ∃ n t z, (drawB ops n && decide (n < ops.size)) = true ∧ allocAt (ops.toList.take n) = some t ∧ (ty P t).k.isOther = false ∧ (ty P t).zero = some z ∧ z.flat = true ∧
          vhdA (ty P) γ (fun h f args k => QCalls P γ h f args k) ops A.h.length (ops.toList.take n) ⟨A.n, A.s, A.h ++ [Blk.any]⟩ (fun A' => vops (ty P) γ (SCalls P γ) ops.toList (ops.toList.drop n) ⟨A'.n, A'.s, A.h ++ [Blk.box z]⟩ K))
      (fun c Q A => AWP P γ (.loop c) Q A) c Q A → AWP P γ c Q A := fun {c Q A} this => by
    refine vc_sound hτ (fun _ _ _ _ h => h) (fun id ops K Q A hK hd => ?_) (fun _ _ _ h => h) c _ A this
    have fin : AWP P γ (.region id ops true) (thenE K fun _ _ => False) A → AWP P γ (.region id ops true) Q A := fun h => h.mono fun e A' he => by
      cases e with
      | normal => exact hK A' he
      | _ => exact he.elim
    rcases hd with ⟨n, h1, h2⟩ | ⟨n, t, z, h1, h2, h3, h4, h5, h6⟩
    · exact fin (AWP.draw (Q := thenE K fun _ _ => False) hτ (fun _ _ _ _ h => h) (fun _ _ _ _ h => h) hm n h1 h2)
    · exact fin (AWP.drawA (Q := thenE K fun _ _ => False) hτ (fun _ _ _ _ h => h) (fun _ _ _ _ h => h) hm n h1 h2 h3 h4 h5 h6)
  exact ⟨fun h => h, fun h => h, fun n _ _ _ h1 h2 => .inl ⟨n, h1, h2⟩, fun n t z _ _ _ h1 h2 h3 h4 h5 h6 => .inr ⟨n, t, z, h1, h2, h3, h4, h5, h6⟩, fun h => h, hb⟩
theorem AWP.go' {ty : Program → Nat → TI} (hτ : ∀ t, ty P t = tiOf P t) (hm : P.follows .mixedOrders = true) {c : Code} {Q : (Nat → TI) → Exit → St → Prop} {A : St}
    (h : ∀ (P' : Program) (C : EC) (CQ : List Blk → QC) (D : Array Oper → (St → Prop) → St → Prop) (W : Code → (Exit → St → Prop) → St → Prop), Env P γ C CQ (ty P') D W → vc (ty P') γ C D W c (Q (ty P')) A) : AWP P γ c (Q (ty P)) A :=
  (Env.top hτ hm).b (h P _ _ _ _ (Env.top hτ hm))

/-- the state at a loop's head -/
def headSt (c : Code) (A : St) (u : List (Nat × AV)) (h : List Blk) : St := ⟨A.n, sets u (havoc (dsts c) A.s), h⟩
theorem Env.loop {C : EC} {CQ : List Blk → QC} {T : Nat → TI} {D : Array Oper → (St → Prop) → St → Prop} {W : Code → (Exit → St → Prop) → St → Prop} (E : Env P γ C CQ T D W) {c : Code} {Q : Exit → St → Prop} {A : St} {ι : Type} (ok : ι → Prop) (m : ι → Nat) (upd : ι → List (Nat × AV)) (hp : ι → List Blk) (j0 : ι)
    (hA : A.h.length = (hp j0).length) (hn : ∀ j, (hp j).length = (hp j0).length) (hok : ok j0) (h0 : leSt (hp j0).length (headSt c A (upd j0) (hp j0)) A)
    (round : ∀ j, ok j → ∀ (I : St → Prop), (∀ {A'} j', ok j' → m j' < m j → leSt (hp j0).length (headSt c A (upd j') (hp j')) A' → I A') → vc T γ C D W c (thenE I Q) (headSt c A (upd j) (hp j))) : W c Q A :=
  E.w (AWP.loopI (ι := ι) (hp j0).length (fun j => headSt c A (upd j) (hp j)) ok m j0 hA hn ⟨hok, h0⟩ fun j hj => E.b (round j hj _ fun j' h1 h2 h3 => ⟨j', h1, h2, h3⟩))

/-- ITEM of the proofs: a function's contract on data -/
theorem Pure.go {ty : Program → Nat → TI} (hτ : ∀ t, ty P t = tiOf P t) (hm : P.follows .mixedOrders = true) {f : FuncId} {fn : Func} {n : Nat} {rs : Array ResultVar}
    (hf : P.funcs[f]? = some fn) (hb : fn.body = some (fn.body.getD .skip)) (hn : fn.ntmps = n) (hr : fn.results = rs) (he : Enters P f) {args : List AV} {y : AV} (hsz : args.length ≤ n ∧ n < 1000)
    (h : ∀ (P' : Program) (C : EC) (CQ : List Blk → QC) (D : Array Oper → (St → Prop) → St → Prop) (W : Code → (Exit → St → Prop) → St → Prop) (F : AV → List Blk → Prop), Env P γ C CQ (ty P') D W → (∀ {v h}, fz h y v → F v h) →
      vc (ty P') γ C D W (fn.body.getD .skip) (bodyQ (ty P') rs.toList F) (start n args [])) : Pure P γ false f args y :=
  Pure.of_body hτ hf hb hn (by rw [hr]) he hsz (AWP.go' (Q := fun T => bodyQ T rs.toList fun v h => fz h y v) hτ hm fun P' C CQ D W E => h P' C CQ D W _ E fun h => h)
theorem SCalls.go {ty : Program → Nat → TI} (hτ : ∀ t, ty P t = tiOf P t) (hm : P.follows .mixedOrders = true) {f : FuncId} {fn : Func} {n : Nat} {rs : Array ResultVar}
    (hf : P.funcs[f]? = some fn) (hb : fn.body = some (fn.body.getD .skip)) (hn : fn.ntmps = n) (hr : fn.results = rs) (he : Enters P f) {args : List AV} {hp : List Blk} {Q : AV → List Blk → Prop} (hsz : args.length ≤ n ∧ n < 1000)
    (h : ∀ (P' : Program) (C : EC) (CQ : List Blk → QC) (D : Array Oper → (St → Prop) → St → Prop) (W : Code → (Exit → St → Prop) → St → Prop) (F : AV → List Blk → Prop), Env P γ C CQ (ty P') D W → (∀ {v h}, Q v h → F v h) →
      vc (ty P') γ C D W (fn.body.getD .skip) (bodyQ (ty P') rs.toList F) (start n args hp)) : SCalls P γ f args hp Q :=
  SCalls.of_body hτ hf hb hn (by rw [hr]) he hsz (AWP.go' (Q := fun T => bodyQ T rs.toList Q) hτ hm fun P' C CQ D W E => h P' C CQ D W _ E fun h => h)
end
end Go.AL

namespace Go.AL
open Go Go.RowKit

/-! ### Memory of its own, handed back -/
mutual
def AV.sh (d : Nat) : AV → AV
  | .ptr b off => .ptr (d + b) off
  | .hp b g i off => .hp (d + b) g i off
  | .sl b g k off len => .sl (d + b) g k off len
  | .mp b => .mp (d + b)
  | .agg cs => .agg (shs d cs)
  | .tup cs => .tup (shs d cs)
  | .fn f a c => .fn f (shs d a) (shs d c)
  | x => x
def shs (d : Nat) : List AV → List AV
  | [] => []
  | x :: xs => x.sh d :: shs d xs
end
def Blk.sh (d : Nat) : Blk → Blk
  | .box v => .box (v.sh d)
  | b => b

section
variable {P : Program} {γ : Nat → Option AV}

theorem get_app {ρ ρ' : List Loc} {b : Nat} {loc : Loc} (h : ρ'[b]? = some loc) : (ρ ++ ρ')[ρ.length + b]? = some loc := by
  rw [List.getElem?_append_right (by omega)]; simpa using h

mutual
theorem R_sh {S : Nat → Prop} {w : World} {ρ ρ' : List Loc} (x : AV) (v : Value) (h : R S w (some ρ') x v) : R S w (some (ρ ++ ρ')) (x.sh ρ.length) v := by
  match x with
  | .any | .undef | .tt | .ff | .b _ | .lit _ | .i _ | .u _ | .raw _ | .np | .nils | .vp .. | .vs .. | .vm .. => exact h
  | .ptr b off =>
    obtain ⟨l, loc, K, hl, k1, k2⟩ := h
    cases hl
    exact ⟨_, loc, K, rfl, get_app k1, k2⟩
  | .hp b g i off =>
    obtain ⟨l, loc, ab, ao, hl, k1, k2⟩ := h
    cases hl
    exact ⟨_, loc, ab, ao, rfl, get_app k1, k2⟩
  | .sl b g k off len =>
    obtain ⟨l, loc, a, cap, hl, k1, k2⟩ := h
    cases hl
    exact ⟨_, loc, a, cap, rfl, get_app k1, k2⟩
  | .mp b =>
    obtain ⟨l, loc, K, hl, k1, k2⟩ := h
    cases hl
    exact ⟨_, loc, K, rfl, get_app k1, k2⟩
  | .agg cs =>
    obtain ⟨vals, h1, h2⟩ := h
    exact ⟨vals, h1, Rs_sh cs vals h2⟩
  | .tup cs =>
    obtain ⟨vals, h1, h2⟩ := h
    exact ⟨vals, h1, Rs_sh cs vals h2⟩
  | .fn f a c =>
    obtain ⟨fv, cv, h1, h2, h3⟩ := h
    exact ⟨fv, cv, h1, Rs_sh a fv h2, Rs_sh c cv h3⟩
theorem Rs_sh {S : Nat → Prop} {w : World} {ρ ρ' : List Loc} (xs : List AV) (vs : List Value) (h : Rs S w (some ρ') xs vs) : Rs S w (some (ρ ++ ρ')) (shs ρ.length xs) vs := by
  match xs with
  | [] => exact h
  | x :: xs =>
    obtain ⟨v, vs, rfl, h1, h2⟩ := h
    exact ⟨v, vs, rfl, R_sh x v h1, Rs_sh xs vs h2⟩
end

theorem cells_len_sh (d : Nat) : ∀ (xs : List AV), (shs d xs).length = xs.length
  | [] => rfl
  | x :: xs => by simp [shs, cells_len_sh d xs]
theorem one_sh (d : Nat) (x : AV) (h : x.one = true) : (x.sh d).one = true := by cases x <;> first | exact h | (simp [AV.one] at h) | rfl
theorem shs_all (d : Nat) : ∀ (xs : List AV), xs.all AV.one = true → (shs d xs).all AV.one = true
  | [], h => h
  | x :: xs, h => by
    simp only [List.all_cons, Bool.and_eq_true, shs] at h ⊢
    exact ⟨one_sh d x h.1, shs_all d xs h.2⟩

/-- A function that hands back memory of its own: the value, the blocks. -/
def Owns (P : Program) (γ : Nat → Option AV) (f : FuncId) (args : List AV) (v : AV) (h : List Blk) : Prop :=
  SCalls P γ f args [] fun v' h' => leV h.length v v' ∧ leH h.length h h'

theorem HeapR.le {n B : Nat} {S : Nat → Prop} {ρ : List Loc} {h h' : List Blk} {w : World} (hh : HeapR B S γ ρ h w) (hl : leH n h' h) (hn : h'.length = n) : HeapR B S γ (ρ.take n) h' w := by
  have hs : Sim B S γ ρ ⟨0, .nil, h⟩ ⟨#[], []⟩ w := ⟨rfl, rfl, Nat.zero_le _, fun k => rfl, hh⟩
  exact (hs.le0 (A' := ⟨0, .nil, h'⟩) ⟨rfl, trivial, hl⟩ hn).heap

theorem flat_sh (d : Nat) (x : AV) (h : x.flat = true) : (x.sh d).flat = true := by
  cases x with
  | agg cs => exact shs_all d cs h
  | _ => exact h

theorem BlkR.sh {S : Nat → Prop} {w : World} {ρ ρ' : List Loc} {loc : Loc} {blk : Blk} (h : BlkR S w ρ' loc blk) : BlkR S w (ρ ++ ρ') loc (blk.sh ρ.length) := by
  cases blk with
  | any => trivial
  | box v =>
    obtain ⟨k1, K, ty, xv, k2, k3, k4, k5⟩ := h
    exact ⟨k1, K, ty, xv, k2, k3, R_sh _ _ k4, flat_sh _ _ k5⟩
  | run g k es => exact h
  | map ks vs => exact h

theorem SCalls.of_owns {f : FuncId} {args args' : List AV} {v : AV} {h h0 : List Blk} {Q : AV → List Blk → Prop} (ho : Owns P γ f args' v h0) (hs : leVs 0 args' args)
    (hk : Q (v.sh h.length) (h ++ h0.map (Blk.sh h.length))) : SCalls P γ f args h Q := by
  refine ⟨ho.1, fun B S ρ w vals hh hr => ?_⟩
  have hh0 : HeapR w.heap.size S γ [] [] w := ⟨rfl, fun b blk loc h _ => by simp at h, fun b loc K h _ => by simp at h, fun b b' loc loc' K h _ _ _ => by simp at h, hh.sle, hh.gok, Nat.le_refl _⟩
  have hr0 : Rs S w (some []) args' vals := Rs_stable (m := some (ρ.take 0)) (m' := some []) _ _ (leVs_stable _ _ hs) (Rs_le _ _ _ hs hr)
  refine (ho.2 w.heap.size S [] w vals hh0 hr0).mono fun e w' ⟨v', h', S', ρ', val, h1, ⟨h2, h3⟩, h4, h5, h6⟩ => ?_
  have hv := R_le _ _ _ h2 h4
  have hb := h5.le h3 rfl
  have hl : h.length = ρ.length := hh.len.symm
  generalize hρ : ρ'.take h0.length = ρ2 at hv hb
  have hsz := h6.fr.size
  refine ⟨v.sh h.length, h ++ h0.map (Blk.sh h.length), S', ρ ++ ρ2, val, h1, hk, hl ▸ R_sh _ _ hv, ?_, ?_⟩
  · have old : ∀ (b : Nat) (loc : Loc) (K : Nat), ρ[b]? = some loc → loc.k = some K → ¬ S' K ∧ K < w.heap.size ∧ B ≤ K := fun b loc K e1 e2 => by
      obtain ⟨m1, m2, m3⟩ := hh.own b loc K e1 e2
      refine ⟨fun hs' => ?_, m2, m3⟩
      rcases h6.grow K hs' with h7 | h7
      · exact m1 h7
      · omega
    have which : ∀ (b : Nat) (loc : Loc), (ρ ++ ρ2)[b]? = some loc → (b < ρ.length ∧ ρ[b]? = some loc) ∨ (ρ.length ≤ b ∧ ρ2[b - ρ.length]? = some loc) := fun b loc e => by
      by_cases hlt : b < ρ.length
      · rw [List.getElem?_append_left hlt] at e; exact .inl ⟨hlt, e⟩
      · rw [List.getElem?_append_right (by omega)] at e; exact .inr ⟨by omega, e⟩
    refine ⟨by simp [hl, hb.len], fun b blk loc e1 e2 => ?_, fun b loc K e1 e2 => ?_, fun b b' loc loc' K e1 e2 e3 e4 => ?_, h5.sle, h5.gok, Nat.le_trans hh.bsz hsz⟩
    · rcases which b loc e2 with ⟨hlt, e2⟩ | ⟨hge, e2⟩
      · rw [List.getElem?_append_left (by omega)] at e1
        exact (hh.blk b blk loc e1 e2).mono h6.sub h6.same (LocsUp.append _ _) fun K hK => h6.below K (old b loc K e2 hK).2.1
      · rw [List.getElem?_append_right (by omega), List.getElem?_map] at e1
        cases hb0 : h0[b - h.length]? with
        | none => rw [hb0] at e1; cases e1
        | some b0 =>
          rw [hb0] at e1
          obtain rfl : b0.sh h.length = blk := Option.some.inj e1
          rw [hl] at hb0 ⊢
          exact (hb.blk _ b0 loc hb0 e2).sh
    · rcases which b loc e1 with ⟨hlt, e1⟩ | ⟨hge, e1⟩
      · obtain ⟨m1, m2, m3⟩ := old b loc K e1 e2
        exact ⟨m1, by omega, m3⟩
      · obtain ⟨m1, m2, m3⟩ := hb.own _ loc K e1 e2
        exact ⟨m1, m2, Nat.le_trans hh.bsz m3⟩
    · rcases which b loc e1 with ⟨hlt, e1⟩ | ⟨hge, e1⟩ <;> rcases which b' loc' e2 with ⟨hlt', e2⟩ | ⟨hge', e2⟩
      · exact hh.inj b b' loc loc' K e1 e2 e3 e4
      · have m := (old b loc K e1 e3).2.1; have m' := (hb.own _ loc' K e2 e4).2.2; omega
      · have m := (old b' loc' K e2 e4).2.1; have m' := (hb.own _ loc K e1 e3).2.2; omega
      · have := hb.inj _ _ loc loc' K e1 e2 e3 e4; omega
  · exact ⟨h6.fr, fun k hk => h6.below k (Nat.lt_of_lt_of_le hk hh.bsz), h6.sub, h6.same, LocsUp.append _ _, fun k hk => (h6.grow k hk).imp id fun h => Nat.le_trans hh.bsz h⟩

/-- the same function, its answer as data -/
theorem Pure.of_owns {f : FuncId} {args : List AV} {v y : AV} {h0 : List Blk} (ho : Owns P γ f args v h0) (hy : fz h0 y v) : Pure P γ false f args y := by
  refine ⟨ho.1, fun S w vals hS hg hargs => ?_⟩
  have hh0 : HeapR w.heap.size S γ [] [] w := ⟨rfl, fun b blk loc h _ => by simp at h, fun b loc K h _ => by simp at h, fun b b' loc loc' K h _ _ _ => by simp at h, hS, hg, Nat.le_refl _⟩
  refine (ho.2 w.heap.size S [] w vals hh0 (Rs.mono (S := S) (fun _ h => h) (fun _ _ => rfl) (ρ := none) (ρ' := some []) trivial _ _ hargs)).mono fun e w' ⟨v', h', S', ρ', val, h1, ⟨h2, h3⟩, h4, h5, h6⟩ => ?_
  have hb := h5.le h3 rfl
  refine ⟨val, Froz S' (ρ'.take h0.length), h1, fz_sound hb y v val hy (R_le _ _ _ h2 h4), h6.fr, h6.below, fun k hk => .inl (h6.sub k hk.2), fun k hk => ?_⟩
  rcases hk with hk | ⟨b, loc, hb', hk⟩
  · rcases h6.grow k hk with h7 | h7
    · exact .inl ⟨rfl, h7⟩
    · exact .inr ⟨h7, h5.sle k hk⟩
  · obtain ⟨_, m1, m2⟩ := hb.own b loc k hb' hk
    exact .inr ⟨m2, m1⟩

theorem Owns.go {ty : Program → Nat → TI} (hτ : ∀ t, ty P t = tiOf P t) (hm : P.follows .mixedOrders = true) {f : FuncId} {fn : Func} {n : Nat} {rs : Array ResultVar}
    (hf : P.funcs[f]? = some fn) (hb : fn.body = some (fn.body.getD .skip)) (hn : fn.ntmps = n) (hr : fn.results = rs) (he : Enters P f) {args : List AV} {v : AV} {h0 : List Blk} (hsz : args.length ≤ n ∧ n < 1000)
    (h : ∀ (P' : Program) (C : EC) (CQ : List Blk → QC) (D : Array Oper → (St → Prop) → St → Prop) (W : Code → (Exit → St → Prop) → St → Prop) (F : AV → List Blk → Prop), Env P γ C CQ (ty P') D W → (∀ {v' h'}, leV h0.length v v' → leH h0.length h0 h' → F v' h') →
      vc (ty P') γ C D W (fn.body.getD .skip) (bodyQ (ty P') rs.toList F) (start n args [])) : Owns P γ f args v h0 :=
  SCalls.go hτ hm hf hb hn hr he hsz fun P' C CQ D W F E hF => h P' C CQ D W F E fun h1 h2 => hF ⟨h1, h2⟩

/-- A LOOP over a heap that is not told -/
theorem Env.loopH {C : EC} {CQ : List Blk → QC} {T : Nat → TI} {D : Array Oper → (St → Prop) → St → Prop} {W : Code → (Exit → St → Prop) → St → Prop} (E : Env P γ C CQ T D W) {c : Code} {Q : Exit → St → Prop} {A : St} {ι : Type} (n : Nat) (ok : ι → Prop) (m : ι → Nat) (upd : ι → List (Nat × AV)) (hp : ι → List Blk) (j0 : ι)
    (hA : A.h.length = n) (hn : ∀ j, (hp j).length = n) (hok : ok j0) (h0 : leT n (headSt c A (upd j0) (hp j0)).s A.s) (h1 : leH n (hp j0) A.h)
    (round : ∀ j, ok j → ∀ (I : St → Prop), (∀ {A'} j', ok j' → m j' < m j → A'.n = A.n → leT n (headSt c A (upd j') (hp j')).s A'.s → leH n (hp j') A'.h → I A') → vc T γ C D W c (thenE I Q) (headSt c A (upd j) (hp j))) : W c Q A :=
  E.w (AWP.loopI (ι := ι) n (fun j => headSt c A (upd j) (hp j)) ok m j0 hA hn ⟨hok, rfl, leTF_of _ _ h0, leHF_of _ _ h1⟩ fun j hj => E.b (round j hj _ fun j' h1 h2 h3 h4 h5 => ⟨j', h1, h2, h3.symm, leTF_of _ _ h4, leHF_of _ _ h5⟩))
theorem leVs_refl {n : Nat} : ∀ (bs : List Nat), (∀ b ∈ bs, b < n) → leVs n (bs.map fun b => .ptr b 0) (bs.map fun b => .ptr b 0)
  | [], _ => trivial
  | b :: bs, h => ⟨⟨rfl, rfl, h b (by simp)⟩, leVs_refl bs fun x hx => h x (by simp [hx])⟩
/-- 'Env.loop', as what holds of the loop -/
theorem Env.loopA {C : EC} {CQ : List Blk → QC} {T : Nat → TI} {D : Array Oper → (St → Prop) → St → Prop} {W : Code → (Exit → St → Prop) → St → Prop} (E : Env P γ C CQ T D W) {c : Code} {Q : Exit → St → Prop} {A : St} {ι : Type} (ok : ι → Prop) (m : ι → Nat) (upd : ι → List (Nat × AV)) (hp : ι → List Blk) (j0 : ι)
    (hA : A.h.length = (hp j0).length) (hn : ∀ j, (hp j).length = (hp j0).length) (hok : ok j0) (h0 : leSt (hp j0).length (headSt c A (upd j0) (hp j0)) A)
    (round : ∀ j, ok j → ∀ (I : St → Prop), (∀ {A'} j', ok j' → m j' < m j → leSt (hp j0).length (headSt c A (upd j') (hp j')) A' → I A') → vc T γ C D W c (thenE I Q) (headSt c A (upd j) (hp j))) : AWP P γ (.loop c) Q A :=
  AWP.loopI (ι := ι) (hp j0).length (fun j => headSt c A (upd j) (hp j)) ok m j0 hA hn ⟨hok, h0⟩ fun j hj => E.b (round j hj _ fun j' h1 h2 h3 => ⟨j', h1, h2, h3⟩)
end
end Go.AL

namespace Go.AL
open Go Go.RowKit

/-! ### Cuts: what stands behind is gone through once, from a state that tells less -/
def citems : Code → List Code
  | .seq x y => citems x ++ citems y
  | c => [c]
def vcl (τ : Nat → TI) (γ : Nat → Option AV) (C : EC) (D : Array Oper → (St → Prop) → St → Prop) (W : Code → (Exit → St → Prop) → St → Prop) : List Code → (Exit → St → Prop) → St → Prop
  | [], Q, A => Q .normal A
  | c :: r, Q, A => vc τ γ C D W c (thenE (fun A => vcl τ γ C D W r Q A) Q) A
/-- a state of which only this is told -/
def told (n : Nat) (u : List (Nat × AV)) (h : List Blk) : St := ⟨n, sets u (havoc (List.range n) .nil), h⟩

section
variable {P : Program} {γ : Nat → Option AV}

/-- THE CODE's, where only the first 'n' blocks are kept in view -/
def AWPr (P : Program) (γ : Nat → Option AV) (n : Nat) (c : Code) (Q : Exit → St → Prop) (A : St) : Prop :=
  ∀ B S ρ a w, Sim B S γ ρ A a w → c.wp P (fun e a' w' => ∃ S' ρ' A', Q e A' ∧ Sim B S' γ ρ' A' a' w' ∧ Ext B S (ρ.take n) w S' ρ' w') a w
theorem Ext.takeL {B n : Nat} {S S' : Nat → Prop} {ρ ρ' : List Loc} {w w' : World} (h : Ext B S ρ w S' ρ' w') : Ext B S (ρ.take n) w S' ρ' w' :=
  ⟨h.fr, h.below, h.sub, h.same, fun b loc hb => h.locs b loc (get_take hb).2, h.grow⟩
theorem Ext.transR {B n : Nat} {S S' S'' : Nat → Prop} {ρ ρ' ρ'' : List Loc} {w w' w'' : World} (h : Ext B S (ρ.take n) w S' ρ' w') (k : Ext B S' (ρ'.take n) w' S'' ρ'' w'') : Ext B S (ρ.take n) w S'' ρ'' w'' := by
  have h' : Ext B S (ρ.take n) w S' (ρ'.take n) w' := ⟨h.fr, h.below, h.sub, h.same, fun b loc hb => by
    obtain ⟨l', h1, h2⟩ := h.locs b loc hb
    exact ⟨l', take_get h1 (get_take hb).1, h2⟩, h.grow⟩
  exact h'.trans k
theorem AWPr.of {n : Nat} {c : Code} {Q : Exit → St → Prop} {A : St} (h : AWP P γ c Q A) : AWPr P γ n c Q A :=
  fun B S ρ a w hs => wp_mono (h B S ρ a w hs) fun _ _ _ ⟨S', ρ', A', h1, h2, h3⟩ => ⟨S', ρ', A', h1, h2, h3.takeL⟩
theorem AWPr.to {c : Code} {Q : Exit → St → Prop} {A : St} (h : AWPr P γ A.h.length c Q A) : AWP P γ c Q A :=
  fun B S ρ a w hs => wp_mono (h B S ρ a w hs) fun _ _ _ ⟨S', ρ', A', h1, h2, h3⟩ => ⟨S', ρ', A', h1, h2, by rwa [List.take_of_length_le (by rw [hs.heap.len]; exact Nat.le_refl _)] at h3⟩
theorem AWPr.mono {n : Nat} {c : Code} {Q Q' : Exit → St → Prop} {A : St} (h : AWPr P γ n c Q A) (hq : ∀ e A, Q e A → Q' e A) : AWPr P γ n c Q' A :=
  fun B S ρ a w hs => wp_mono (h B S ρ a w hs) fun _ _ _ ⟨S', ρ', A', h1, h2, h3⟩ => ⟨S', ρ', A', hq _ _ h1, h2, h3⟩
theorem AWPr.seq {n : Nat} {x y : Code} {Q : Exit → St → Prop} {A : St} (h : AWPr P γ n x (thenE (fun A => AWPr P γ n y Q A) Q) A) : AWPr P γ n (.seq x y) Q A := by
  intro B S ρ a w hs
  refine wp_seq (wp_mono (h B S ρ a w hs) fun e a' w' ⟨S', ρ', A', h1, h2, h3⟩ => ?_)
  cases e with
  | normal => exact wp_mono (h1 B S' ρ' a' w' h2) fun e a'' w'' ⟨S'', ρ'', A'', k1, k2, k3⟩ => ⟨S'', ρ'', A'', k1, k2, h3.transR k3⟩
  | _ => exact ⟨S', ρ', A', h1, h2, h3⟩
/-- to know less -/
theorem AWPr.weak {n : Nat} {c : Code} {Q : Exit → St → Prop} {A A' : St} (h : AWPr P γ n c Q A) (hn : n ≤ A.h.length) (hl : leSt A.h.length A A') : AWPr P γ n c Q A' := by
  intro B S ρ a w hs
  obtain ⟨hs0, hg0⟩ := hs.le hl rfl
  refine wp_mono (h B _ _ a w hs0) fun e a' w' ⟨S', ρ', A'', q1, q2, q3⟩ => ⟨S', ρ', A'', q1, q2, ?_⟩
  rw [List.take_take, Nat.min_eq_left hn] at q3
  have hx0 : Ext B S (ρ.take n) w (SF A.h.length S ρ) (ρ.take n) w := ⟨Fr.refl w, fun _ _ => rfl, fun k hk => .inl hk, fun _ _ => rfl, LocsUp.refl _, hg0⟩
  exact hx0.trans q3

def AWPl (P : Program) (γ : Nat → Option AV) (n : Nat) : List Code → (Exit → St → Prop) → St → Prop
  | [], Q, A => Q .normal A
  | c :: r, Q, A => AWPr P γ n c (thenE (fun A => AWPl P γ n r Q A) Q) A
theorem AWPl.app {n : Nat} : ∀ {xs ys : List Code} {Q : Exit → St → Prop} {A : St}, AWPl P γ n xs (thenE (fun A => AWPl P γ n ys Q A) Q) A → AWPl P γ n (xs ++ ys) Q A
  | [], ys, Q, A, h => h
  | x :: xs, ys, Q, A, h => AWPr.mono h fun e A' h' => by
    cases e with
    | normal => exact AWPl.app h'
    | _ => exact h'
theorem AWPl.unapp {n : Nat} : ∀ {xs ys : List Code} {Q : Exit → St → Prop} {A : St}, AWPl P γ n (xs ++ ys) Q A → AWPl P γ n xs (thenE (fun A => AWPl P γ n ys Q A) Q) A
  | [], ys, Q, A, h => h
  | x :: xs, ys, Q, A, h => AWPr.mono h fun e A' h' => by
    cases e with
    | normal => exact AWPl.unapp h'
    | _ => exact h'
theorem AWPl.mono {n : Nat} : ∀ {xs : List Code} {Q Q' : Exit → St → Prop} {A : St}, AWPl P γ n xs Q A → (∀ e A, Q e A → Q' e A) → AWPl P γ n xs Q' A
  | [], Q, Q', A, h, hq => hq _ _ h
  | x :: xs, Q, Q', A, h, hq => AWPr.mono h fun e A' h' => by
    cases e with
    | normal => exact AWPl.mono h' hq
    | _ => exact hq _ _ h'
theorem AWPl.one {n : Nat} {c : Code} {Q : Exit → St → Prop} {A : St} (h : AWPl P γ n [c] Q A) : AWPr P γ n c Q A := AWPr.mono h fun e A' h' => by cases e <;> exact h'
theorem AWPr.of_items {n : Nat} : ∀ (c : Code) {Q : Exit → St → Prop} {A : St}, AWPl P γ n (citems c) Q A → AWPr P γ n c Q A
  | .seq x y, Q, A, h => by
    refine AWPr.seq ?_
    have := AWPl.unapp (xs := citems x) (ys := citems y) h
    exact AWPr.of_items x (this.mono fun e A' h' => by
      cases e with
      | normal => exact AWPr.of_items y h'
      | _ => exact h')
  | .skip, Q, A, h => h.one
  | .region .., Q, A, h => h.one
  | .cond .., Q, A, h => h.one
  | .loop .., Q, A, h => h.one
  | .block .., Q, A, h => h.one
  | .exit .., Q, A, h => h.one
  | .ret, Q, A, h => h.one
  | .scope .., Q, A, h => h.one
  | .goto .., Q, A, h => h.one
  | .label .., Q, A, h => h.one
  | .refuse .., Q, A, h => h.one
  | .rangeFunc .., Q, A, h => h.one
theorem AWPl.weak {n : Nat} {l : List Code} {Q : Exit → St → Prop} {A A' : St} (h : AWPl P γ n l Q A) (hl0 : l ≠ []) (hn : n ≤ A.h.length) (hl : leSt A.h.length A A') : AWPl P γ n l Q A' := by
  cases l with
  | nil => exact absurd rfl hl0
  | cons c r => exact AWPr.weak h hn hl

variable {C : EC} {CQ : List Blk → QC} {T : Nat → TI} {D : Array Oper → (St → Prop) → St → Prop} {W : Code → (Exit → St → Prop) → St → Prop}
theorem Env.bl (E : Env P γ C CQ T D W) {n : Nat} : ∀ {l : List Code} {Q : Exit → St → Prop} {A : St}, vcl T γ C D W l Q A → AWPl P γ n l Q A
  | [], Q, A, h => h
  | c :: r, Q, A, h => AWPr.mono (AWPr.of (E.b h)) fun e A' h' => by
    cases e with
    | normal => exact E.bl h'
    | _ => exact h'
/-- A CUT behind the first 'k' items: what holds there, of which the rest is gone through. -/
theorem Env.cut (E : Env P γ C CQ T D W) {n : Nat} {l : List Code} {Q : Exit → St → Prop} {A : St} (k : Nat) (A2 : St) (hk0 : (l.drop k).isEmpty = false) (hn : n ≤ A2.h.length)
    (h1 : ∀ I : St → Prop, (∀ {A'}, leSt A2.h.length A2 A' → I A') → vcl T γ C D W (l.take k) (thenE I Q) A) (h2 : AWPl P γ n (l.drop k) Q A2) : AWPl P γ n l Q A := by
  have hk : l.drop k ≠ [] := fun e => by rw [e] at hk0; cases hk0
  rw [← List.take_append_drop k l]
  exact AWPl.app ((E.bl (h1 (fun A' => AWPl P γ n (l.drop k) Q A') fun hl => h2.weak hk hn hl)).mono fun e A' h => by cases e <;> exact h)
/-- a cut of many cases -/
theorem Env.cutI (E : Env P γ C CQ T D W) {n : Nat} {l : List Code} {Q : Exit → St → Prop} {A : St} {ι : Type} (k : Nat) (ok : ι → Prop) (A2 : ι → St) (hk0 : (l.drop k).isEmpty = false) (hn : ∀ j, n ≤ (A2 j).h.length)
    (h1 : ∀ I : St → Prop, (∀ {A'} j, ok j → leSt (A2 j).h.length (A2 j) A' → I A') → vcl T γ C D W (l.take k) (thenE I Q) A) (h2 : ∀ j, ok j → AWPl P γ n (l.drop k) Q (A2 j)) : AWPl P γ n l Q A := by
  have hk : l.drop k ≠ [] := fun e => by rw [e] at hk0; cases hk0
  rw [← List.take_append_drop k l]
  exact AWPl.app ((E.bl (h1 (fun A' => AWPl P γ n (l.drop k) Q A') fun j hj hl => (h2 j hj).weak hk (hn j) hl)).mono fun e A' h => by cases e <;> exact h)

theorem AWP.goL {ty : Program → Nat → TI} (hτ : ∀ t, ty P t = tiOf P t) (hm : P.follows .mixedOrders = true) {c : Code} {Q : (Nat → TI) → Exit → St → Prop} {A : St}
    (h : ∀ (P' : Program) (C : EC) (CQ : List Blk → QC) (D : Array Oper → (St → Prop) → St → Prop) (W : Code → (Exit → St → Prop) → St → Prop), Env P γ C CQ (ty P') D W → AWPl P γ A.h.length (citems c) (Q (ty P')) A) : AWP P γ c (Q (ty P)) A :=
  AWPr.to (AWPr.of_items c (h P _ _ _ _ (Env.top hτ hm)))
theorem Pure.goL {ty : Program → Nat → TI} (hτ : ∀ t, ty P t = tiOf P t) (hm : P.follows .mixedOrders = true) {f : FuncId} {fn : Func} {n : Nat} {rs : Array ResultVar}
    (hf : P.funcs[f]? = some fn) (hb : fn.body = some (fn.body.getD .skip)) (hn : fn.ntmps = n) (hr : fn.results = rs) (he : Enters P f) {args : List AV} {y : AV} (hsz : args.length ≤ n ∧ n < 1000)
    (h : ∀ (P' : Program) (C : EC) (CQ : List Blk → QC) (D : Array Oper → (St → Prop) → St → Prop) (W : Code → (Exit → St → Prop) → St → Prop) (F : AV → List Blk → Prop), Env P γ C CQ (ty P') D W → (∀ {v h}, fz h y v → F v h) →
      AWPl P γ 0 (citems (fn.body.getD .skip)) (bodyQ (ty P') rs.toList F) (start n args [])) : Pure P γ false f args y :=
  Pure.of_body hτ hf hb hn (by rw [hr]) he hsz (AWP.goL (Q := fun T => bodyQ T rs.toList fun v h => fz h y v) hτ hm fun P' C CQ D W E => h P' C CQ D W _ E fun h => h)
/-- a loop whose rounds are cut -/
theorem Env.loopC (E : Env P γ C CQ T D W) {c : Code} {Q : Exit → St → Prop} {A : St} {ι : Type} (ok : ι → Prop) (m : ι → Nat) (upd : ι → List (Nat × AV)) (hp : ι → List Blk) (j0 : ι)
    (hA : A.h.length = (hp j0).length) (hn : ∀ j, (hp j).length = (hp j0).length) (hok : ok j0) (h0 : leSt (hp j0).length (headSt c A (upd j0) (hp j0)) A)
    (round : ∀ j, ok j → ∀ (I : St → Prop), (∀ {A'} j', ok j' → m j' < m j → leSt (hp j0).length (headSt c A (upd j') (hp j')) A' → I A') → AWPl P γ (hp j0).length (citems c) (thenE I Q) (headSt c A (upd j) (hp j))) : W c Q A :=
  E.w (AWP.loopI (ι := ι) (hp j0).length (fun j => headSt c A (upd j) (hp j)) ok m j0 hA hn ⟨hok, h0⟩ fun j hj => AWPr.to (by
    show AWPr P γ (hp j).length c _ _
    rw [hn j]
    exact AWPr.of_items c (round j hj _ fun j' h1 h2 h3 => ⟨j', h1, h2, h3⟩)))
end
end Go.AL

namespace Go.AL
open Go Go.RowKit Go.ChangeShapes Go.WideShapes

/-! ### From the reading of arguments to what values read as -/
section
variable {H : Type} {enc : TypeId × Value → H} {P : Program} {w : World} {spare : Nat → Bool} {held : Bool}

abbrev Old (w : World) : Nat → Prop := fun k => k < w.heap.size

/-- Whatever reads by the type 't' is told by an 'a'. -/
def Dec (P : Program) (t : TypeId) (α : Type) (en : α → List AV) (ok : α → Prop) : Prop :=
  ∀ {H : Type} (enc : TypeId × Value → H) (w : World) (spare : Nat → Bool) (held : Bool) (fuel : Nat) (cs : List Value) (x : DataW H × List MemPlace),
    DataW.trod enc P w 0 spare held fuel t cs = some x → ∃ a, ok a ∧ Rs (Old w) w none (en a) cs

theorem Dec.int {t : TypeId} (ht : P.underlying t = some (.int .i64)) : Dec P t Int (fun n => [.i fun _ => n]) fun n => -9223372036854775808 ≤ n ∧ n ≤ 9223372036854775807 := by
  intro H enc w spare held fuel cs x h
  obtain ⟨n, rfl, _, h2⟩ := DataW.trod_int ht h
  exact ⟨n, bounds_i64 h2, _, _, rfl, rfl, rfl⟩
theorem Dec.u64 {t : TypeId} (ht : P.underlying t = some (.int .u64)) : Dec P t (BitVec 64) (fun n => [.u fun _ => n]) fun _ => True := by
  intro H enc w spare held fuel cs x h
  obtain ⟨n, rfl, _, h2⟩ := DataW.trod_int ht h
  have := bounds_u64 h2
  refine ⟨BitVec.ofInt 64 n, trivial, _, _, rfl, ?_, rfl⟩
  simp only [R]
  congr 1
  simp only [BitVec.toNat_ofInt]
  omega
theorem Dec.bool {t : TypeId} (ht : P.underlying t = some .bool) : Dec P t Bool (fun b => [.b fun _ => b]) fun _ => True := by
  intro H enc w spare held fuel cs x h
  obtain ⟨b, rfl, _⟩ := DataW.trod_bool ht h
  exact ⟨b, trivial, _, _, rfl, rfl, rfl⟩

theorem cells?_get {w : World} {a : Addr} {n : Nat} {cs : List Value} (h : w.cells? 0 a n = some cs) : cs.length = n ∧ ∀ (i : Nat) (c : Value), cs[i]? = some c → w.cell? (a.add i) = some c := by
  simp only [World.cells?, Nat.zero_le, if_true] at h
  have hl : cs.length = n := by have := mapM_some_length h; simpa using this
  refine ⟨hl, fun i c hc => ?_⟩
  have hi : i < n := by have := (List.getElem?_eq_some_iff.1 hc).1; omega
  rw [mapM_some_get h i i (by simp [hi])]; exact hc

theorem list_of_all {α β : Type} {R' : α → β → Prop} : ∀ (l : List β), (∀ b ∈ l, ∃ a, R' a b) → ∃ r : List α, r.length = l.length ∧ ∀ (i : Nat) (a : α) (b : β), r[i]? = some a → l[i]? = some b → R' a b
  | [], _ => ⟨[], rfl, fun i a b h => by simp at h⟩
  | b :: l, h => by
    obtain ⟨a, ha⟩ := h b (by simp)
    obtain ⟨r, h1, h2⟩ := list_of_all l fun b hb => h b (by simp [hb])
    refine ⟨a :: r, by simp [h1], fun i a' b' ha' hb' => ?_⟩
    cases i with
    | zero => simp at ha' hb'; subst ha'; subst hb'; exact ha
    | succ i => exact h2 i a' b' (by simpa using ha') (by simpa using hb')

/-- the elements' values: 'mk' is '.agg' or the one cell -/
structure Elem (mk : List AV → AV) (k : Nat) : Prop where
  val : ∀ {S : Nat → Prop} {w : World} {l : List AV} {cs : List Value}, cs.length = k → l.all AV.one = true → Rs S w none l cs → ∃ v, v.cells.toList = cs ∧ R S w none (mk l) v
theorem Elem.agg (k : Nat) : Elem .agg k := ⟨fun {S w l cs} _ _ h => ⟨.agg cs.toArray, by simp [Value.cells], cs, rfl, h⟩⟩
theorem Elem.one : Elem (fun l => l.headD .any) 1 := ⟨fun {S w l cs} hl h1 h => by
  match cs, hl with
  | [c], _ =>
    match l, h with
    | x :: _, ⟨v, _, e, hx, hr⟩ =>
      cases e
      simp only [List.all_cons, Bool.and_eq_true] at h1
      exact ⟨c, by rw [cells_of_one (R_one hx h1.1)], hx⟩⟩

theorem Dec.slice {t e : TypeId} (ht : P.underlying t = some (.slice e)) {k : Nat} (hk : P.cellsOf e = k) (hk0 : 0 < k) {α : Type} {en : α → List AV} {ok : α → Prop} {mk : List AV → AV} (he : Dec P e α en ok) (hone : ∀ a, (en a).all AV.one = true) (hm : Elem mk k) :
    Dec P t (List α) (fun l => [.vs k fun _ => LV.of (l.map fun a => mk (en a))]) fun l => l.length ≤ maxLen ∧ ∀ a ∈ l, ok a := by
  subst hk
  intro H enc w spare held fuel cs x h
  rcases DataW.trod_slice ht h with ⟨rfl, _⟩ | ⟨a, len, cap, elems, rest, n, rfl, rfl, rfl, _, h2, h3, h4, h5, _⟩
  · exact ⟨[], ⟨by simp, by simp⟩, _, _, rfl, ⟨none, 0, [], rfl, Nat.le_refl _, rfl, .inl rfl⟩, rfl⟩
  · have key : ∀ i : Nat, i < len → ∃ (c : List Value) (a' : α), w.cells? 0 (a.add (i * P.cellsOf e)) (P.cellsOf e) = some c ∧ ok a' ∧ Rs (Old w) w none (en a') c := by
      intro i hi
      have := h5 i hi
      rw [List.getElem?_eq_getElem (by omega)] at this
      simp only [Option.bind_eq_some_iff] at this
      obtain ⟨c, hc, hd⟩ := this
      obtain ⟨a', ha, hr⟩ := he _ _ _ _ _ _ _ hd
      exact ⟨c, a', hc, ha, hr⟩
    have hlist := list_of_all (R' := fun (q : α × Value) (i : Nat) => ok q.1 ∧ q.2.cells.size = P.cellsOf e ∧ (∀ (j : Nat) (c : Value), q.2.cells[j]? = some c → w.cell? ((a.add (i * P.cellsOf e)).add j) = some c) ∧ R (Old w) w none (mk (en q.1)) q.2) (List.range len) fun i hi => by
      obtain ⟨c, a', hc, ha, hr⟩ := key i (by simpa using hi)
      obtain ⟨hl, hg⟩ := cells?_get hc
      obtain ⟨v, hv, hr'⟩ := hm.val hl (hone a') hr
      refine ⟨(a', v), ha, by rw [← Array.length_toList, hv]; exact hl, fun j c' hj => hg j c' ?_, hr'⟩
      rw [← hv]; simpa using hj
    obtain ⟨qs, hq1, hq2⟩ := hlist
    rw [List.length_range] at hq1
    have hq : ∀ (i : Nat) (q : α × Value), qs[i]? = some q → ok q.1 ∧ q.2.cells.size = P.cellsOf e ∧ (∀ (j : Nat) (c : Value), q.2.cells[j]? = some c → w.cell? ((a.add (i * P.cellsOf e)).add j) = some c) ∧ R (Old w) w none (mk (en q.1)) q.2 := fun i q hi =>
      hq2 i q i hi (by
        have := (List.getElem?_eq_some_iff.1 hi).1
        rw [List.getElem?_range (by omega)])
    refine ⟨qs.map (·.1), ⟨by simp; omega, fun a' ha' => ?_⟩, _, _, rfl, ⟨some a, cap, qs.map (·.2), by simp [hq1], by simp; omega, ?_, ?_⟩, rfl⟩
    · obtain ⟨q, hqm, rfl⟩ := List.mem_map.1 ha'
      obtain ⟨i, hi, rfl⟩ := List.mem_iff_getElem.1 hqm
      exact (hq i _ (List.getElem?_eq_getElem hi)).1
    · rw [RL_iff, LV.l_of, Rs_iff]
      refine ⟨by simp, fun i c v hc hv => ?_⟩
      simp only [List.map_map, List.getElem?_map, Option.map_eq_some_iff] at hc hv
      obtain ⟨q, hq', rfl⟩ := hc
      obtain ⟨q', hq'', rfl⟩ := hv
      rw [hq'] at hq''; cases hq''
      exact (hq i q hq').2.2.2
    · cases hqs : qs with
      | nil => exact .inl rfl
      | cons q0 qr =>
        right
        have hlen : 0 < len := by rw [← hq1, hqs]; simp
        obtain ⟨_, hsz, hcell, _⟩ := hq 0 q0 (by rw [hqs]; rfl)
        have hc0 : ∃ c, q0.2.cells[0]? = some c := ⟨_, Array.getElem?_eq_getElem (by omega)⟩
        obtain ⟨c, hc⟩ := hc0
        have hw := hcell 0 c hc
        have ha0 : a.spot = none ∧ a.block < w.heap.size := by
          simp only [Nat.zero_mul, Addr.add, if_true] at hw
          unfold World.cell? at hw
          split at hw
          · rename_i hb
            split at hw
            · cases hw
            · rename_i hs
              exact ⟨by simpa using hs, (Array.getElem?_eq_some_iff.1 hb).1⟩
          · cases hw
        refine ⟨a, rfl, ha0.1, ha0.2, fun i ev hi => ?_⟩
        rw [← hqs] at hi
        simp only [List.getElem?_map, Option.map_eq_some_iff] at hi
        obtain ⟨q, hq', rfl⟩ := hi
        obtain ⟨_, h1, h2, _⟩ := hq i q hq'
        refine ⟨h1, fun j c hj => ?_⟩
        have := h2 j c hj
        have ea : (a.add (i * P.cellsOf e)).add j = ⟨a.block, a.off + (i * P.cellsOf e + j), none⟩ := by
          obtain ⟨b, o, s⟩ := a
          simp only at ha0
          obtain ⟨rfl, _⟩ := ha0
          simp only [Addr.add]
          by_cases h0 : i * P.cellsOf e = 0 <;> by_cases h1 : j = 0 <;> simp [h0, h1] <;> omega
        rw [← ea]; exact this

/-- fields, one behind the other -/
theorem Dec.fields {t : TypeId} {fs : List Field} {a : Array Field} (ht : P.underlying t = some (.struct a)) (hfs : a.toList = fs) {α : Type} {en : α → List AV} {ok : α → Prop}
    (h : ∀ {H : Type} (enc : TypeId × Value → H) (w : World) (spare : Nat → Bool) (held : Bool) (n : Nat) (cs : List Value), cs.length = P.cellsOf t →
      (∀ f ∈ fs, ∃ x, DataW.trod enc P w 0 spare held n f.type ((cs.drop f.offset).take (P.cellsOf f.type)) = some x) → ∃ a, ok a ∧ Rs (Old w) w none (en a) cs) : Dec P t α en ok := by
  intro H enc w spare held fuel cs x hx
  obtain ⟨xs, n, rfl, rfl, h1, h2, h3⟩ := DataW.trod_struct ht hx
  refine h enc w spare held n cs h1 fun f hf => ?_
  rw [← hfs] at hf
  obtain ⟨i, hi, rfl⟩ := List.mem_iff_getElem.1 hf
  have hi' : i < a.size := by simpa using hi
  have := h3 i a[i] (Array.getElem?_eq_getElem hi')
  rw [List.getElem?_eq_getElem (by omega)] at this
  exact ⟨_, by simpa using this⟩
theorem cut3 (cs : List Value) (o s n : Nat) (h : cs.length = n) (ho : o + s = n) : cs = cs.take o ++ (cs.drop o).take s := by
  have : (cs.drop o).take s = cs.drop o := List.take_of_length_le (by simp; omega)
  rw [this, List.take_append_drop]

theorem Dec.struct2 {t : TypeId} {a : Array Field} (ht : P.underlying t = some (.struct a)) {t0 t1 : TypeId} {s0 s1 : Nat} (hfs : a.toList.map (fun f => (f.type, f.offset)) = [(t0, 0), (t1, s0)]) (h0 : P.cellsOf t0 = s0) (h1 : P.cellsOf t1 = s1) (hs : P.cellsOf t = s0 + s1)
    {α β : Type} {e0 : α → List AV} {e1 : β → List AV} {k0 : α → Prop} {k1 : β → Prop} (d0 : Dec P t0 α e0 k0) (d1 : Dec P t1 β e1 k1) : Dec P t (α × β) (fun p => e0 p.1 ++ e1 p.2) fun p => k0 p.1 ∧ k1 p.2 := by
  refine Dec.fields ht rfl fun {H} enc w spare held n cs hl hf => ?_
  have get : ∀ t o, (t, o) ∈ a.toList.map (fun f => (f.type, f.offset)) → ∃ x, DataW.trod enc P w 0 spare held n t ((cs.drop o).take (P.cellsOf t)) = some x := fun t o hm => by
    obtain ⟨f, hf1, hf2⟩ := List.mem_map.1 hm
    cases hf2
    exact hf f hf1
  rw [hfs] at get
  obtain ⟨x0, g0⟩ := get t0 0 (by simp)
  obtain ⟨x1, g1⟩ := get t1 s0 (by simp)
  obtain ⟨a0, o0, r0⟩ := d0 _ _ _ _ _ _ _ g0
  obtain ⟨a1, o1, r1⟩ := d1 _ _ _ _ _ _ _ g1
  refine ⟨(a0, a1), ⟨o0, o1⟩, ?_⟩
  rw [cut3 cs s0 s1 _ (hl.trans hs) rfl]
  rw [h0] at r0; rw [h1] at r1
  exact Rs_append (by simpa using r0) r1

theorem Dec.array2 {t e : TypeId} (ht : P.underlying t = some (.array 2 e)) {k : Nat} (hk : P.cellsOf e = k) (hs : P.cellsOf t = 2 * k) {α : Type} {e0 : α → List AV} {k0 : α → Prop} (d0 : Dec P e α e0 k0) : Dec P t (α × α) (fun p => e0 p.1 ++ e0 p.2) fun p => k0 p.1 ∧ k0 p.2 := by
  intro H enc w spare held fuel cs x hx
  obtain ⟨xs, m, rfl, rfl, h1, h2, h3⟩ := DataW.trod_array ht hx
  have g := fun i (hi : i < 2) => by
    have := h3 i hi
    rw [List.getElem?_eq_getElem (by omega)] at this
    exact (⟨_, this⟩ : ∃ x, DataW.trod enc P w 0 spare held m e ((cs.drop (i * P.cellsOf e)).take (P.cellsOf e)) = some x)
  obtain ⟨x0, g0⟩ := g 0 (by omega)
  obtain ⟨x1, g1⟩ := g 1 (by omega)
  obtain ⟨a0, o0, r0⟩ := d0 _ _ _ _ _ _ _ g0
  obtain ⟨a1, o1, r1⟩ := d0 _ _ _ _ _ _ _ g1
  refine ⟨(a0, a1), ⟨o0, o1⟩, ?_⟩
  rw [hk] at r0 r1
  rw [cut3 cs k k _ (h1.trans hs) (by omega)]
  exact Rs_append (by simpa using r0) (by simpa using r1)

/-! ### The other way: behind the call -/
theorem trodAll_len {W : World} {b : Nat} : ∀ {ts : List TypeId} {vs : List Value} {ds : List (DataW H)} {p : List MemPlace}, DataW.TrodAll enc P W b spare held ts vs ds p → ds.length = ts.length
  | [], [], [], _, _ => rfl
  | _ :: _, _ :: _, _ :: _, _, ⟨_, _, _, h, _⟩ => by simp [trodAll_len h]
  | [], [], _ :: _, _, h => h.elim
  | [], _ :: _, _, _, h => h.elim
  | _ :: _, [], _, _, h => h.elim
  | _ :: _, _ :: _, [], _, h => h.elim
theorem trodAll_carry {W W' : World} (hq : ∀ k, k < W.heap.size → W'.heap[k]? = W.heap[k]?) : ∀ {ts : List TypeId} {vs : List Value} {ds : List (DataW H)} {p : List MemPlace},
    DataW.TrodAll enc P W 0 spare held ts vs ds p → (∀ p' ∈ p, p'.block < W.heap.size) → DataW.TrodAll enc P W' 0 spare held ts vs ds p
  | [], [], [], _, h, _ => h
  | _ :: _, _ :: _, _ :: _, _, ⟨p0, q0, ⟨n, h1⟩, h2, e⟩, lt => by
    subst e
    refine ⟨p0, q0, ⟨n, DataW.trod_carry _ _ _ _ h1 fun pl hpl => ?_⟩, trodAll_carry hq h2 fun p' hp => lt p' (List.mem_append_right _ hp), rfl⟩
    have hlt := lt pl (List.mem_append_left _ hpl)
    cases pl with
    | cell b off => exact World.cell?_of_block (hq b hlt)
    | map b => exact hq b hlt
  | [], [], _ :: _, _, h, _ => h.elim
  | [], _ :: _, _, _, h, _ => h.elim
  | _ :: _, [], _, _, h, _ => h.elim
  | _ :: _, _ :: _, [], _, h, _ => h.elim
theorem post_true {H : Type} {enc : TypeId × Value → H} {f : Func} {s : ChangeSpec} {W W' : World} {args : Array Value} {ds gs : List (DataW H)} {before : List MemPlace} {tb : TypeId}
    (hW : DataW.Whole enc P f.params.toList s.vars false W args.toList ds gs before) (hv : s.vars = []) (hres : f.resultTypes = #[tb]) (htb : P.underlying tb = some .bool)
    (hs : ∀ ds' : List (DataW H), ds'.length = f.params.size → s.fn H ds' = { results := [.lit (.bool true)], args := ds' })
    (hl : laidOutB P = true) (hm : mapsRowed P = true) (hz : ((List.range P.types.size).all fun t => match P.underlying t with | some (.slice e) => decide (0 < P.cellsOf e) | _ => true) = true) (hT : ∀ t ∈ f.params.toList, t < P.types.size)
    (hq : ∀ k, k < W.heap.size → W'.heap[k]? = W.heap[k]?) (fr : Fr W W') : s.post enc P f false true false false W args (.bool true) W' := by
  have hW' := hW
  obtain ⟨p, q, hA, hV, rfl, hfz, hnd⟩ := hW
  rw [hv] at hV
  obtain ⟨rfl, rfl⟩ := trodVars_none hV
  have hlen : ds.length = f.params.size := by have := trodAll_len hA; simpa using this
  have hsd := hs (ds ++ []) (by simpa using hlen)
  have hall : ∀ (b : Nat) (sp : Nat → Bool) (hd : Bool), DataW.TrodAll enc P W' b sp hd [tb] [.bool true] [.lit (.bool true)] [] := fun b sp hd => ⟨[], [], ⟨1, by simp [DataW.trod, htb, Value.cells]⟩, rfl, rfl⟩
  refine post_of_same (pa := p) (pv := []) hW' (fun b sp hd => ?_) (fun sp hsp => ?_) (fun sp _ => ?_) (by simp) ?_ fr.frozen ?_
  · rw [hsd, hres]; exact hall b sp hd
  · rw [hsd]
    simp only [List.append_nil]
    have carry : DataW.TrodAll enc P W' 0 (fun _ => true) true f.params.toList args.toList ds p := trodAll_carry hq hA fun p' hp => hW'.lt p' (by simpa using hp)
    exact carry.respare (kids_rows hl hm) (fun t e ht hu => slices_full_of P hz t e ht hu) hT fun p' hp => hsp p' (by simpa using hp)
  · rw [hsd, hv]; rfl
  · refine ⟨fr.os, fr.output, fun i hi => ?_⟩
    rw [hq i hi]
    cases h : W.heap[i]? with
    | none => trivial
    | some o => cases o <;> simp
  · exact ok_one hres rfl (okWide_bool_mk htb _)

/-! ### Arguments -/
def Arg (P : Program) (t : TypeId) (α : Type) (en : α → AV) (ok : α → Prop) : Prop :=
  ∀ {H : Type} (enc : TypeId × Value → H) (W : World) (base : Nat) (v : Value) (d : DataW H) (p : List MemPlace), Value.okWide P W .any base t v → DataW.Trod enc P W 0 (fun _ => true) true t v d p → ∃ a, ok a ∧ R (Old W) W none (en a) v
theorem Arg.agg {t : TypeId} {a : Array Field} (ht : P.underlying t = some (.struct a)) {α : Type} {en : α → List AV} {ok : α → Prop} (h : Dec P t α en ok) : Arg P t α (fun a => .agg (en a)) ok := by
  intro H enc W base v d p hok ⟨n, hn⟩
  simp only [Value.okWide, ht] at hok
  obtain ⟨cs, rfl, _⟩ := hok
  obtain ⟨x, h1, h2⟩ := h _ _ _ _ _ _ _ hn
  exact ⟨x, h1, cs.toList, by simp, by simpa [Value.cells] using h2⟩
theorem Arg.one {t : TypeId} {k : TypeDesc} (ht : P.underlying t = some k) (hk : match k with | .int _ | .bool | .slice _ => True | _ => False) {α : Type} {en : α → AV} {ok : α → Prop} (h : Dec P t α (fun a => [en a]) ok) : Arg P t α en ok := by
  intro H enc W base v d p hok ⟨n, hn⟩
  obtain ⟨x, h1, y, ys, h2, h3, h4⟩ := h _ _ _ _ _ _ _ hn
  have h4 : ys = [] := h4
  subst h4
  have hv : v = y := by
    cases v
    case agg cs => cases k <;> first | exact hk.elim | simp [Value.okWide, ht, Cell.okWide, Cell.ok] at hok
    all_goals (simp [Value.cells] at h2; exact h2)
  subst hv
  exact ⟨x, h1, h3⟩

/-- A LAW, from its contract. -/
theorem law_true {γ : Nat → Option AV} {f : FuncId} {fn : Func} {s : ChangeSpec} {W : World} {args : Array Value} {ds gs : List (DataW H)} {before : List MemPlace} {tb : TypeId} {avs : List AV} (hp : Pure P γ false f avs (.b fun _ => true)) (hr : Rs (Old W) W none avs args.toList)
    (hγ : ∀ g x, γ g = some x → R (Old W) W none (.vp (fun _ => x) 0) (.pointer (some ⟨g, 0, none⟩)))
    (hW : DataW.Whole enc P fn.params.toList s.vars false W args.toList ds gs before) (hv : s.vars = []) (hres : fn.resultTypes = #[tb]) (htb : P.underlying tb = some .bool)
    (hs : ∀ ds' : List (DataW H), ds'.length = fn.params.size → s.fn H ds' = { results := [.lit (.bool true)], args := ds' })
    (hl : laidOutB P = true) (hm : mapsRowed P = true) (hz : ((List.range P.types.size).all fun t => match P.underlying t with | some (.slice e) => decide (0 < P.cellsOf e) | _ => true) = true) (hT : ∀ t ∈ fn.params.toList, t < P.types.size) :
    Calls P f args W fun e W' => ∃ v, e = .returned v ∧ s.post enc P fn false true false false W args v W' := by
  have := hp.2 (Old W) W args.toList (fun k hk => hk) hγ hr
  refine (this.mono fun e w' ⟨v', S', h1, h2, h3⟩ => ?_)
  have h2 : v' = .bool true := h2
  subst h2
  exact ⟨_, h1, post_true hW hv hres htb hs hl hm hz hT h3.same h3.fr⟩
end
end Go.AL
