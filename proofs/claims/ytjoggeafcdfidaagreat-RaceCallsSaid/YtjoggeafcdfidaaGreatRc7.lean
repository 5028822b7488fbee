import Derived.Test.YtjoggeafcdfidaaGreatRc6
import Derived.Shelf.Sort.Plain
import Derived.Shelf.Slices.CompactI
import Derived.Shelf.Slices.In.SortNone
set_option linter.unusedVariables false
set_option linter.unusedSimpArgs false
namespace Go.AL
open Go Go.RowKit

section
variable {P : Program} {γ : Nat → Option AV}

def wpInL (F : Fence) (n : Nat) (P : Program) : List Code → (Exit → Act → World → Prop) → Act → World → Prop
 | [], Q, a, w => Q .normal a w
 | c :: r, Q, a, w => c.wpIn F n P (Exit.then (fun a w => wpInL F n P r Q a w) Q) a w
theorem wpInL_mono {F : Fence} {n : Nat} : ∀ {l : List Code} {Q Q' : Exit → Act → World → Prop} {a : Act} {w : World}, (∀ e a w, Q e a w → Q' e a w) → wpInL F n P l Q a w → wpInL F n P l Q' a w
 | [], _, _, _, _, hq, h => hq _ _ _ h
 | c :: r, Q, Q', a, w, hq, h => wpIn_mono h fun e a w h' => by
  cases e with
  | normal => exact wpInL_mono hq h'
  | _ => exact hq _ _ _ h'
theorem wpInL_app {F : Fence} {n : Nat} : ∀ {xs ys : List Code} {Q : Exit → Act → World → Prop} {a : Act} {w : World}, wpInL F n P xs (Exit.then (wpInL F n P ys Q) Q) a w → wpInL F n P (xs ++ ys) Q a w
 | [], ys, Q, a, w, h => h
 | x :: xs, ys, Q, a, w, h => wpIn_mono h fun e a w h' => by
  cases e with
  | normal => exact wpInL_app h'
  | _ => exact h'
theorem wpInL_unapp {F : Fence} {n : Nat} : ∀ {xs ys : List Code} {Q : Exit → Act → World → Prop} {a : Act} {w : World}, wpInL F n P (xs ++ ys) Q a w → wpInL F n P xs (Exit.then (wpInL F n P ys Q) Q) a w
 | [], ys, Q, a, w, h => h
 | x :: xs, ys, Q, a, w, h => wpIn_mono h fun e a w h' => by
  cases e with
  | normal => exact wpInL_unapp h'
  | _ => exact h'
theorem wpInL_one {F : Fence} {n : Nat} {c : Code} {Q : Exit → Act → World → Prop} {a : Act} {w : World} (h : wpInL F n P [c] Q a w) : c.wpIn F n P Q a w := wpIn_mono h fun e a w h' => by cases e <;> exact h'
theorem wpInL_items {F : Fence} {n : Nat} : ∀ (c : Code) {Q : Exit → Act → World → Prop} {a : Act} {w : World}, wpInL F n P (citems c) Q a w → c.wpIn F n P Q a w
 | .seq x y, Q, a, w, h => wpIn_seq (wpIn_mono (wpInL_items x (wpInL_unapp h)) fun e a w h' => by
  cases e with
  | normal => exact wpInL_items y h'
  | _ => exact h')
 | .skip, _, _, _, h => wpInL_one h
 | .cond .., _, _, _, h => wpInL_one h
 | .block .., _, _, _, h => wpInL_one h
 | .exit _, _, _, _, h => wpInL_one h
 | .ret, _, _, _, h => wpInL_one h
 | .region .., _, _, _, h => wpInL_one h
 | .loop _, _, _, _, h => wpInL_one h
 | .scope _, _, _, _, h => wpInL_one h
 | .goto _, _, _, _, h => wpInL_one h
 | .label _, _, _, _, h => wpInL_one h
 | .refuse _, _, _, _, h => wpInL_one h
 | .rangeFunc .., _, _, _, h => wpInL_one h

/-- what stands ahead of the loop -/
theorem pre_sound {C : EC} {CQ : List Blk → QC} {T : Nat → TI} {D : Array Oper → (St → Prop) → St → Prop} {W : Code → (Exit → St → Prop) → St → Prop} (E : Env P γ C CQ T D W) {n : Nat} : ∀ (l : List Code) (Q : Exit → St → Prop) (A : St), vcl T γ C D W l Q A →
  ∀ B S ρ a w, Sim B S γ ρ A a w → wpInL Fence.wide n P l (fun e a' w' => ∃ S' ρ' A', Q e A' ∧ Sim B S' γ ρ' A' a' w' ∧ Ext B S ρ w S' ρ' w') a w
 | [], Q, A, h, B, S, ρ, a, w, hs => ⟨S, ρ, A, h, hs, Ext.refl _ _ _ _⟩
 | c :: r, Q, A, h, B, S, ρ, a, w, hs => wpIn_mono (wpIn_wide.2 (E.b h B S ρ a w hs)) fun e a' w' ⟨S', ρ', A', h1, h2, h3⟩ => by
  cases e with
  | normal => exact wpInL_mono (fun e a w ⟨S'', ρ'', A'', k1, k2, k3⟩ => ⟨S'', ρ'', A'', k1, k2, h3.trans k3⟩) (pre_sound E r Q A' h1 B S' ρ' a' w' h2)
  | _ => exact ⟨S', ρ', A', h1, h2, h3⟩
/-- what stands behind it -/
theorem post_sound {ty : Program → Nat → TI} (hτ : ∀ t, ty P t = tiOf P t) (hm : P.follows .mixedOrders = true) {ds : List Deferred} {n : Nat} : ∀ (l : List Code) (Q : Exit → St → Prop) (A : St), l.all noDef = true → vcl (ty P) γ (PC P γ) (Dx P γ) (fun _ _ _ => False) l Q A →
  ∀ B S ρ a w, Sim B S γ ρ A a w → wpInL Fence.wide n P l (fun e a' w' => ∃ a0 S' ρ' A', a' = df ds a0 ∧ Q e A' ∧ Sim B S' γ ρ' A' a0 w' ∧ Ext B S ρ w S' ρ' w') (df ds a) w
 | [], Q, A, _, h, B, S, ρ, a, w, hs => ⟨a, S, ρ, A, rfl, h, hs, Ext.refl _ _ _ _⟩
 | c :: r, Q, A, hl, h, B, S, ρ, a, w, hs => by
  simp only [List.all_cons, Bool.and_eq_true] at hl
  refine wpIn_mono (EnvX.to (ro := none) (ds := ds) hτ hm hl.1 h B S ρ a w n hs) fun e a' w' ⟨a0, S', ρ', A', h0, h1, h2, h3⟩ => ?_
  cases e with
  | normal =>
   subst h0
   exact wpInL_mono (fun e a w ⟨a1, S'', ρ'', A'', k0, k1, k2, k3⟩ => ⟨a1, S'', ρ'', A'', k0, k1, k2, h3.trans k3⟩) (post_sound hτ hm r Q A' hl.2 h1 B S' ρ' a0 w' h2)
  | _ => exact ⟨a0, S', ρ', A', h0, h1, h2, h3⟩

def mark (D : Nat) : Deferred := { target := .collected D, args := #[] }
def oDef : Obj := .deferred (some [])
theorem oDef_nc : noCells oDef := fun _ _ _ h => by cases h

/-- THE STATEMENT. -/
theorem rf_sound {id : Nat} {g : Operand} {ps : Array Tmp} {asg bd : Code} {A : St} {gf : Nat} {cs : List AV} (hg : A.ev γ g = .fn gf [] cs) {K : Nat → Exit → St → Prop}
  (hit : ∀ (l D fn : Nat) (t : Array Value), t.size = A.n → SCalls P γ gf (.raw (.func (.yield l) #[] #[]) :: cs) (A.h ++ [.obj D oDef .nil #[], .obj l (recOf fn t ps asg bd D .ready none) A.s t]) fun _ h' =>
   (h'[A.h.length + 1]? = some (.obj l (recOf fn t ps asg bd D .ready none) A.s t) ∧ K D .normal ⟨A.n, A.s, h'.set (A.h.length + 1) (.obj l (recOf fn t ps asg bd D .exhausted none) A.s t)⟩) ∨
   (h'[A.h.length + 1]? = some (.obj l (recOf fn t ps asg bd D .done (some .ret)) A.s t) ∧ K D .ret ⟨A.n, A.s, h'.set (A.h.length + 1) (.obj l (recOf fn t ps asg bd D .exhausted (some .ret)) A.s t)⟩))
  {B : Nat} {S : Nat → Prop} {ρ : List Loc} {a : Act} {w : World} {n : Nat} (hs : Sim B S γ ρ A a w) :
  (Code.block id (.rangeFunc g ps asg bd)).wpIn Fence.wide n P (fun e a' w' => ∃ D a0 S' ρ' A', a' = df [mark D] a0 ∧ K D e A' ∧ Sim B S' γ ρ' A' a0 w' ∧ Ext B S ρ w S' ρ' w') a w := by
 refine wpIn_block (wpIn_rangeFunc fun fn _ => ?_)
 have hgv := hs.ev g
 rw [hg] at hgv
 obtain ⟨fv, cv, hgv, hr1, hr2⟩ := hgv
 have hfv : fv = [] := by cases fv with
  | nil => rfl
  | cons x xs => exact absurd hr1 (by simp [Rs])
 subst hfv
 obtain ⟨ρ1, hh1, hx1⟩ := hs.heap.allocObj oDef oDef_nc .nil #[] fun m => rfl
 obtain ⟨ρ2, hh2, hx2⟩ := hh1.allocObj (recOf fn a.tmps ps asg bd w.heap.size .ready none) recOf_nc A.s a.tmps fun m => hx1.R (hs.slot m)
 have hx := hx1.trans hx2
 have hsz : (w.alloc oDef).heap.size = w.heap.size + 1 := World.size_alloc ..
 rw [hsz] at hh2
 have hcall := hit (w.heap.size + 1) w.heap.size fn a.tmps hs.size
 have hvals : Rs S ((w.alloc oDef).alloc (recOf fn a.tmps ps asg bd w.heap.size .ready none)) (some ρ2) (.raw (.func (.yield (w.heap.size + 1)) #[] #[]) :: cs) (.func (.yield (w.heap.size + 1)) #[] #[] :: cv) :=
  ⟨_, _, rfl, rfl, Rs.mono (fun _ h => h) hx.same (ρ := some ρ) (ρ' := some ρ2) hx.locs _ _ hr2⟩
 have hc := hcall.2 B S ρ2 _ _ (by simpa using hh2) hvals
 have hargs : (#[.func (.yield (w.heap.size + 1)) #[] #[]] : Array Value) ++ cv.toArray = (.func (.yield (w.heap.size + 1)) #[] #[] :: cv : List Value).toArray := by apply Array.toList_inj.1; simp
 refine ⟨w.heap.size + 1, [mark w.heap.size], (w.alloc oDef).alloc (recOf fn a.tmps ps asg bd w.heap.size .ready none), { target := .fn (.func gf) cv.toArray, args := #[.func (.yield (w.heap.size + 1)) #[] #[]] }, (w.alloc oDef).alloc (recOf fn a.tmps ps asg bd w.heap.size .ready none), gf, #[.func (.yield (w.heap.size + 1)) #[] #[]] ++ cv.toArray, (w.alloc oDef).alloc (recOf fn a.tmps ps asg bd w.heap.size .ready none), run_enterLoop_outer _ _ _ _ _, ?_, fun _ _ => trivial, ?_, (by intro h; cases h), ?_⟩
 ·simp only [resolve, hgv]
  simp [go_sem]
 ·simp only [invoke]
  exact hcall.1 _ _
 ·rw [hargs]
  refine callsIn_wide.2 (hc.mono fun e w3 ⟨v, h', S3, ρ3, v', he, hq, hv, hh3, hx3⟩ => ?_)
  subst he
  have hact : ({ a with defers := [mark w.heap.size] ++ a.defers } : Act) = df [mark w.heap.size] a := by
   have := hs.nodef
   unfold df; rw [this]; rfl
  rcases hq with ⟨hb, hk⟩ | ⟨hb, hk⟩
  ·obtain ⟨hl, hh4, hx4, hsl⟩ := hh3.putObj (recOf fn a.tmps ps asg bd w.heap.size .exhausted none) hb recOf_nc recOf_nc
   refine ⟨none, _, run_endLoop hl (by intro h; cases h), ?_⟩
   refine ⟨_, a, S3, ρ3, _, hact, hk, ⟨hs.nodef, hs.size, hs.small, fun m => hx4.R (hsl m), hh4⟩, (hx.trans hx3).trans hx4⟩
  ·obtain ⟨hl, hh4, hx4, hsl⟩ := hh3.putObj (recOf fn a.tmps ps asg bd w.heap.size .exhausted (some .ret)) hb recOf_nc recOf_nc
   refine ⟨some .ret, _, run_endLoop hl (by intro h; cases h), wpIn_ret ?_⟩
   refine ⟨_, a, S3, ρ3, _, hact, hk, ⟨hs.nodef, hs.size, hs.small, fun m => hx4.R (hsl m), hh4⟩, (hx.trans hx3).trans hx4⟩
end
end Go.AL

namespace Go.AL
open Go Go.RowKit

section
variable {P : Program} {γ : Nat → Option AV}

/-- what holds at the end of the body, the mark's calls taken over -/
def endF (T : Nat → TI) (rs : List ResultVar) (F : AV → List Blk → Prop) (D bD : Nat) (oD oD' : Obj) (e : Exit) (A : St) : Prop :=
 A.h[bD]? = some (.obj D oD .nil #[]) ∧ bodyQ T rs F e ⟨A.n, A.s, A.h.set bD (.obj D oD' .nil #[])⟩

/-- what the loop asks of the state that comes to it -/
def RFp (P : Program) (γ : Nat → Option AV) (T : Nat → TI) (C : EC) (D : Array Oper → (St → Prop) → St → Prop) (F : AV → List Blk → Prop) (g : Operand) (ps : Array Tmp) (asg bd : Code) (rs : List ResultVar) (post : List Code) (A : St) : Prop :=
 ∃ A' gf cs, Step γ A A' ∧ A'.ev γ g = .fn gf [] cs ∧ (ps.toList.all fun p => decide (p < A'.n)) = true ∧ ∀ (l DD : Nat) (t : Array Value) (oR oB oX oE oEX oD oD' : Obj),
  (∀ (args : List AV) (H : List Blk) (Q : AV → List Blk → Prop), ps.toList.length = args.length → H[A'.h.length + 1]? = some (.obj l oR A'.s t) →
   vc T γ C D (fun _ _ _ => False) asg (thenE (fun A1 => A1.h[A'.h.length + 1]? = some (.obj l oR A'.s t) ∧ vc T γ C D (fun _ _ _ => False) bd (endQ (A'.h.length + 1) l oB oR (some oX) A'.s t Q) ⟨A1.n, A1.s, A1.h.set (A'.h.length + 1) (.obj l oB A'.s t)⟩) fun _ _ => False) ⟨A'.n, sets (ps.toList.zip args) A'.s, H⟩ → YCall P γ l args H Q) →
  SCalls P γ gf (.raw (.func (.yield l) #[] #[]) :: cs) (A'.h ++ [.obj DD oD .nil #[], .obj l oR A'.s t]) fun _ h' =>
   (h'[A'.h.length + 1]? = some (.obj l oR A'.s t) ∧ vcl T γ C D (fun _ _ _ => False) post (endF T rs F DD A'.h.length oD oD') ⟨A'.n, A'.s, h'.set (A'.h.length + 1) (.obj l oE A'.s t)⟩) ∨
   (h'[A'.h.length + 1]? = some (.obj l oX A'.s t) ∧ endF T rs F DD A'.h.length oD oD' .ret ⟨A'.n, A'.s, h'.set (A'.h.length + 1) (.obj l oEX A'.s t)⟩)

theorem endF_run {τ : Nat → TI} (hτ : ∀ t, τ t = tiOf P t) {fn : Func} {F : AV → List Blk → Prop} {D bD : Nat} {e : Exit} {A : St} (h : endF τ fn.results.toList F D bD oDef (.deferred none) e A) {B : Nat} {S : Nat → Prop} {ρ : List Loc} {a : Act} {w : World} (hs : Sim B S γ ρ A a w) {R' : Ending → World → Prop}
  (hR : ∀ h' w' v v', F v h' → HeapR B S γ ρ h' w' → R S w' (some ρ) v v' → Ext B S ρ w S ρ w' → R' (.returned v') w') {n : Nat} : bodyPostM Fence.wide n P fn R' e (df [mark D] a) w := by
 obtain ⟨hb, hq⟩ := h
 obtain ⟨hD, hh, hx, _⟩ := hs.heap.putObj (.deferred none) hb oDef_nc fun _ _ _ h => by cases h
 have hs' : Sim B S γ ρ ⟨A.n, A.s, A.h.set bD (.obj D (.deferred none) .nil #[])⟩ a (w.putObj D (.deferred none)) := ⟨hs.nodef, hs.size, hs.small, fun m => hx.R (hs.slot m), hh⟩
 have := bodyQ_run hτ hq hs' (R' := R') fun v v' hv hr => hR _ _ v v' hv hh hr hx
 have go : (a.defers = [] ∧ ∃ v, (results fn a.tmps).run P (w.putObj D (.deferred none)) = .ok v (w.putObj D (.deferred none)) ∧ R' (.returned v) (w.putObj D (.deferred none))) → LeavesInM Fence.wide n P fn a.tmps R' (a.defers ++ [mark D]) .returning w := fun ⟨hd, v, h1, h2⟩ => by
  rw [hd]
  exact ⟨by simp, .inl ⟨D, _, rfl, run_takeDeferred hD, v, h1, h2⟩⟩
 cases e with
 | normal => exact go this
 | ret => exact go this
 | _ => exact hq.elim

/-- A CONTRACT ON DATA, of a function with a range over a function. -/
theorem Pure.goR {ty : Program → Nat → TI} (hτ : ∀ t, ty P t = tiOf P t) (hm : P.follows .mixedOrders = true) {f : FuncId} {fn : Func} {n : Nat} {rs : Array ResultVar}
  (hf : P.funcs[f]? = some fn) (hb : fn.body = some (fn.body.getD .skip)) (hn : fn.ntmps = n) (hr : fn.results = rs) (he : Enters P f) {args : List AV} {y : AV} (hsz : args.length ≤ n ∧ n < 1000)
  (k : Nat) {id : Nat} {g : Operand} {ps : Array Tmp} {asg bd : Code} {pre post : List Code} (hk : citems (fn.body.getD .skip) = pre ++ .block id (.rangeFunc g ps asg bd) :: post) (hnd : (noDef asg && noDef bd && post.all noDef) = true)
  (h : ∀ (P' : Program) (C : EC) (CQ : List Blk → QC) (D : Array Oper → (St → Prop) → St → Prop) (W : Code → (Exit → St → Prop) → St → Prop) (C2 : EC) (CQ2 : List Blk → QC) (D2 : Array Oper → (St → Prop) → St → Prop) (F : AV → List Blk → Prop) (RQ : St → Prop), Env P γ C CQ (ty P') D W → EnvX P γ C2 CQ2 (ty P') D2 →
   (∀ {v h}, fz h y v → F v h) → (∀ {A}, RFp P γ (ty P') C2 D2 F g ps asg bd rs.toList post A → RQ A) → vcl (ty P') γ C D W pre (thenE RQ (bodyQ (ty P') rs.toList F)) (start n args [])) : Pure P γ false f args y := by
 subst hn; subst hr
 simp only [Bool.and_eq_true] at hnd
 obtain ⟨⟨hnd1, hnd2⟩, hnd3⟩ := hnd
 refine ⟨he, fun S w vals hS hg hargs => callsIn_wide.1 (callsIn_of_wp_marks (F := Fence.wide) (n := 0) hf hb trivial ?_)⟩
 have hh : HeapR w.heap.size S γ [] [] w := ⟨rfl, fun b blk loc h _ => by simp at h, fun b loc K h _ => by simp at h, fun b b' loc loc' K h _ _ _ => by simp at h, hS, hg, Nat.le_refl _, fun b loc h => by simp at h⟩
 have hs0 := Sim.start hh (Rs.mono (S := S) (fun _ h => h) (fun _ _ => rfl) (ρ := none) (ρ' := some []) trivial _ _ hargs) hsz.1 hsz.2
 have E := Env.top (γ := γ) hτ hm
 have h0 := h P _ _ _ _ _ _ _ (fun v h => fz h y v) (RFp P γ (ty P) (PC P γ) (Dx P γ) (fun v h => fz h y v) g ps asg bd fn.results.toList post) E (EnvX.top hτ hm) (fun h => h) (fun h => h)
 have fin0 : ∀ h'' w'' (X : (Nat → Prop) × List Loc) v v', fz h'' y v → HeapR w.heap.size X.1 γ X.2 h'' w'' → R X.1 w'' (some X.2) v v' → Ext w.heap.size S [] w X.1 X.2 w'' → ∃ v'' S', Ending.returned v' = .returned v'' ∧ R S' w'' none y v'' ∧ ExtQ (fun k => false = false ∧ S k) w S' w'' := fun h'' w'' ⟨S', ρ'⟩ v v' hv hh2 hr h3 => by
  refine ⟨v', Froz S' ρ', rfl, fz_sound hh2 y v v' hv hr, h3.fr, h3.below, fun k hk => .inl (h3.sub k hk.2), fun k hk => ?_⟩
  rcases hk with hk | ⟨b, loc, hb, hk⟩
  ·rcases h3.grow k hk with h4 | h4
   ·exact .inl ⟨rfl, h4⟩
   ·exact .inr ⟨h4, hh2.sle k hk⟩
  ·obtain ⟨_, h5, h6⟩ := hh2.own b loc k hb hk
   exact .inr ⟨h6, h5⟩
 have fin : ∀ D bD e A S' ρ' a' w', endF (ty P) fn.results.toList (fun v h => fz h y v) D bD oDef (.deferred none) e A → Sim w.heap.size S' γ ρ' A a' w' → Ext w.heap.size S [] w S' ρ' w' →
   bodyPostM Fence.wide 0 P fn (fun e w' => ∃ v' S', e = .returned v' ∧ R S' w' none y v' ∧ ExtQ (fun k => false = false ∧ S k) w S' w') e (df [mark D] a') w' := fun D bD e A S' ρ' a' w' h1 h2 h3 => by
  exact endF_run hτ h1 h2 fun h'' w'' v v' hv hh2 hr hx => fin0 _ _ (S', ρ') v v' hv hh2 hr (h3.trans hx)
 refine wpInL_items _ ?_
 rw [hk]
 refine wpInL_app (wpInL_mono ?_ (pre_sound E _ _ _ h0 _ _ _ _ w hs0))
 rintro e a1 w1 ⟨S1, ρ1, A1, h1, hs1, hx1⟩
 cases e with
 | normal =>
  obtain ⟨A2, gf, cs, hstep, hg2, hps, hit⟩ := h1
  obtain ⟨S2, ρ2, hs2, hx2⟩ := hstep _ _ _ _ _ hs1
  have hps : ∀ p ∈ ps.toList, p < A2.n := fun p hp => by simpa using List.all_eq_true.1 hps p hp
  refine wpIn_mono (rf_sound (id := id) (K := fun D e A => match e with | .normal => vcl (ty P) γ (PC P γ) (Dx P γ) (fun _ _ _ => False) post (endF (ty P) fn.results.toList (fun v h => fz h y v) D A2.h.length oDef (.deferred none)) A | .ret => endF (ty P) fn.results.toList (fun v h => fz h y v) D A2.h.length oDef (.deferred none) .ret A | _ => False) hg2 (fun l D fn' t ht => ?_) hs2) ?_
  ·refine (hit l D t (recOf fn' t ps asg bd D .ready none) (recOf fn' t ps asg bd D .busy none) (recOf fn' t ps asg bd D .done (some .ret)) (recOf fn' t ps asg bd D .exhausted none) (recOf fn' t ps asg bd D .exhausted (some .ret)) oDef (.deferred none) fun args H Q hl hH hv => ?_).mono fun v h' h3 => h3
   refine YCall.of_body ht hs2.small hl hps hH ?_
   refine (EnvX.to (ro := some l) (ds := []) hτ hm hnd1 hv).mono fun e A' h' => ?_
   cases e with
   | normal => exact ⟨h'.1, EnvX.to (ro := some l) (ds := []) hτ hm hnd2 h'.2⟩
   | _ => exact h'.elim
  ·rintro e a3 w3 ⟨D, a4, S3, ρ3, A3, rfl, h3, hs3, hx3⟩
   have hx := (hx1.trans hx2).trans hx3
   cases e with
   | normal =>
    refine wpInL_mono ?_ (post_sound (ds := [mark D]) hτ hm post _ _ hnd3 h3 _ _ _ _ _ hs3)
    rintro e a5 w5 ⟨a6, S5, ρ5, A5, rfl, h5, hs5, hx5⟩
    exact fin _ _ _ _ _ _ _ _ h5 hs5 (hx.trans hx5)
   | ret => exact fin _ _ _ _ _ _ _ _ h3 hs3 hx
   | _ => exact h3.elim
 | ret =>
  obtain ⟨hd, v, k1, k2⟩ := bodyQ_run (R' := fun e w' => ∃ v' S', e = .returned v' ∧ R S' w' none y v' ∧ ExtQ (fun k => false = false ∧ S k) w S' w') hτ (show bodyQ (ty P) fn.results.toList (fun v h => fz h y v) .ret A1 from h1) hs1 fun v v' hv hr => fin0 _ _ (S1, ρ1) v v' hv hs1.heap hr hx1
  show LeavesInM Fence.wide 0 P fn a1.tmps _ a1.defers .returning w1
  rw [hd]
  exact ⟨v, k1, k2⟩
 | _ => exact h1.elim

def rfOf : Option Code → Nat × Operand × Array Tmp × Code × Code
 | some (.block id (.rangeFunc g ps asg bd)) => (id, g, ps, asg, bd)
 | _ => (0, .const Go.undef, #[], .skip, .skip)
def rfAt (c : Code) (k : Nat) : Nat × Operand × Array Tmp × Code × Code := rfOf (citems c)[k]?
def rfB (c : Code) (k : Nat) : Bool := match (citems c)[k]? with | some (.block _ (.rangeFunc ..)) => noDef (rfAt c k).2.2.2.1 && noDef (rfAt c k).2.2.2.2 && ((citems c).drop (k + 1)).all noDef | _ => false
theorem rf_split {c : Code} {k : Nat} (h : rfB c k = true) : citems c = (citems c).take k ++ .block (rfAt c k).1 (.rangeFunc (rfAt c k).2.1 (rfAt c k).2.2.1 (rfAt c k).2.2.2.1 (rfAt c k).2.2.2.2) :: (citems c).drop (k + 1) ∧ (noDef (rfAt c k).2.2.2.1 && noDef (rfAt c k).2.2.2.2 && ((citems c).drop (k + 1)).all noDef) = true := by
 unfold rfB at h
 split at h
 ·rename_i id g ps asg bd hk
  refine ⟨?_, h⟩
  have e : rfAt c k = (id, g, ps, asg, bd) := by unfold rfAt; rw [hk]; rfl
  rw [e]
  obtain ⟨hlt, hk⟩ := List.getElem?_eq_some_iff.1 hk
  rw [← hk, ← List.drop_eq_getElem_cons hlt, List.take_append_drop]
 ·cases h

/-- the same; the loop is the k-th item -/
theorem Pure.goK {ty : Program → Nat → TI} (hτ : ∀ t, ty P t = tiOf P t) (hm : P.follows .mixedOrders = true) {f : FuncId} {fn : Func} {n : Nat} {rs : Array ResultVar}
  (hf : P.funcs[f]? = some fn) (hb : fn.body = some (fn.body.getD .skip)) (hn : fn.ntmps = n) (hr : fn.results = rs) (he : Enters P f) {args : List AV} {y : AV} (hsz : args.length ≤ n ∧ n < 1000)
  (k : Nat) (hk : rfB (fn.body.getD .skip) k = true)
  (h : ∀ (P' : Program) (C : EC) (CQ : List Blk → QC) (D : Array Oper → (St → Prop) → St → Prop) (W : Code → (Exit → St → Prop) → St → Prop) (C2 : EC) (CQ2 : List Blk → QC) (D2 : Array Oper → (St → Prop) → St → Prop) (F : AV → List Blk → Prop) (RQ : St → Prop), Env P γ C CQ (ty P') D W → EnvX P γ C2 CQ2 (ty P') D2 →
   (∀ {v h}, fz h y v → F v h) → (∀ {A}, RFp P γ (ty P') C2 D2 F (rfAt (fn.body.getD .skip) k).2.1 (rfAt (fn.body.getD .skip) k).2.2.1 (rfAt (fn.body.getD .skip) k).2.2.2.1 (rfAt (fn.body.getD .skip) k).2.2.2.2 rs.toList ((citems (fn.body.getD .skip)).drop (k + 1)) A → RQ A) →
   vcl (ty P') γ C D W ((citems (fn.body.getD .skip)).take k) (thenE RQ (bodyQ (ty P') rs.toList F)) (start n args [])) : Pure P γ false f args y :=
 Pure.goR hτ hm hf hb hn hr he hsz k (rf_split hk).1 (rf_split hk).2 h

theorem Step.refl {A : St} : Step γ A A := fun _ S ρ _ _ hs => ⟨S, ρ, hs, Ext.refl _ _ _ _⟩
/-- a nil slice in a box gets a run -/
theorem Step.ghostBox {A : St} (b k : Nat) (hb : A.h[b]? = some (.box .nils)) : Step γ A ⟨A.n, A.s, (A.h ++ [Blk.run 0 k fun _ => .nil]).set b (.box (.sl A.h.length 0 k (fun _ => 0) fun _ => 0))⟩ := fun B S ρ a w hs => by
 obtain ⟨h1, h2⟩ := hs.heap.ghostR k
 have hlt : b < ρ.length := by rw [hs.heap.len]; exact (List.getElem?_eq_some_iff.1 hb).1
 refine ⟨S, _, ⟨hs.nodef, hs.size, hs.small, fun n => h2.R (hs.slot n), h1.retell b _ fun loc hloc => ?_⟩, h2⟩
 rw [List.getElem?_append_left hlt] at hloc
 obtain ⟨k1, K, ty, xv, k2, k3, k4, _⟩ := hs.heap.blk b _ loc hb hloc
 exact ⟨k1, K, ty, xv, k2, k3, by rw [← hs.heap.len]; exact R_ghost k k4, rfl⟩
end
end Go.AL

namespace Go.AL.Rl
open Go Go.AL Go.Proofs
set_option maxRecDepth 100000
set_option maxHeartbeats 3200000
variable {γ : Nat → Option AV}

def racesV (v : RV) : List Rc := (rpA v v.ids.length v.ids.length).map (rcOf v)
theorem rvG_wf {g : Gr} (h : GOk g) : RWf (rvG g) := by
 have hV := viewG_wf h
 have hl : (hbF (viewG g) (nG g)).length = nG g := by have := (hb_fits (viewG g) hV.small).2.2.1; omega
 have e : nG g = g.init.length + (idsT g g.th.length).length := by unfold nG idsG; simp [idsI_len]
 have h1 := hV.small
 unfold rvG
 constructor
 ·exact (idsT_len g g.th.length).symm
 ·simp only; omega
 ·simp only; omega
 ·simp only; omega
theorem vall_ok (v : RV) : Pure Tryz.prog γ false 21 [aRV v] (.fn 34 [] [.vp (fun _ => aRV v) 0]) := by
 unfold aRV
 refine Pure.go (ty := ty) ty_eq mo Tryz.func21 rfl Tryz.ntmps21 Tryz.results21 Tryz.call21 (by simp) fun P C CQ D W F E hF => ?_
 cbv
 repeat' (first
  |(refine ⟨fun _ h_s=>?_,fun _ h_s=>?_⟩<;>(cbv;(try simp only [nc] at *);try simp (disch:=(first|omega|(simp only [lnS];omega))) only [rdT,rdS,reduceCtorEq,trT] at h_s))
  |(refine hF ?_;intro _;clear hF)
  |(refine hF ?_;cbv;clear hF)
  |(refine ⟨fun _=>?_,?_⟩;(· ((try simp only [nc] at *);first|done|omega|exact ⟨by omega,rfl⟩|(simp (disch:=(first|omega|(simp only [lnS];omega))) only [rdT,rdS];first|done|omega|rfl|exact ⟨by omega,rfl⟩|(simp;done)|(simp;omega))|(intros;trivial)));(try (simp only [nc] at *));(try simp (disch:=(first|omega|(simp only [lnS];omega))) only [rdT,rdS]);(try cbv))
  | fail
 )
 simp
theorem rall_yes (g : Gr) (hg : Rd g) (h : GOk g) : Pure Tryz.prog γ false 6 [aGr g] (.tup [.vs 5 fun _ => rcs (racesV (rvG g)), .i fun _ => 0]) := by
 have kl := rlook_yes (γ := γ) g hg h
 have hw := rvG_wf h
 have hsm : (rvG g).ids.length ≤ 64 := by have := hw.big; have := hw.small; have := hw.sh; omega
 generalize rvG g = v at *
 have ka := vall_ok (γ := γ) v
 unfold aRV at kl ka
 obtain ⟨rg, hrg⟩ : ∃ rg, rg = rcs (racesV v) := ⟨_, rfl⟩
 rw [← hrg]
 refine Pure.goK (ty := ty) ty_eq mo Tryz.func6 rfl Tryz.ntmps6 Tryz.results6 Tryz.call6 (by simp) 6 (by kernel_rfl) fun P C CQ D W C2 CQ2 D2 F RQ E E2 hF hR => ?_
 cbv
 repeat' (first
  |(refine E.c (SCalls.of_le (ka) ?_ ?_);(· (cbv;(try simp only [nc] at *);first|done|(simp;done)|(simp (disch:=(first|omega|(simp only [lnS];omega))) only [rdT,rdS,anT];first|done|omega|(refine ⟨?_,?_⟩<;>omega))|(simp (disch:=(first|omega|(simp only [lnS];omega))) [rdT,rdS];done)));cbv)
  |(refine E.c (SCalls.of_le (kl) ?_ ?_);(· (cbv;(try simp only [nc] at *);first|done|(simp;done)|(simp (disch:=(first|omega|(simp only [lnS];omega))) only [rdT,rdS,anT];first|done|omega|(refine ⟨?_,?_⟩<;>omega))|(simp (disch:=(first|omega|(simp only [lnS];omega))) [rdT,rdS];done)));cbv)
  |(refine ⟨fun _ h_s=>?_,fun _ h_s=>?_⟩<;>(cbv;(try simp only [nc] at *);try simp (disch:=(first|omega|(simp only [lnS];omega))) only [rdT,rdS,reduceCtorEq,trT] at h_s))
  |(refine hF ?_;intro _;clear hF)
  |(refine hF ?_;cbv;clear hF)
  |(refine ⟨fun _=>?_,?_⟩;(· ((try simp only [nc] at *);first|done|omega|exact ⟨by omega,rfl⟩|(simp (disch:=(first|omega|(simp only [lnS];omega))) only [rdT,rdS];first|done|omega|rfl|exact ⟨by omega,rfl⟩|(simp;done)|(simp;omega))|(intros;trivial)));(try (simp only [nc] at *));(try simp (disch:=(first|omega|(simp only [lnS];omega))) only [rdT,rdS]);(try cbv))
  |(refine E.d 19 (by decide +kernel) ?_;cbv;(fail_if_success guard_target =~ False))
  | fail
 )
 obtain ⟨G, hG⟩ : ∃ G : List (Nat × Nat) → Nat, ∀ l, G l = l.length := ⟨_, fun _ => rfl⟩
 have hG0 : G [] = 0 := by rw [hG]; rfl
 have hGS : ∀ l x, G (l ++ [x]) = G l + 1 := fun l x => by rw [hG, hG]; simp
 refine hR ⟨_, _, _, Step.ghostBox 2 5 rfl, rfl, by cbv, fun l D t oR oB oX oE oEX oD oD' hY => ?_⟩
 refine SCalls.mono (h := hpA g v 0 [] l D oR oD _ t) (hG0 ▸ allA_to g v hw hsm l D oR oD _ t ?a G fun pre a b hb hab ho hp => hY _ _ _ rfl rfl ?b) fun _ h' hh' => .inl ?c
 case a => cbv; simp
 case c =>
  have e : racesV v = (rpA v v.ids.length v.ids.length).map (rcOf v) := rfl
  rw [e] at hrg
  generalize rpA v v.ids.length v.ids.length = L at *
  generalize L.map (rcOf v) = M at *
  subst hh'
  cbv
  repeat' (first
   |(refine ⟨fun _ h_s=>?_,fun _ h_s=>?_⟩<;>(cbv;(try simp only [nc] at *);try simp (disch:=(first|omega|(simp only [lnS];omega))) only [rdT,rdS,reduceCtorEq,trT] at h_s))
   |(refine hF ?_;intro _;clear hF)
   |(refine hF ?_;cbv;clear hF)
   |(refine ⟨fun _=>?_,?_⟩;(· ((try simp only [nc] at *);first|done|omega|exact ⟨by omega,rfl⟩|(simp (disch:=(first|omega|(simp only [lnS];omega))) only [rdT,rdS];first|done|omega|rfl|exact ⟨by omega,rfl⟩|(simp;done)|(simp;omega))|(intros;trivial)));(try (simp only [nc] at *));(try simp (disch:=(first|omega|(simp only [lnS];omega))) only [rdT,rdS]);(try cbv))
   |(refine E.d 19 (by decide +kernel) ?_;cbv;(fail_if_success guard_target =~ False))
   | fail
  )
  simp [hrg]
  exact List.take_of_length_le (by simp)
 case b =>
  have e1 := hw.len
  have e3 : pre.map (rcOf v) ++ [rcOf v (a, b)] = (pre ++ [(a, b)]).map (rcOf v) := by simp
  have e4 := hGS pre (a, b)
  have e5 : pre.length = (pre.map (rcOf v)).length := by simp
  have e6 : rcOf v (a, b) = ⟨(rAt v a).loc, v.ids.getD a id0, v.ids.getD b id0⟩ := rfl
  have e7 := hG pre
  rw [← e3, e4]
  rw [e5] at hp e7
  obtain ⟨P2, hP2⟩ : ∃ P2, P2 = pre.map (rcOf v) ++ [rcOf v (a, b)] := ⟨_, rfl⟩
  rw [← hP2]
  generalize pre.map (rcOf v) = Pr at *
  generalize G pre = gp at *
  cbv
  refine E2.d 19 (by decide +kernel) ?_
  cbv
  repeat' (first
   |(refine ⟨fun _ h_s=>?_,fun _ h_s=>?_⟩<;>(cbv;(try simp only [nc] at *);try simp (disch:=(first|omega|(simp only [lnS];omega))) only [rdT,rdS,reduceCtorEq,trT] at h_s))
   |(refine hF ?_;intro _;clear hF)
   |(refine hF ?_;cbv;clear hF)
   |(refine ⟨fun _=>?_,?_⟩;(· ((try simp only [nc] at *);first|done|omega|exact ⟨by omega,rfl⟩|(simp (disch:=(first|omega|(simp only [lnS];omega))) only [rdT,rdS];first|done|omega|rfl|exact ⟨by omega,rfl⟩|(simp;done)|(simp;omega))|(intros;trivial)));(try (simp only [nc] at *));(try simp (disch:=(first|omega|(simp only [lnS];omega))) only [rdT,rdS]);(try cbv))
   |(refine E.d 19 (by decide +kernel) ?_;cbv;(fail_if_success guard_target =~ False))
   | fail
  )
  refine ⟨fun _ => ⟨trivial, trivial, by simp, by simp; omega, by simp; omega, by simp [AV.flat, AV.cells, AV.one, setAll, AV.nrm, nrms, nrm1]⟩, ?_⟩
  simp [hP2, e6, rcs, aRc, setAll, AV.nrm, nrms, nrm1, rAt, ev0, id0]
end Go.AL.Rl

namespace Go.AL.Rl
open Go Go.AL Go.Proofs
set_option maxRecDepth 100000
set_option maxHeartbeats 3200000

section
variable {g : Gr} {l : List EId} (hg : GOk g) (hC : ClG g l)
include hg hC
end
end Go.AL.Rl

namespace Go.AL.Rl
open Go Go.AL Go.Proofs
set_option maxRecDepth 100000
set_option maxHeartbeats 3200000
variable {γ : Nat → Option AV}

theorem rEvent_ok (g : Gr) (hg : Rd g) (h : GOk g) (d : EId) : Pure Tryz.prog γ false 27 [aGr g, aId d] (.tup [aEv ((eventM g d).getD ev0), .b fun _ => (eventM g d).isSome]) := by
 have ke := revent_ok (γ := γ) g hg d
 have kc := check14_ok (γ := γ) g hg
 rw [gcheck0 h] at kc
 cases e : eventM g d with
 | some x =>
  rw [e] at ke
  simp only [Option.getD_some, Option.isSome_some] at ke ⊢
  refine Pure.go (ty := ty) ty_eq mo Tryz.func27 rfl Tryz.ntmps27 Tryz.results27 Tryz.call27 (by simp) fun P C CQ D W F E hF => ?_
  cbv
  repeat' (first
   |(refine E.c (SCalls.of_le (kc) ?_ ?_);(· (cbv;(try simp only [nc] at *);first|done|(simp;done)|(simp (disch:=(first|omega|(simp only [lnS];omega))) only [rdT,rdS,anT];first|done|omega|(refine ⟨?_,?_⟩<;>omega))|(simp (disch:=(first|omega|(simp only [lnS];omega))) [rdT,rdS];done)));cbv)
   |(refine E.c (SCalls.of_le (ke) ?_ ?_);(· (cbv;(try simp only [nc] at *);first|done|(simp;done)|(simp (disch:=(first|omega|(simp only [lnS];omega))) only [rdT,rdS,anT];first|done|omega|(refine ⟨?_,?_⟩<;>omega))|(simp (disch:=(first|omega|(simp only [lnS];omega))) [rdT,rdS];done)));cbv)
   |(refine ⟨fun _ h_s=>?_,fun _ h_s=>?_⟩<;>(cbv;(try simp only [nc] at *);try simp (disch:=(first|omega|(simp only [lnS];omega))) only [rdT,rdS,reduceCtorEq,trT] at h_s))
   |(refine hF ?_;intro _;clear hF)
   |(refine hF ?_;cbv;clear hF)
   |(refine ⟨fun _=>?_,?_⟩;(· ((try simp only [nc] at *);first|done|omega|exact ⟨by omega,rfl⟩|(simp (disch:=(first|omega|(simp only [lnS];omega))) only [rdT,rdS];first|done|omega|rfl|exact ⟨by omega,rfl⟩|(simp;done)|(simp;omega))|(intros;trivial)));(try (simp only [nc] at *));(try simp (disch:=(first|omega|(simp only [lnS];omega))) only [rdT,rdS]);(try cbv))
   | fail
  )
  all_goals first
   | (simp; done)
   | (exfalso; revert h_s; simp; done)
 | none =>
  rw [e] at ke
  simp only [Option.getD_none, Option.isSome_none] at ke ⊢
  refine Pure.go (ty := ty) ty_eq mo Tryz.func27 rfl Tryz.ntmps27 Tryz.results27 Tryz.call27 (by simp) fun P C CQ D W F E hF => ?_
  cbv
  repeat' (first
   |(refine E.c (SCalls.of_le (kc) ?_ ?_);(· (cbv;(try simp only [nc] at *);first|done|(simp;done)|(simp (disch:=(first|omega|(simp only [lnS];omega))) only [rdT,rdS,anT];first|done|omega|(refine ⟨?_,?_⟩<;>omega))|(simp (disch:=(first|omega|(simp only [lnS];omega))) [rdT,rdS];done)));cbv)
   |(refine E.c (SCalls.of_le (ke) ?_ ?_);(· (cbv;(try simp only [nc] at *);first|done|(simp;done)|(simp (disch:=(first|omega|(simp only [lnS];omega))) only [rdT,rdS,anT];first|done|omega|(refine ⟨?_,?_⟩<;>omega))|(simp (disch:=(first|omega|(simp only [lnS];omega))) [rdT,rdS];done)));cbv)
   |(refine ⟨fun _ h_s=>?_,fun _ h_s=>?_⟩<;>(cbv;(try simp only [nc] at *);try simp (disch:=(first|omega|(simp only [lnS];omega))) only [rdT,rdS,reduceCtorEq,trT] at h_s))
   |(refine hF ?_;intro _;clear hF)
   |(refine hF ?_;cbv;clear hF)
   |(refine ⟨fun _=>?_,?_⟩;(· ((try simp only [nc] at *);first|done|omega|exact ⟨by omega,rfl⟩|(simp (disch:=(first|omega|(simp only [lnS];omega))) only [rdT,rdS];first|done|omega|rfl|exact ⟨by omega,rfl⟩|(simp;done)|(simp;omega))|(intros;trivial)));(try (simp only [nc] at *));(try simp (disch:=(first|omega|(simp only [lnS];omega))) only [rdT,rdS]);(try cbv))
   | fail
  )
  all_goals first
   | (simp; done)
   | (exfalso; revert h_s; simp; done)
end Go.AL.Rl

namespace Go.AL.Rl
open Go Go.AL Go.Proofs
set_option maxRecDepth 100000
set_option maxHeartbeats 3200000
variable {γ : Nat → Option AV}

theorem rone_int (v : RV) (hv : RWf v) (a b : Int) (ha : 0 ≤ a ∧ a < v.ids.length) (hb : 0 ≤ b ∧ b < v.ids.length) : Pure Tryz.prog γ false 29 [aRV v, .i fun _ => a, .i fun _ => b] (.b fun _ => oneM v a.toNat b.toNat) := by
 have := rone_ok (γ := γ) v hv a.toNat b.toNat (by omega) (by omega)
 rwa [Int.toNat_of_nonneg ha.1, Int.toNat_of_nonneg hb.1] at this
def btM (v : RV) (a b : EId) : Bool := decide (0 ≤ numI v.ids a) && decide (0 ≤ numI v.ids b) && oneM v (numI v.ids a).toNat (numI v.ids b).toNat
theorem Rc.ext' {a b : Rc} (h1 : a.loc = b.loc) (h2 : a.a = b.a) (h3 : a.b = b.b) : a = b := by cases a; cases b; simp_all
theorem kraces_ok (a b : List Rc) (ha : (a.length : Int) ≤ 9223372036854775807) : Pure Tryz.prog γ false 8 [.vs 5 fun _ => rcs a, .vs 5 fun _ => rcs b] (.b fun _ => decide (a = b)) := by
 refine Pure.go (ty := ty) ty_eq mo Tryz.func8 rfl Tryz.ntmps8 Tryz.results8 Tryz.call8 (by simp) fun P C CQ D W F E hF => ?_
 cbv
 skip
 repeat' (first
  |(refine ⟨fun _ h_s=>?_,fun _ h_s=>?_⟩<;>(cbv;(try simp only [nc] at *);try simp (disch:=(first|omega|(simp only [lnS,rcs_len];omega))) only [rdT,rdS,rcs_len,rcs_at,reduceCtorEq,trT] at h_s))
  |(refine hF ?_;intro _;clear hF)
  |(refine hF ?_;cbv;clear hF)
  |(refine ⟨fun _=>?_,?_⟩;(· ((try simp only [nc] at *);first|done|omega|exact ⟨by omega,rfl⟩|(simp (disch:=(first|omega|(simp only [lnS,rcs_len];omega))) only [rdT,rdS,rcs_len,rcs_at];first|done|omega|rfl|exact ⟨by omega,rfl⟩|(simp;done)|(simp;omega))|(intros;trivial)));(try (simp only [nc] at *));(try simp (disch:=(first|omega|(simp only [lnS,rcs_len];omega))) only [rdT,rdS,rcs_len,rcs_at]);(try cbv))
  |(refine E.d 8 (by decide +kernel) ?_;cbv;(fail_if_success guard_target =~ False))
  | fail
 )
 ·simp
  intro e; subst e; simp_all
 ·refine E.loopS (ι:=Nat) (fun i=>i≤a.length∧(∀ k < i,a.getD k rc0 = b.getD k rc0)) (fun i=>a.length - i) (fun i=>[(5,.i fun _=>((i : Nat) : Int))]) (fun i h=>h) 0 (fun _=>by first|rfl|simp) ⟨Nat.zero_le _,?_⟩ ?_ fun i hi I hI=>?_
  ·intro k hk; omega
  ·cbv; simp
  cbv
  obtain ⟨hi, hp⟩ := hi
  repeat' (first
   |(refine hI (i + 1) ?_ ?_ ?_;rotate_left 1;(· ((try simp only [nc] at *);omega));(cbv;clear hI;(try clear hF);(try simp only [nc] at *);(try simp (disch:=(first|omega|(simp only [lnS,rcs_len];omega))) only [rdT,rdS,rcs_len,rcs_at,anT]));rotate_left 1;(try ((try simp only [nc] at *);omega)))
   |(refine ⟨fun _ h_s=>?_,fun _ h_s=>?_⟩<;>(cbv;(try simp only [nc] at *);try simp (disch:=(first|omega|(simp only [lnS,rcs_len];omega))) only [rdT,rdS,rcs_len,rcs_at,reduceCtorEq,trT] at h_s))
   |(refine hF ?_;intro _;clear hF)
   |(refine hF ?_;cbv;clear hF)
   |(refine ⟨fun _=>?_,?_⟩;(· ((try simp only [nc] at *);first|done|omega|exact ⟨by omega,rfl⟩|(simp (disch:=(first|omega|(simp only [lnS,rcs_len];omega))) only [rdT,rdS,rcs_len,rcs_at];first|done|omega|rfl|exact ⟨by omega,rfl⟩|(simp;done)|(simp;omega))|(intros;trivial)));(try (simp only [nc] at *));(try simp (disch:=(first|omega|(simp only [lnS,rcs_len];omega))) only [rdT,rdS,rcs_len,rcs_at]);(try cbv))
   |(refine E.d 8 (by decide +kernel) ?_;cbv;(fail_if_success guard_target =~ False))
   | fail
  )
  ·refine decide_eq_false fun e => ?_
   subst e
   simp at h_s
  ·refine ⟨by ((try simp only [nc] at *); omega), fun k hk => ?_⟩
   rcases Nat.lt_or_ge k i with h1 | h1
   ·exact hp k h1
   ·obtain rfl : k = i := by omega
    have h2 : (a.getD k rc0).loc = (b.getD k rc0).loc ∧ (a.getD k rc0).a.t = (b.getD k rc0).a.t ∧ (a.getD k rc0).a.i = (b.getD k rc0).a.i ∧ (a.getD k rc0).b.t = (b.getD k rc0).b.t ∧ (a.getD k rc0).b.i = (b.getD k rc0).b.i := by simpa using h_s
    exact Rc.ext' h2.1 (EId.ext' h2.2.1 h2.2.2.1) (EId.ext' h2.2.2.2.1 h2.2.2.2.2)
  ·push_cast; rfl
  ·refine decide_eq_true (List.ext_getElem (by ((try simp only [nc] at *); omega)) fun k h1 h2 => ?_)
   have := hp k (by ((try simp only [nc] at *); omega))
   simpa [h1, h2] using this

def gW (o : Int) : Gr := ⟨[0, 0], [[⟨2, 1, 1, 0, 5⟩, ⟨2, 0, 4, 0, 1⟩], [⟨1, 0, o, 1, 0⟩, ⟨1, 1, 1, 5, 0⟩]], [[⟨0, 0⟩, ⟨0, 0⟩], [⟨1, 1⟩, ⟨1, 0⟩]], [[⟨1, 1⟩], [⟨1, 0⟩]]⟩
theorem example17_ok (o : Int) : Pure Tryz.prog γ false 19 [.i fun _ => o] (aGr (gW o)) := by
 refine Pure.go (ty := ty) ty_eq mo Tryz.func19 rfl Tryz.ntmps19 Tryz.results19 Tryz.call19 (by simp) fun P C CQ D W F E hF => ?_
 cbv
 repeat' (first
  |(refine ⟨fun _ h_s=>?_,fun _ h_s=>?_⟩<;>(cbv;(try simp only [nc] at *);try simp (disch:=(first|omega|(simp only [lnS,rcs_len];omega))) only [rdT,rdS,rcs_len,rcs_at,reduceCtorEq,trT] at h_s))
  |(refine hF ?_;intro _;clear hF)
  |(refine hF ?_;cbv;clear hF)
  |(refine ⟨fun _=>?_,?_⟩;(· ((try simp only [nc] at *);first|done|omega|exact ⟨by omega,rfl⟩|(simp (disch:=(first|omega|(simp only [lnS,rcs_len];omega))) only [rdT,rdS,rcs_len,rcs_at];first|done|omega|rfl|exact ⟨by omega,rfl⟩|(simp;done)|(simp;omega))|(intros;trivial)));(try (simp only [nc] at *));(try simp (disch:=(first|omega|(simp only [lnS,rcs_len];omega))) only [rdT,rdS,rcs_len,rcs_at]);(try cbv))
  | fail
 )
theorem rdW (o : Int) : Rd (gW o) := by
 refine ⟨by simp [gW], by simp [gW], by simp [gW], by simp [gW], ?_, ?_, ?_⟩ <;> simp [gW]
theorem gW3 : GOk (gW 3) := by decide +kernel
theorem gW2 : GOk (gW 2) := by decide +kernel
def vW (o : Int) : Vw := ⟨[⟨0, 0⟩, ⟨0, 1⟩, ⟨1, 0⟩, ⟨1, 1⟩, ⟨2, 0⟩, ⟨2, 1⟩], [⟨2, 0, 1, 0, 0⟩, ⟨2, 1, 1, 0, 0⟩, ⟨2, 1, 1, 0, 5⟩, ⟨2, 0, 4, 0, 1⟩, ⟨1, 0, o, 1, 0⟩, ⟨1, 1, 1, 5, 0⟩], [-1, -1, -1, -1, 3, 2], [0, 0, 1, 1, -1, -1]⟩
theorem gW3v : viewG (gW 3) = vW 3 := by
 unfold viewG vW
 simp only [Vw.mk.injEq]
 decide +kernel
theorem gW2v : viewG (gW 2) = vW 2 := by
 unfold viewG vW
 simp only [Vw.mk.injEq]
 decide +kernel
theorem nGW (o : Int) : nG (gW o) = 6 := rfl
theorem races3 : racesV (rvG (gW 3)) = [] := by
 unfold rvG
 rw [gW3v, nGW]
 unfold hbF
 rw [swC_eq (by omega) (by decide +kernel)]
 decide +kernel
theorem races2 : racesV (rvG (gW 2)) = [⟨1, ⟨1, 0⟩, ⟨2, 1⟩⟩] := by
 unfold rvG
 rw [gW2v, nGW]
 unfold hbF
 rw [swC_eq (by omega) (by decide +kernel)]
 decide +kernel
theorem lives17_ok : Pure Tryz.prog γ false 4 [] (.b fun _ => true) := by
 have k1 := example17_ok (γ := γ) 3
 have k2 := example17_ok (γ := γ) 2
 have k3 := rall_yes (γ := γ) (gW 3) (rdW 3) gW3
 have k4 := rall_yes (γ := γ) (gW 2) (rdW 2) gW2
 have k5 := kraces_ok (γ := γ) [⟨1, ⟨1, 0⟩, ⟨2, 1⟩⟩] [⟨1, ⟨1, 0⟩, ⟨2, 1⟩⟩] (by simp)
 rw [races3] at k3
 rw [races2] at k4
 generalize gW 3 = g3 at *
 generalize gW 2 = g2 at *
 refine Pure.go (ty := ty) ty_eq mo Tryz.func4 rfl Tryz.ntmps4 Tryz.results4 Tryz.call4 (by simp) fun P C CQ D W F E hF => ?_
 cbv
 skip
 repeat' (first
  | (refine E.c (SCalls.of_le k5 (by cbv; simp [rcs, setAll, AV.nrm, nrms, nrm1]) ?_); cbv)
  |(refine E.c (SCalls.of_le (k4) ?_ ?_);(· (cbv;(try simp only [nc] at *);first|done|(simp;done)|(simp (disch:=(first|omega|(simp only [lnS,rcs_len,rcs_len];omega))) only [rdT,rdS,rcs_len,rcs_at,rcs_len,anT];first|done|omega|(refine ⟨?_,?_⟩<;>omega))|(simp (disch:=(first|omega|(simp only [lnS,rcs_len,rcs_len];omega))) [rdT,rdS,rcs_len,rcs_at,rcs_len];done)));cbv)
  |(refine E.c (SCalls.of_le (k3) ?_ ?_);(· (cbv;(try simp only [nc] at *);first|done|(simp;done)|(simp (disch:=(first|omega|(simp only [lnS,rcs_len,rcs_len];omega))) only [rdT,rdS,rcs_len,rcs_at,rcs_len,anT];first|done|omega|(refine ⟨?_,?_⟩<;>omega))|(simp (disch:=(first|omega|(simp only [lnS,rcs_len,rcs_len];omega))) [rdT,rdS,rcs_len,rcs_at,rcs_len];done)));cbv)
  |(refine E.c (SCalls.of_le (k2) ?_ ?_);(· (cbv;(try simp only [nc] at *);first|done|(simp;done)|(simp (disch:=(first|omega|(simp only [lnS,rcs_len,rcs_len];omega))) only [rdT,rdS,rcs_len,rcs_at,rcs_len,anT];first|done|omega|(refine ⟨?_,?_⟩<;>omega))|(simp (disch:=(first|omega|(simp only [lnS,rcs_len,rcs_len];omega))) [rdT,rdS,rcs_len,rcs_at,rcs_len];done)));cbv)
  |(refine E.c (SCalls.of_le (k1) ?_ ?_);(· (cbv;(try simp only [nc] at *);first|done|(simp;done)|(simp (disch:=(first|omega|(simp only [lnS,rcs_len,rcs_len];omega))) only [rdT,rdS,rcs_len,rcs_at,rcs_len,anT];first|done|omega|(refine ⟨?_,?_⟩<;>omega))|(simp (disch:=(first|omega|(simp only [lnS,rcs_len,rcs_len];omega))) [rdT,rdS,rcs_len,rcs_at,rcs_len];done)));cbv)
  |(refine ⟨fun _ h_s=>?_,fun _ h_s=>?_⟩<;>(cbv;(try simp only [nc] at *);try simp (disch:=(first|omega|(simp only [lnS,rcs_len,rcs_len];omega))) only [rdT,rdS,rcs_len,rcs_at,rcs_len,reduceCtorEq,trT] at h_s))
  |(refine hF ?_;intro _;clear hF)
  |(refine hF ?_;cbv;clear hF)
  |(refine ⟨fun _=>?_,?_⟩;(· ((try simp only [nc] at *);first|done|omega|exact ⟨by omega,rfl⟩|(simp (disch:=(first|omega|(simp only [lnS,rcs_len,rcs_len];omega))) only [rdT,rdS,rcs_len,rcs_at,rcs_len];first|done|omega|rfl|exact ⟨by omega,rfl⟩|(simp;done)|(simp;omega))|(intros;trivial)));(try (simp only [nc] at *));(try simp (disch:=(first|omega|(simp only [lnS,rcs_len,rcs_len];omega))) only [rdT,rdS,rcs_len,rcs_at,rcs_len]);(try cbv))
  | fail
 )
 all_goals (try simp only [nc] at *)
 all_goals (try simp (disch:=(first|omega|(simp only [lnS,rcs_len,rcs_len];omega))) only [rdT,rdS,rcs_len,rcs_at,rcs_len])
 all_goals simp_all
end Go.AL.Rl

namespace Go.AL.Rl
open Go Go.AL Go.Proofs
set_option maxRecDepth 100000
set_option maxHeartbeats 3200000
variable {γ : Nat → Option AV}

end Go.AL.Rl

namespace Go.AL.Rl
open Go Go.AL Go.Proofs
set_option maxRecDepth 100000
set_option maxHeartbeats 3200000
variable {γ : Nat → Option AV}

/-- an event behind a thread's others, from where it reads -/
def addS (g : Gr) (t : Nat) (e : Ev) (d : EId) : Gr := ⟨g.init, g.th.set t (g.th.getD t [] ++ [e]), g.fr.set t (g.fr.getD t [] ++ [d]), g.ord⟩
/-- where it stands among the writes -/
def addO (g : Gr) (t : Nat) (e : Ev) (p : Int) : List EId := (g.ord.getD e.loc.toNat []).take (p - 1).toNat ++ [⟨(t : Int) + 1, ((g.th.getD t []).length : Int)⟩] ++ (g.ord.getD e.loc.toNat []).drop (p - 1).toNat
def addG (g : Gr) (t : Nat) (e : Ev) (d : EId) (p : Int) : Gr := ⟨g.init, (addS g t e d).th, (addS g t e d).fr, if writesM e = true then g.ord.set e.loc.toNat (addO g t e p) else g.ord⟩
def addC (g : Gr) (t : Nat) (e : Ev) (d : EId) (p : Int) : Prop := fineM g.init.length e = true ∧ (if writesM e = true then 1 ≤ p ∧ p ≤ ((g.ord.getD e.loc.toNat []).length : Nat) + 1 else p = 0) ∧ GOk (addG g t e d p)
instance (g : Gr) (t : Nat) (e : Ev) (d : EId) (p : Int) : Decidable (addC g t e d p) := inferInstanceAs (Decidable (_ ∧ _))
theorem rdb_ok {g : Gr} (h : GOk g) : RdB g := by
 have hs := h.short
 have h1 := hs.th
 have h2 := hs.init
 have h3 := h.lfr
 have h4 := h.lord
 have e2 : ∀ l ∈ g.fr, l.length ≤ 14 := fun l hl => by
  obtain ⟨t, ht, rfl⟩ := List.getElem_of_mem hl
  have := (h.events t (by omega)).1
  have h5 := hs.at t
  rw [show g.fr.getD t [] = g.fr[t] by simp [ht]] at this
  omega
 have e3 : ∀ l ∈ g.ord, l.length ≤ 56 := fun l hl => by
  obtain ⟨x, hx, rfl⟩ := List.getElem_of_mem hl
  have := h.orders x (by omega)
  unfold orderedM at this
  have hc : cntT x g.th ≤ 56 := by have := cntT_take hs x g.th.length; rw [List.take_length] at this; omega
  rw [show g.ord.getD x [] = g.ord[x] by simp [hx]] at this
  simp only [Bool.and_eq_true, decide_eq_true_eq] at this
  omega
 exact ⟨by omega, by omega, by omega, by omega, fun l hl => by have := hs.ths l hl; omega, fun l hl => by have := e2 l hl; omega, fun l hl => by have := e3 l hl; omega⟩
theorem rd_short {g : Gr} (h : GOk g) : Rd g := by
 have hb := rdb_ok h
 exact ⟨by have := hb.init; omega, by have := hb.th; omega, by have := hb.fr; omega, by have := hb.ord; omega, fun l hl => by have := hb.ths l hl; omega, fun l hl => by have := hb.frs l hl; omega, fun l hl => by have := hb.ords l hl; omega⟩
end Go.AL.Rl

namespace Go.AL.Rl
open Go Go.AL Go.Proofs
set_option maxRecDepth 100000
set_option maxHeartbeats 3200000
variable {γ : Nat → Option AV}

end Go.AL.Rl

namespace Go.AL.Rl
open Go Go.AL Go.Proofs
set_option maxRecDepth 100000
set_option maxHeartbeats 1600000

structure Tail (V U : Vw) (n m : Nat) (f : Nat → Nat) (N : Nat) : Prop where
 cov : ∀ a < m, (∃ i < n, a = f i) ∨ a = N
 nim : ∀ i < n, f i ≠ N
 po : ∀ b < m, poM U N b = false
 rf : ∀ b < m, U.fr.getD b 0 ≠ (N : Nat)
 frn : ∀ i < n, V.fr.getD i 0 < 0 → U.fr.getD (f i) 0 < 0
 pln : ∀ i < n, 0 ≤ U.pl.getD (f i) 0 → 0 ≤ V.pl.getD i 0
 plu : ∀ i < n, ∀ j < n, nearM V i j = true → 0 ≤ V.pl.getD i 0 → V.pl.getD i 0 = V.pl.getD j 0 → i = j
 plh : ∀ i < n, ∀ j < n, nearM V i j = true → 0 ≤ V.pl.getD i 0 → 0 ≤ U.pl.getD (f j) 0 → 0 ≤ V.pl.getD j 0
section
variable {V U : Vw} {n m : Nat} {f : Nat → Nat} {N : Nat} (E : Emb V U n m f) (Y : Tail V U n m f N) (hV : Wf V n) (hU : Wf U m)
include E Y
include hV
include hU
end
end Go.AL.Rl

namespace Go.AL.Rl
open Go Go.AL Go.Proofs
set_option maxRecDepth 100000
set_option maxHeartbeats 1600000

theorem gD' {α : Type} {l : List α} {i : Nat} {d : α} (h : i < l.length) : l.getD i d = l[i] := by simp [h]
section
variable {g : Gr} {t : Nat} {e : Ev} {d : EId} {p : Int} (hg : GOk g) (ht : t < g.th.length) (hh : GOk (addG g t e d p))
include ht
include hg
include hh
end
end Go.AL.Rl

namespace Go.AL.Rl
open Go Go.AL Go.Proofs
set_option maxRecDepth 100000
set_option maxHeartbeats 3200000
variable {γ : Nat → Option AV}

end Go.AL.Rl

namespace Go.AL.Rl
open Go Go.AL Go.Proofs
set_option maxRecDepth 100000
set_option maxHeartbeats 3200000
variable {γ : Nat → Option AV}

theorem hasM_bit {n : Nat} {rows : List (BitVec 64)} (hf : Fits n rows) {x y : Nat} (hx : x < n) (hy : y < n) : hasM (n : Nat) rows (x : Nat) (y : Nat) = bit rows x y := by
 unfold hasM
 rw [decide_eq_true ⟨hf, by omega, by omega, by omega, by omega⟩, Bool.true_and, Int.toNat_natCast, Int.toNat_natCast]
section
variable {g : Gr} {t : Nat} {e : Ev} {d : EId} {p : Int} (hg : GOk g) (ht : t < g.th.length) (hh : GOk (addG g t e d p)) {x y : Nat} (hx : x < nG g) (hy : y < nG g)
include hg ht hh hx hy
end
end Go.AL.Rl

namespace Go.AL.Rl
open Go Go.AL Go.Proofs
set_option maxRecDepth 100000
set_option maxHeartbeats 3200000

theorem rpB_mem {v : RV} {a : Nat} {p : Nat × Nat} : ∀ b, p ∈ rpB v a b → p.1 = a ∧ a < p.2 ∧ p.2 < b ∧ oneM v a p.2 = true
 | 0, h => by simp [rpB] at h
 | b + 1, h => by
  rw [rpB, List.mem_append] at h
  rcases h with h | h
  ·obtain ⟨h1, h2, h3, h4⟩ := rpB_mem b h
   exact ⟨h1, h2, by omega, h4⟩
  ·split at h
   ·rename_i hc
    have : p = (a, b) := by simpa using h
    subst this
    exact ⟨rfl, hc.1, Nat.lt_succ_self _, hc.2⟩
   ·simp at h
theorem rpA_mem {v : RV} {m : Nat} {p : Nat × Nat} : ∀ a, p ∈ rpA v m a → p.1 < p.2 ∧ p.2 < m ∧ oneM v p.1 p.2 = true
 | 0, h => by simp [rpA] at h
 | a + 1, h => by
  rw [rpA, List.mem_append] at h
  rcases h with h | h
  ·exact rpA_mem a h
  ·obtain ⟨h1, h2, h3, h4⟩ := rpB_mem m h
   rw [h1]; exact ⟨h2, h3, h4⟩
theorem oneM_iff {v : RV} {a b : Nat} : oneM v a b = true ↔ (v.ids.getD a id0).t ≠ (v.ids.getD b id0).t ∧ (rAt v a).kind ≠ 4 ∧ (rAt v b).kind ≠ 4 ∧ (rAt v a).loc = (rAt v b).loc ∧ (rWr (rAt v a) = true ∨ rWr (rAt v b) = true) ∧ (rPl (rAt v a) = true ∨ rPl (rAt v b) = true) ∧ rAhead v a b = false ∧ rAhead v b a = false := by
 unfold oneM
 simp only [Bool.and_eq_true, Bool.not_eq_true', Bool.or_eq_false_iff, Bool.or_eq_true, decide_eq_false_iff_not, ne_eq, Classical.not_not, and_assoc]
theorem idsG_getT {g : Gr} {k : Nat} : (idsG g).getD (g.init.length + k) id0 = (idsT g g.th.length).getD k id0 := by
 unfold idsG
 rw [List.getD_eq_getElem?_getD, List.getElem?_append_right (by rw [idsI_len]; omega), idsI_len, Nat.add_sub_cancel_left, ← List.getD_eq_getElem?_getD]
section
variable {g : Gr} {t : Nat} {e : Ev} {d : EId} {p : Int} (hg : GOk g) (ht : t < g.th.length) (hh : GOk (addG g t e d p))
include hg ht hh
end
end Go.AL.Rl

namespace Go.AL.Rl
open Go Go.AL Go.Proofs
set_option maxRecDepth 100000
set_option maxHeartbeats 3200000
variable {γ : Nat → Option AV}

theorem rvO_wf (g : Gr) : RWf (rvO g) := by
 unfold rvO
 split
 ·rename_i h; exact rvG_wf h
 ·exact ⟨rfl, Int.le_refl _, by simp [rv0], by simp [rv0]⟩
def hpH (g : Gr) (v : RV) (x : AV) (l D : Nat) (oR oD : Obj) (s : Tr) (t : Array Value) : List Blk :=
 [.box (aGr g), .box x, .box (aRV v), .obj D oD .nil #[], .obj l oR s t]
theorem rpB_nil {v : RV} {a : Nat} : ∀ b, (∀ b' < b, a < b' → oneM v a b' = false) → rpB v a b = []
 | 0, _ => rfl
 | b + 1, h => by
  rw [rpB, rpB_nil b fun b' hb' => h b' (by omega), if_neg]
  ·rfl
  ·rintro ⟨h1, h2⟩
   rw [h b (by omega) h1] at h2; cases h2
theorem rpA_nil {v : RV} {m : Nat} : ∀ a, (∀ a' < a, ∀ b < m, a' < b → oneM v a' b = false) → rpA v m a = []
 | 0, _ => rfl
 | a + 1, h => by
  rw [rpA, rpA_nil a fun a' ha' => h a' (by omega), rpB_nil m (h a (by omega))]; rfl
theorem rpB_has {v : RV} {a b' : Nat} (h1 : a < b') (h2 : oneM v a b' = true) : ∀ b, b' < b → (a, b') ∈ rpB v a b
 | 0, h => absurd h (by omega)
 | b + 1, h => by
  rw [rpB, List.mem_append]
  rcases Nat.lt_or_ge b' b with h3 | h3
  ·exact .inl (rpB_has h1 h2 b h3)
  ·have e : b' = b := by omega
   subst e
   rw [if_pos ⟨h1, h2⟩]; exact .inr (by simp)
theorem rpA_has {v : RV} {m a' b' : Nat} (h1 : a' < b') (hb : b' < m) (h2 : oneM v a' b' = true) : ∀ a, a' < a → (a', b') ∈ rpA v m a
 | 0, h => absurd h (by omega)
 | a + 1, h => by
  rw [rpA, List.mem_append]
  rcases Nat.lt_or_ge a' a with h3 | h3
  ·exact .inl (rpA_has h1 hb h2 a h3)
  ·have e : a' = a := by omega
   subst e
   exact .inr (rpB_has h1 h2 m hb)
theorem races_nil_iff {v : RV} : racesV v = [] ↔ ∀ a < v.ids.length, ∀ b < v.ids.length, a < b → oneM v a b = false := by
 unfold racesV
 rw [List.map_eq_nil_iff]
 constructor
 ·intro h a ha b hb hab
  refine Bool.eq_false_iff.2 fun ho => ?_
  have := rpA_has hab hb ho v.ids.length ha
  rw [h] at this; cases this
 ·exact fun h => rpA_nil _ h
theorem allS_ok (g : Gr) (v : RV) (hv : RWf v) (l D : Nat) (oR oX oD : Obj) (s : Tr) (t : Array Value) (hT : leT 5 s s)
  (hy : ∀ (a b : Nat), b < v.ids.length → a < b → oneM v a b = true → YCall Tryz.prog γ l [.i fun _ => (a : Int), .i fun _ => (b : Int)] (hpH g v .ff l D oR oD s t) (fun x h => x = .ff ∧ h = hpH g v .tt l D oX oD s t)) (R : List Blk)
  (hR0 : racesV v = [] → R = hpH g v .ff l D oR oD s t) (hR1 : racesV v ≠ [] → R = hpH g v .tt l D oX oD s t) :
  SCalls Tryz.prog γ 34 [.raw (.func (.yield l) #[] #[]), .vp (fun _ => aRV v) 0] (hpH g v .ff l D oR oD s t) (fun x h => x = .tup [] ∧ h = R) := by
 have h1 := hv.len
 have hsm : v.ids.length ≤ 64 := by have := hv.big; have := hv.small; have := hv.sh; omega
 have k1 := fun (a b : Nat) (ha : a < v.ids.length) (hb : b < v.ids.length) => rone_ok (γ := γ) v hv a b ha hb
 have hnil := races_nil_iff (v := v)
 have hT2 := hT
 cbv at hT2
 obtain ⟨N, hN⟩ : ∃ N, N = v.ids.length := ⟨_, rfl⟩
 rw [← hN] at hsm hy k1 hnil
 unfold aRV hpH at *
 generalize hI : v.ids = I at *
 generalize v.evs = Es at *
 generalize v.rows = Rw at *
 generalize v.sh = Sh at *
 generalize v.n = Vn at *
 refine SCalls.go (ty := ty) ty_eq mo Tryz.func34 rfl Tryz.ntmps34 Tryz.results34 Tryz.call34 (by simp) fun P C CQ D W F E hF => ?_
 cbv
 skip
 repeat' (first
  |(refine ⟨fun _ h_s=>?_,fun _ h_s=>?_⟩<;>(cbv;(try simp only [nc] at *);try simp (disch:=(first|omega|(simp only [lnS];omega))) only [rdT,rdS,hT2,reduceCtorEq,trT] at h_s))
  |(refine hF ?_;intro _;clear hF)
  |(refine hF ?_;cbv;clear hF)
  |(refine ⟨fun _=>?_,?_⟩;(· ((try simp only [nc] at *);first|done|omega|exact ⟨by omega,rfl⟩|(simp (disch:=(first|omega|(simp only [lnS];omega))) only [rdT,rdS,hT2];first|done|omega|rfl|exact ⟨by omega,rfl⟩|(simp;done)|(simp;omega))|(intros;trivial)));(try (simp only [nc] at *));(try simp (disch:=(first|omega|(simp only [lnS];omega))) only [rdT,rdS,hT2]);(try cbv))
  | fail
 )
 refine E.loopS (ι:=Nat) (fun a=>a≤N∧∀ a' < a,∀ b < N,a' < b → oneM v a' b = false) (fun a=>N - a) (fun a=>[(8,.i fun _=>((a : Nat) : Int))]) (fun a h=>h) 0 (fun _=>by first|rfl|simp) ?_ ?_ fun a ha I1 hI1=>?_
 ·exact ⟨Nat.zero_le _, fun a' h => absurd h (by omega)⟩
 ·cbv; simp [hT2]
 cbv
 obtain ⟨ha, hpa⟩ := ha
 repeat' (first
  |(refine ⟨fun _ h_s=>?_,fun _ h_s=>?_⟩<;>(cbv;(try simp only [nc] at *);try simp (disch:=(first|omega|(simp only [lnS];omega))) only [rdT,rdS,hT2,reduceCtorEq,trT] at h_s))
  |(refine hF ?_;intro _;clear hF)
  |(refine hF ?_;cbv;clear hF)
  |(refine ⟨fun _=>?_,?_⟩;(· ((try simp only [nc] at *);first|done|omega|exact ⟨by omega,rfl⟩|(simp (disch:=(first|omega|(simp only [lnS];omega))) only [rdT,rdS,hT2];first|done|omega|rfl|exact ⟨by omega,rfl⟩|(simp;done)|(simp;omega))|(intros;trivial)));(try (simp only [nc] at *));(try simp (disch:=(first|omega|(simp only [lnS];omega))) only [rdT,rdS,hT2]);(try cbv))
  | fail
 )
 ·refine E.loopS (ι:=Nat) (fun b=>(a + 1≤b∧b≤N)∧∀ b' < b,a < b' → oneM v a b' = false) (fun b=>N - b) (fun b=>[(4,.i fun _=>((b : Nat) : Int))]) (fun b h=>h) (a + 1) (fun _=>by first|rfl|simp) ?_ ?_ fun b hb I2 hI2=>?_
  ·exact ⟨by ((try simp only [nc] at *); omega), fun b' h1 h2 => absurd h1 (by omega)⟩
  ·cbv; simp [hT2]; exact w64_of (by omega) (by omega)
  cbv
  obtain ⟨hb, hpb⟩ := hb
  repeat' (first
   |(refine hI1 (a + 1) ?_ ?_ ?_;rotate_left 1;(· ((try simp only [nc] at *);omega));(cbv;clear hI1;(try clear hF);(try simp only [nc] at *);(try simp (disch:=(first|omega|(simp only [lnS];omega))) only [rdT,rdS,hT2,anT]));rotate_left 1;(try ((try simp only [nc] at *);omega)))
   |(refine hI2 (b + 1) ?_ ?_ ?_;rotate_left 1;(· ((try simp only [nc] at *);omega));(cbv;clear hI2;(try clear hF);(try simp only [nc] at *);(try simp (disch:=(first|omega|(simp only [lnS];omega))) only [rdT,rdS,hT2,anT]));rotate_left 1;(try ((try simp only [nc] at *);omega)))
   | (refine E.y (YCall.to (hy a b (by ((try simp only [nc] at *); omega)) (by ((try simp only [nc] at *); omega)) (by assumption)) (by cbv) (by cbv; simp) (by cbv; simp [hT2]) ?_); cbv)
   |(refine E.c (SCalls.of_le (k1 a b (by ((try simp only [nc] at *);omega)) (by ((try simp only [nc] at *);omega))) ?_ ?_);(· (cbv;(try simp only [nc] at *);first|done|(simp;done)|(simp (disch:=(first|omega|(simp only [lnS];omega))) only [rdT,rdS,hT2,anT];first|done|omega|(refine ⟨?_,?_⟩<;>omega))|(simp (disch:=(first|omega|(simp only [lnS];omega))) [rdT,rdS,hT2];done)));cbv)
   |(refine ⟨fun _ h_s=>?_,fun _ h_s=>?_⟩<;>(cbv;(try simp only [nc] at *);try simp (disch:=(first|omega|(simp only [lnS];omega))) only [rdT,rdS,hT2,reduceCtorEq,trT] at h_s))
   |(refine hF ?_;intro _;clear hF)
   |(refine hF ?_;cbv;clear hF)
   |(refine ⟨fun _=>?_,?_⟩;(· ((try simp only [nc] at *);first|done|omega|exact ⟨by omega,rfl⟩|(simp (disch:=(first|omega|(simp only [lnS];omega))) only [rdT,rdS,hT2];first|done|omega|rfl|exact ⟨by omega,rfl⟩|(simp;done)|(simp;omega))|(intros;trivial)));(try (simp only [nc] at *));(try simp (disch:=(first|omega|(simp only [lnS];omega))) only [rdT,rdS,hT2]);(try cbv))
   | fail
  )
  ·have ho : oneM v a b = true := by assumption
   refine ⟨rfl, (hR1 fun h => ?_).symm⟩
   rw [hnil.1 h a (by ((try simp only [nc] at *); omega)) b (by ((try simp only [nc] at *); omega)) (by ((try simp only [nc] at *); omega))] at ho
   cases ho
  ·have ho : oneM v a b = false := by assumption
   refine ⟨by ((try simp only [nc] at *); omega), fun b' h1 h2 => ?_⟩
   rcases Nat.lt_or_ge b' b with h3 | h3
   ·exact hpb b' h3 h2
   ·have e : b' = b := by omega
    rw [e]; exact ho
  ·push_cast; rfl
  ·refine ⟨by ((try simp only [nc] at *); omega), fun a' h1 b2 h2 h3 => ?_⟩
   rcases Nat.lt_or_ge a' a with h4 | h4
   ·exact hpa a' h4 b2 h2 h3
   ·have e : a' = a := by omega
    subst e
    exact hpb b2 (by ((try simp only [nc] at *); omega)) h3
  ·push_cast; rfl
 ·exact ⟨rfl, (hR0 (hnil.2 fun a' ha' b hb hab => hpa a' (by ((try simp only [nc] at *); omega)) b hb hab)).symm⟩

theorem rhas_race_ok (g : Gr) (hg : Rd g) : Pure Tryz.prog γ false 9 [aGr g] (.b fun _ => decide (racesV (rvO g) ≠ [])) := by
 have kl := rlook_ok (γ := γ) g hg
 have hw := rvO_wf g
 generalize rvO g = v at *
 have ka := vall_ok (γ := γ) v
 unfold aRV at kl ka
 by_cases hr : racesV v = []
 ·rw [decide_eq_false (fun h => h hr)]
  refine Pure.goK (ty := ty) ty_eq mo Tryz.func9 rfl Tryz.ntmps9 Tryz.results9 Tryz.call9 (by simp) 3 (by kernel_rfl) fun P C CQ D W C2 CQ2 D2 F RQ E E2 hF hR => ?_
  cbv
  repeat' (first
   |(refine E.c (SCalls.of_le (ka) ?_ ?_);(· (cbv;(try simp only [nc] at *);first|done|(simp;done)|(simp (disch:=(first|omega|(simp only [lnS];omega))) only [rdT,rdS,hT2,anT];first|done|omega|(refine ⟨?_,?_⟩<;>omega))|(simp (disch:=(first|omega|(simp only [lnS];omega))) [rdT,rdS,hT2];done)));cbv)
   |(refine E.c (SCalls.of_le (kl) ?_ ?_);(· (cbv;(try simp only [nc] at *);first|done|(simp;done)|(simp (disch:=(first|omega|(simp only [lnS];omega))) only [rdT,rdS,hT2,anT];first|done|omega|(refine ⟨?_,?_⟩<;>omega))|(simp (disch:=(first|omega|(simp only [lnS];omega))) [rdT,rdS,hT2];done)));cbv)
   |(refine ⟨fun _ h_s=>?_,fun _ h_s=>?_⟩<;>(cbv;(try simp only [nc] at *);try simp (disch:=(first|omega|(simp only [lnS];omega))) only [rdT,rdS,hT2,reduceCtorEq,trT] at h_s))
   |(refine hF ?_;intro _;clear hF)
   |(refine hF ?_;cbv;clear hF)
   |(refine ⟨fun _=>?_,?_⟩;(· ((try simp only [nc] at *);first|done|omega|exact ⟨by omega,rfl⟩|(simp (disch:=(first|omega|(simp only [lnS];omega))) only [rdT,rdS,hT2];first|done|omega|rfl|exact ⟨by omega,rfl⟩|(simp;done)|(simp;omega))|(intros;trivial)));(try (simp only [nc] at *));(try simp (disch:=(first|omega|(simp only [lnS];omega))) only [rdT,rdS,hT2]);(try cbv))
   | fail
  )
  refine hR ⟨_, _, _, Step.refl, rfl, by cbv, fun l D t oR oB oX oE oEX oD oD' hY => ?_⟩
  refine SCalls.mono (h := hpH g v .ff l D oR oD _ t) (allS_ok g v hw l D oR oX oD _ t ?a (fun a b hb hab ho => hY _ _ _ rfl rfl ?b) _ (fun _ => rfl) (fun h => absurd hr h)) fun _ h' hh' => .inl ?c
  case a => cbv; simp
  case c =>
   obtain ⟨_, hh'⟩ := hh'
   subst hh'
   cbv
   repeat' (first
    |(refine ⟨fun _ h_s=>?_,fun _ h_s=>?_⟩<;>(cbv;(try simp only [nc] at *);try simp (disch:=(first|omega|(simp only [lnS];omega))) only [rdT,rdS,hT2,reduceCtorEq,trT] at h_s))
    |(refine hF ?_;intro _;clear hF)
    |(refine hF ?_;cbv;clear hF)
    |(refine ⟨fun _=>?_,?_⟩;(· ((try simp only [nc] at *);first|done|omega|exact ⟨by omega,rfl⟩|(simp (disch:=(first|omega|(simp only [lnS];omega))) only [rdT,rdS,hT2];first|done|omega|rfl|exact ⟨by omega,rfl⟩|(simp;done)|(simp;omega))|(intros;trivial)));(try (simp only [nc] at *));(try simp (disch:=(first|omega|(simp only [lnS];omega))) only [rdT,rdS,hT2]);(try cbv))
    | fail
   )
   rfl
  case b => cbv
 ·rw [decide_eq_true hr]
  refine Pure.goK (ty := ty) ty_eq mo Tryz.func9 rfl Tryz.ntmps9 Tryz.results9 Tryz.call9 (by simp) 3 (by kernel_rfl) fun P C CQ D W C2 CQ2 D2 F RQ E E2 hF hR => ?_
  cbv
  repeat' (first
   |(refine E.c (SCalls.of_le (ka) ?_ ?_);(· (cbv;(try simp only [nc] at *);first|done|(simp;done)|(simp (disch:=(first|omega|(simp only [lnS];omega))) only [rdT,rdS,hT2,anT];first|done|omega|(refine ⟨?_,?_⟩<;>omega))|(simp (disch:=(first|omega|(simp only [lnS];omega))) [rdT,rdS,hT2];done)));cbv)
   |(refine E.c (SCalls.of_le (kl) ?_ ?_);(· (cbv;(try simp only [nc] at *);first|done|(simp;done)|(simp (disch:=(first|omega|(simp only [lnS];omega))) only [rdT,rdS,hT2,anT];first|done|omega|(refine ⟨?_,?_⟩<;>omega))|(simp (disch:=(first|omega|(simp only [lnS];omega))) [rdT,rdS,hT2];done)));cbv)
   |(refine ⟨fun _ h_s=>?_,fun _ h_s=>?_⟩<;>(cbv;(try simp only [nc] at *);try simp (disch:=(first|omega|(simp only [lnS];omega))) only [rdT,rdS,hT2,reduceCtorEq,trT] at h_s))
   |(refine hF ?_;intro _;clear hF)
   |(refine hF ?_;cbv;clear hF)
   |(refine ⟨fun _=>?_,?_⟩;(· ((try simp only [nc] at *);first|done|omega|exact ⟨by omega,rfl⟩|(simp (disch:=(first|omega|(simp only [lnS];omega))) only [rdT,rdS,hT2];first|done|omega|rfl|exact ⟨by omega,rfl⟩|(simp;done)|(simp;omega))|(intros;trivial)));(try (simp only [nc] at *));(try simp (disch:=(first|omega|(simp only [lnS];omega))) only [rdT,rdS,hT2]);(try cbv))
   | fail
  )
  refine hR ⟨_, _, _, Step.refl, rfl, by cbv, fun l D t oR oB oX oE oEX oD oD' hY => ?_⟩
  refine SCalls.mono (h := hpH g v .ff l D oR oD _ t) (allS_ok g v hw l D oR oX oD _ t ?a (fun a b hb hab ho => hY _ _ _ rfl rfl ?b) _ (fun h => absurd h hr) (fun _ => rfl)) fun _ h' hh' => .inr ?c
  case a => cbv; simp
  case c =>
   obtain ⟨_, hh'⟩ := hh'
   subst hh'
   cbv
   repeat' (first
    |(refine ⟨fun _ h_s=>?_,fun _ h_s=>?_⟩<;>(cbv;(try simp only [nc] at *);try simp (disch:=(first|omega|(simp only [lnS];omega))) only [rdT,rdS,hT2,reduceCtorEq,trT] at h_s))
    |(refine hF ?_;intro _;clear hF)
    |(refine hF ?_;cbv;clear hF)
    |(refine ⟨fun _=>?_,?_⟩;(· ((try simp only [nc] at *);first|done|omega|exact ⟨by omega,rfl⟩|(simp (disch:=(first|omega|(simp only [lnS];omega))) only [rdT,rdS,hT2];first|done|omega|rfl|exact ⟨by omega,rfl⟩|(simp;done)|(simp;omega))|(intros;trivial)));(try (simp only [nc] at *));(try simp (disch:=(first|omega|(simp only [lnS];omega))) only [rdT,rdS,hT2]);(try cbv))
    | fail
   )
   rfl
  case b => cbv
end Go.AL.Rl

namespace Go.AL.Rl
open Go Go.AL Go.Proofs
set_option maxRecDepth 100000
set_option maxHeartbeats 3200000
variable {γ : Nat → Option AV}

def plTo17 (v : RV) : Nat → List EId
 | 0 => []
 | a + 1 => plTo17 v a ++ (if rPl (rAt v a) = true then [v.ids.getD a id0] else [])
theorem plTo17_len (v : RV) : ∀ a, (plTo17 v a).length ≤ a
 | 0 => Nat.le_refl _
 | a + 1 => by
  have := plTo17_len v a
  rw [plTo17, List.length_append]
  split <;> simp <;> omega
theorem rplain_ok (g : Gr) (hg : Rd g) : Pure Tryz.prog γ false 17 [aGr g] (.vs 2 fun _ => ids (plTo17 (rvO g) (rvO g).ids.length)) := by
 have kl := rlook_ok (γ := γ) g hg
 have hw := rvO_wf g
 generalize rvO g = v at *
 have hsm : v.ids.length ≤ 64 := by have := hw.big; have := hw.small; have := hw.sh; omega
 have kp := fun a (ha : a < v.ids.length) => rpl_ok (γ := γ) v hw a ha
 have l1 := plTo17_len v
 have l2 := fun a => show plTo17 v (a + 1) = plTo17 v a ++ (if rPl (rAt v a) = true then [v.ids.getD a id0] else []) from rfl
 have l0 : plTo17 v 0 = [] := rfl
 obtain ⟨G, hG⟩ : ∃ G : List EId → Nat, ∀ l, G l = l.length := ⟨_, fun _ => rfl⟩
 have hG0 : G [] = 0 := by rw [hG]; rfl
 unfold aRV at kl kp
 refine Pure.go (ty := ty) ty_eq mo Tryz.func17 rfl Tryz.ntmps17 Tryz.results17 Tryz.call17 (by simp) fun P C CQ D W F E hF => ?_
 cbv
 repeat' (first
  |(refine E.c (SCalls.of_le (kl) ?_ ?_);(· (cbv;(try simp only [nc] at *);first|done|(simp;done)|(simp (disch:=(first|omega|(simp only [lnS];omega))) only [rdT,rdS,anT];first|done|omega|(refine ⟨?_,?_⟩<;>omega))|(simp (disch:=(first|omega|(simp only [lnS];omega))) [rdT,rdS];done)));cbv)
  |(refine ⟨fun _ h_s=>?_,fun _ h_s=>?_⟩<;>(cbv;(try simp only [nc] at *);try simp (disch:=(first|omega|(simp only [lnS];omega))) only [rdT,rdS,reduceCtorEq,trT] at h_s))
  |(refine hF ?_;intro _;clear hF)
  |(refine hF ?_;cbv;clear hF)
  |(refine ⟨fun _=>?_,?_⟩;(· ((try simp only [nc] at *);first|done|omega|exact ⟨by omega,rfl⟩|(simp (disch:=(first|omega|(simp only [lnS];omega))) only [rdT,rdS];first|done|omega|rfl|exact ⟨by omega,rfl⟩|(simp;done)|(simp;omega))|(intros;trivial)));(try (simp only [nc] at *));(try simp (disch:=(first|omega|(simp only [lnS];omega))) only [rdT,rdS]);(try cbv))
  | fail
 )
 refine E.w (AWP.ghostSlot 5 2 rfl (by omega) (E.loopSA (ι := Nat) (fun a => a ≤ v.ids.length) (fun a => v.ids.length - a) (fun a => [(16, .i fun _ => ((a : Nat) : Int)), (5, .sl 2 (G (plTo17 v a)) 2 (fun _ => 0) fun _ => (plTo17 v a).length)]) (fun a h => h.set 2 (.run (G (plTo17 v a)) 2 fun _ => ids (plTo17 v a))) 0 (fun _ => by first | rfl | simp) (Nat.zero_le _) ?_ fun a ha I hI => ?_))
 ·cbv; simp [l0, hG0, ids, LV.of]
 cbv
 have e1 := l1 a
 have e2 := l2 a
 skip
 repeat' (first
  |(refine hI (a + 1) ?_ ?_ ?_;rotate_left 1;(· ((try simp only [nc] at *);omega));(cbv;clear hI;(try clear hF);(try simp only [nc] at *);(try simp (disch:=(first|omega|(simp only [lnS];omega))) only [rdT,rdS,anT]));rotate_left 1;(try ((try simp only [nc] at *);omega)))
  |(refine E.c (SCalls.of_le (kp a (by ((try simp only [nc] at *);omega))) ?_ ?_);(· (cbv;(try simp only [nc] at *);first|done|(simp;done)|(simp (disch:=(first|omega|(simp only [lnS];omega))) only [rdT,rdS,anT];first|done|omega|(refine ⟨?_,?_⟩<;>omega))|(simp (disch:=(first|omega|(simp only [lnS];omega))) [rdT,rdS];done)));cbv)
  |(refine ⟨fun _ h_s=>?_,fun _ h_s=>?_⟩<;>(cbv;(try simp only [nc] at *);try simp (disch:=(first|omega|(simp only [lnS];omega))) only [rdT,rdS,reduceCtorEq,trT] at h_s))
  |(refine hF ?_;intro _;clear hF)
  |(refine hF ?_;cbv;clear hF)
  |(refine ⟨fun _=>?_,?_⟩;(· ((try simp only [nc] at *);first|done|omega|exact ⟨by omega,rfl⟩|(simp (disch:=(first|omega|(simp only [lnS];omega))) only [rdT,rdS];first|done|omega|rfl|exact ⟨by omega,rfl⟩|(simp;done)|(simp;omega))|(intros;trivial)|exact ⟨by first|trivial|rfl,by first|trivial|rfl|simp,by first|trivial|simp,by simp;omega,by simp;omega,by simp [AV.flat,AV.cells,AV.one]⟩));(try (simp only [nc] at *));(try simp (disch:=(first|omega|(simp only [lnS];omega))) only [rdT,rdS]);(try cbv))
  | fail
 )
 ·rw [e2, if_pos (by assumption)]
  simp [hG, ids, setAll, AV.nrm, nrms, nrm1, List.getD_eq_getElem?_getD, id0]
 ·have ho : rPl (rAt v a) = false := by assumption
  rw [e2, if_neg (by rw [ho]; simp), List.append_nil]
  exact ⟨⟨⟨rfl, rfl⟩, by push_cast; rfl⟩, rfl, rfl⟩
 ·have e : a = v.ids.length := by ((try simp only [nc] at *); omega)
  rw [← e]
  simp
  exact List.take_of_length_le (by simp)
end Go.AL.Rl

namespace Go.AL.Rl
open Go Go.AL Go.Proofs
set_option maxRecDepth 100000
set_option maxHeartbeats 3200000
variable {γ : Nat → Option AV}

theorem rbetween_ok (g : Gr) (hg : Rd g) (a b : EId) : Pure Tryz.prog γ false 11 [aGr g, aId a, aId b] (.b fun _ => btM (rvO g) a b) := by
 have kl := rlook_ok (γ := γ) g hg
 have hw := rvO_wf g
 generalize rvO g = v at *
 have hsm : (v.ids.length : Int) ≤ 9223372036854775807 := by have := hw.big; have := hw.small; have := hw.sh; omega
 have ka := index_ok (γ := γ) v.ids a hsm
 have kb := index_ok (γ := γ) v.ids b hsm
 have ko := rone_int (γ := γ) v hw (numI v.ids a) (numI v.ids b)
 have la := numI_lt v.ids a
 have lb := numI_lt v.ids b
 unfold btM
 generalize numI v.ids a = x at *
 generalize numI v.ids b = y at *
 unfold aRV at kl ko
 refine Pure.go (ty := ty) ty_eq mo Tryz.func11 rfl Tryz.ntmps11 Tryz.results11 Tryz.call11 (by simp) fun P C CQ D W F E hF => ?_
 cbv
 repeat' (first
  |(refine E.c (SCalls.of_le (ko (by ((try simp only [nc] at *);omega)) (by ((try simp only [nc] at *);omega))) ?_ ?_);(· (cbv;(try simp only [nc] at *);first|done|(simp;done)|(simp (disch:=(first|omega|(simp only [lnS];omega))) only [rdT,rdS,anT];first|done|omega|(refine ⟨?_,?_⟩<;>omega))|(simp (disch:=(first|omega|(simp only [lnS];omega))) [rdT,rdS];done)));cbv)
  |((first|refine E.c (SCalls.of_le (kb) ?_ ?_)|refine E.q (QCalls.of_le (kb) ?_ ?_));(· (cbv;(try simp only [nc] at *);first|done|(simp;done)|(simp (disch:=(first|omega|(simp only [lnS];omega))) only [rdT,rdS,anT];first|done|omega|(refine ⟨?_,?_⟩<;>omega))|(simp (disch:=(first|omega|(simp only [lnS];omega))) [rdT,rdS];done)));cbv)
  |((first|refine E.c (SCalls.of_le (ka) ?_ ?_)|refine E.q (QCalls.of_le (ka) ?_ ?_));(· (cbv;(try simp only [nc] at *);first|done|(simp;done)|(simp (disch:=(first|omega|(simp only [lnS];omega))) only [rdT,rdS,anT];first|done|omega|(refine ⟨?_,?_⟩<;>omega))|(simp (disch:=(first|omega|(simp only [lnS];omega))) [rdT,rdS];done)));cbv)
  |(refine E.c (SCalls.of_le (kl) ?_ ?_);(· (cbv;(try simp only [nc] at *);first|done|(simp;done)|(simp (disch:=(first|omega|(simp only [lnS];omega))) only [rdT,rdS,anT];first|done|omega|(refine ⟨?_,?_⟩<;>omega))|(simp (disch:=(first|omega|(simp only [lnS];omega))) [rdT,rdS];done)));cbv)
  |(refine ⟨fun _ h_s=>?_,fun _ h_s=>?_⟩<;>(cbv;(try simp only [nc] at *);try simp (disch:=(first|omega|(simp only [lnS];omega))) only [rdT,rdS,reduceCtorEq,trT] at h_s))
  |(refine hF ?_;intro _;clear hF)
  |(refine hF ?_;cbv;clear hF)
  |(refine ⟨fun _=>?_,?_⟩;(· ((try simp only [nc] at *);first|done|omega|exact ⟨by omega,rfl⟩|(simp (disch:=(first|omega|(simp only [lnS];omega))) only [rdT,rdS];first|done|omega|rfl|exact ⟨by omega,rfl⟩|(simp;done)|(simp;omega))|(intros;trivial)));(try (simp only [nc] at *));(try simp (disch:=(first|omega|(simp only [lnS];omega))) only [rdT,rdS]);(try cbv))
  |(refine E.d 7 (by decide +kernel) ?_;cbv;(fail_if_success guard_target =~ False))
  | fail
 )
 all_goals (try simp only [nc] at *)
 all_goals (try simp (disch:=(first|omega|(simp only [lnS];omega))) only [rdT,rdS])
 all_goals first
  | (simp_all; done)
  | (simp_all; intros; omega)
theorem rall_any (g : Gr) (hg : Rd g) : Pure Tryz.prog γ false 6 [aGr g] (.tup [.vs 5 fun _ => rcs (racesV (rvO g)), .i fun _ => if GOk g then 0 else 2]) := by
 by_cases h : GOk g
 ·have := rall_yes (γ := γ) g hg h
  unfold rvO
  simp only [if_pos h]
  exact this
 ·have kl := rlook_no (γ := γ) g hg h
  have e : racesV (rvO g) = [] := by unfold rvO; rw [if_neg h]; rfl
  simp only [if_neg h, e]
  unfold aRV rv0 at kl
  refine Pure.goK (ty := ty) ty_eq mo Tryz.func6 rfl Tryz.ntmps6 Tryz.results6 Tryz.call6 (by simp) 6 (by kernel_rfl) fun P C CQ D W C2 CQ2 D2 F RQ E E2 hF hR => ?_
  cbv
  repeat' (first
   |(refine E.c (SCalls.of_le (kl) ?_ ?_);(· (cbv;(try simp only [nc] at *);first|done|(simp;done)|(simp (disch:=(first|omega|(simp only [lnS];omega))) only [rdT,rdS,anT];first|done|omega|(refine ⟨?_,?_⟩<;>omega))|(simp (disch:=(first|omega|(simp only [lnS];omega))) [rdT,rdS];done)));cbv)
   |(refine ⟨fun _ h_s=>?_,fun _ h_s=>?_⟩<;>(cbv;(try simp only [nc] at *);try simp (disch:=(first|omega|(simp only [lnS];omega))) only [rdT,rdS,reduceCtorEq,trT] at h_s))
   |(refine hF ?_;intro _;clear hF)
   |(refine hF ?_;cbv;clear hF)
   |(refine ⟨fun _=>?_,?_⟩;(· ((try simp only [nc] at *);first|done|omega|exact ⟨by omega,rfl⟩|(simp (disch:=(first|omega|(simp only [lnS];omega))) only [rdT,rdS];first|done|omega|rfl|exact ⟨by omega,rfl⟩|(simp;done)|(simp;omega))|(intros;trivial)));(try (simp only [nc] at *));(try simp (disch:=(first|omega|(simp only [lnS];omega))) only [rdT,rdS]);(try cbv))
   |(refine E.d 19 (by decide +kernel) ?_;cbv;(fail_if_success guard_target =~ False))
   | fail
  )
end Go.AL.Rl

namespace Go.AL
open Go Go.RowKit

section
variable {P : Program} {γ : Nat → Option AV}
def isL (l : List Int) : LV := LV.of (l.map fun x => .i fun _ => x)
theorem RL_isL {S : Nat → Prop} {w : World} {zs : List Int} {evs : List Value} (h : RL S w (isL zs) evs) : evs = zs.map fun z => .int .i64 z := by
 rw [RL_iff] at h
 unfold isL at h
 rw [LV.l_of] at h
 induction zs generalizing evs with
 | nil => exact h
 | cons z zs ih =>
  obtain ⟨x, xs, rfl, h2, h3⟩ := h
  have h2 : x = .int .i64 z := h2
  rw [h2, ih h3]; rfl
theorem isL_RL {S : Nat → Prop} {w : World} (zs : List Int) : RL S w (isL zs) (zs.map fun z => .int .i64 z) := by
 rw [RL_iff]
 unfold isL
 rw [LV.l_of]
 induction zs with
 | nil => rfl
 | cons z zs ih => exact ⟨_, _, rfl, rfl, ih⟩
/-- a run's row is written anew, and memory has grown -/
theorem row_upd {B : Nat} {S : Nat → Prop} {ρ : List Loc} {h : List Blk} {w : World} (hh : HeapR B S γ ρ h w) {b g : Nat} {zs zs' : List Int} {loc : Loc} {K : Nat} (hb : h[b]? = some (.run g 1 fun _ => isL zs)) (hl : ρ[b]? = some loc) (hK : loc.k = some K)
  (hlen : zs'.length = zs.length) (q : Nat) (os : Array Obj) :
  HeapR B S γ (ρ.set b loc) (h.set b (.run g 1 fun _ => isL zs')) (Sort.grow (Sort.putRow (Value.int .i64) (Sort.ahead w q) K 0 zs'.toArray) os) ∧ Ext B S ρ w S (ρ.set b loc) (Sort.grow (Sort.putRow (Value.int .i64) (Sort.ahead w q) K 0 zs'.toArray) os) := by
 obtain ⟨p1, p2, p3, evs, p4, p5, p6⟩ := hh.blk b _ loc hb hl
 have e := RL_isL p4
 subst e
 obtain ⟨_, hKs, hBK⟩ := hh.own b loc K hl (.inl hK)
 rcases p6 with ⟨e, _⟩ | ⟨K', c, ty, e, hc, h1, h2, h3⟩
 ·rw [hK] at e; cases e
 rw [hK] at e; cases e
 have hold : ∀ k, k < w.heap.size → (Sort.grow (Sort.putRow (Value.int .i64) (Sort.ahead w q) K 0 zs'.toArray) os).heap[k]? = (Sort.putRow (Value.int .i64) w K 0 zs'.toArray).heap[k]? := fun k hk => by
  rw [Sort.heap_grow_old _ _ (by simpa using hk)]; rfl
 have hput : ∀ k, (Sort.putRow (Value.int .i64) w K 0 zs'.toArray).heap[k]? = if K = k then some (.cells (Sort.putCells (Value.int .i64) 0 zs'.toArray c) ty (0, 0)) else w.heap[k]? := fun k => by
  unfold Sort.putRow Sort.mapBlock
  simp only [Array.getElem?_modify]
  split
  ·rename_i e; subst e; rw [hc]; rfl
  ·rfl
 refine HeapR.upd hh hl loc.up_refl (fun K h => .inl h) ⟨rfl, rfl, rfl, by simp, fun a ha => ?_⟩ (fun k hk hne => ?_) ⟨p1, p2, p3, _, isL_RL zs', fun e he u hu => ?_, .inr ⟨K, Sort.putCells (Value.int .i64) 0 zs'.toArray c, ty, hK, ?_, ?_, ?_, fun i e he => ?_⟩⟩
 ·by_cases e : K = a.block
  ·simp only [World.frozen?, hold _ ha, hput, if_pos e]
   rw [← e, hc]
  ·simp only [World.frozen?, hold _ ha, hput, if_neg e]
 ·rw [hold k hk, hput, if_neg fun e => hne (by rw [hK, e])]
 ·rw [List.mem_map] at he
  obtain ⟨z, _, rfl⟩ := he
  have : u = .int .i64 z := by simpa [Value.cells] using hu
  subst this; rfl
 ·rw [hold K hKs, hput, if_pos rfl]
 ·simp [Sort.putCells, h1]
 ·rw [List.length_map] at h2 ⊢
  rw [hlen]; exact h2
 ·rw [List.getElem?_map] at he
  cases hz : zs'[i]? with
  | none => rw [hz] at he; cases he
  | some z =>
   rw [hz] at he
   cases he
   have hi := (List.getElem?_eq_some_iff.1 hz).1
   have hci : i < c.size := by rw [List.length_map] at h2; rw [p3] at h2; omega
   refine ⟨by rw [p3]; rfl, fun j x hj => ?_⟩
   have hx : j = 0 ∧ x = .int .i64 z := by
    rcases j with _ | j
    ·simp [Value.cells] at hj; exact ⟨rfl, hj.symm⟩
    ·simp [Value.cells] at hj
   obtain ⟨rfl, rfl⟩ := hx
   rw [p3, Nat.mul_one, Nat.add_zero]
   simp only [Sort.putCells, Array.getElem?_mapIdx, Array.getElem?_eq_getElem hci, Option.map_some]
   rw [if_pos ⟨Nat.zero_le _, by simpa using hi⟩]
   have : zs'.toArray[i - 0]! = z := by
    have := (List.getElem?_eq_some_iff.1 hz).2
    simp [hi, this]
   rw [this]
theorem row_holds {B : Nat} {S : Nat → Prop} {ρ : List Loc} {h : List Blk} {w : World} (hh : HeapR B S γ ρ h w) {b g : Nat} {zs : List Int} {loc : Loc} {K : Nat} (hb : h[b]? = some (.run g 1 fun _ => isL zs)) (hl : ρ[b]? = some loc) (hK : loc.k = some K) : Sort.Holds (Value.int .i64) w K 0 zs.toArray := by
 obtain ⟨p1, p2, p3, evs, p4, p5, p6⟩ := hh.blk b _ loc hb hl
 have e := RL_isL p4
 subst e
 rcases p6 with ⟨e, _⟩ | ⟨K', c, ty, e, hc, h1, h2, h3⟩
 ·rw [hK] at e; cases e
 rw [hK] at e; cases e
 intro j hj
 have hj : j < zs.length := by simpa using hj
 have h4 := (h3 j (.int .i64 zs[j]) (by simp [hj])).2 0 (.int .i64 zs[j]) rfl
 rw [p3, Nat.mul_one, Nat.add_zero] at h4
 constructor
 ·simp only [World.cell?, hc, Nat.zero_add]
  rw [h4]
  simp [hj]
 ·simp [World.frozen?, hc]
/-- the slice of a whole run -/
theorem run_slice {B : Nat} {S : Nat → Prop} {ρ : List Loc} {h : List Blk} {w : World} (hh : HeapR B S γ ρ h w) {b g : Nat} {zs : List Int} (hb : h[b]? = some (.run g 1 fun _ => isL zs)) {v : Value} {len : Unit → Nat} (hv : R S w (some ρ) (.sl b g 1 (fun _ => 0) len) v) :
  ∃ loc a cap, ρ[b]? = some loc ∧ v = .slice a (len ()) cap ∧ len () ≤ cap ∧ (cap = 0 ∨ ∃ K, loc.k = some K ∧ a = some ⟨K, 0, none⟩) := by
 obtain ⟨l, loc, a, cap, e, hl, h1, h2, h3, h4, h5, h6, h7⟩ := hv
 cases e
 obtain ⟨p1, p2, p3, _⟩ := hh.blk b _ loc hb hl
 refine ⟨loc, a, cap, hl, h4, h5, ?_⟩
 rcases h7 p2 with ⟨_, h8, _⟩ | ⟨K, h8, h9, _⟩
 ·exact .inl h8
 ·rcases h9 with h9 | h9
  ·exact .inl h9
  ·exact .inr ⟨K, h8, by rw [h9]; simp⟩
theorem sort_run {R0 : Go.Shelf.Ren} (L : Proofs.Lays.n189 P R0) (he : Enters P (R0.f 189)) {h : List Blk} {b g : Nat} {zs : List Int} (hb : h[b]? = some (.run g 1 fun _ => isL zs)) (hsz : zs.length < 4611686018427387904) {Q : AV → List Blk → Prop}
  (hQ : Q (.tup []) (h.set b (.run g 1 fun _ => isL (zs.mergeSort fun x y => decide (x ≤ y))))) : SCalls P γ (R0.f 189) [.sl b g 1 (fun _ => 0) fun _ => zs.length] h Q := by
 refine ⟨he, fun B S ρ w vals hh hargs => ?_⟩
 obtain ⟨v, _, rfl, hv, rfl⟩ := hargs
 obtain ⟨loc, a, cap, hl, rfl, hcap, hk⟩ := run_slice hh hb hv
 have hset : ρ.set b loc = ρ := by
  apply List.ext_getElem? ; intro i
  by_cases e : b = i
  ·subst e; rw [List.getElem?_set_self (List.getElem?_eq_some_iff.1 hl).1, hl]
  ·rw [List.getElem?_set_ne e]
 by_cases hz : zs.length = 0
 ·have hz : zs = [] := List.length_eq_zero_iff.1 hz
  subst hz
  have hs : h.set b (.run g 1 fun _ => isL []) = h := by
   apply List.ext_getElem? ; intro i
   by_cases e : b = i
   ·subst e; rw [List.getElem?_set_self (List.getElem?_eq_some_iff.1 hb).1, hb]
   ·rw [List.getElem?_set_ne e]
  have e : ([] : List Int).mergeSort (fun x y => decide (x ≤ y)) = [] := by simp
  rw [e, hs] at hQ
  refine (Proofs.Any.slices_Sort_int_none L a cap w).mono fun e w' ⟨h1, h2⟩ => ?_
  subst h2
  exact ⟨_, h, S, ρ, _, h1, hQ, ⟨[], rfl, rfl⟩, hh, Ext.refl _ _ _ _⟩
 ·rcases hk with hk | ⟨K, hK, rfl⟩
  ·omega
  obtain ⟨_, hKs, _⟩ := hh.own b loc K hl (.inl hK)
  refine (Proofs.Any.slices_Sort_int L K 0 cap zs w (row_holds hh hb hl hK) hKs hsz).mono fun e w' ⟨h1, q, os, h2⟩ => ?_
  subst h2
  have h3 := row_upd hh hb hl hK (zs' := zs.mergeSort fun x y => decide (x ≤ y)) (by simp) q os
  rw [hset] at h3
  exact ⟨_, _, S, ρ, _, h1, hQ, ⟨[], rfl, rfl⟩, h3.1, h3.2⟩
theorem compact_run {R0 : Go.Shelf.Ren} (L : Proofs.Lays2.n20 P R0) (he : Enters P (R0.f 20)) {h : List Blk} {b g n : Nat} {zs : List Int} (hn : n = zs.length) (hb : h[b]? = some (.run g 1 fun _ => isL zs)) (hsz : zs.length ≤ 9223372036854775807) (hle : (Lib.compact zs).length ≤ zs.length) {Q : AV → List Blk → Prop}
  (hQ : Q (.sl b g 1 (fun _ => 0) fun _ => (Lib.compact zs).length) (h.set b (.run g 1 fun _ => isL (Lib.compact zs ++ List.replicate (zs.length - (Lib.compact zs).length) 0)))) : SCalls P γ (R0.f 20) [.sl b g 1 (fun _ => 0) fun _ => n] h Q := by
 subst hn
 refine ⟨he, fun B S ρ w vals hh hargs => ?_⟩
 obtain ⟨v, _, rfl, hv, rfl⟩ := hargs
 have hv0 := hv
 obtain ⟨loc, a, cap, hl, rfl, hcap, hk⟩ := run_slice hh hb hv
 have hset : ρ.set b loc = ρ := by
  apply List.ext_getElem? ; intro i
  by_cases e : b = i
  ·subst e; rw [List.getElem?_set_self (List.getElem?_eq_some_iff.1 hl).1, hl]
  ·rw [List.getElem?_set_ne e]
 by_cases hz : zs.length = 0
 ·have hz : zs = [] := List.length_eq_zero_iff.1 hz
  subst hz
  have hs : h.set b (.run g 1 fun _ => isL []) = h := by
   apply List.ext_getElem? ; intro i
   by_cases e : b = i
   ·subst e; rw [List.getElem?_set_self (List.getElem?_eq_some_iff.1 hb).1, hb]
   ·rw [List.getElem?_set_ne e]
  have e : Lib.compact ([] : List Int) = [] := rfl
  rw [e] at hQ
  simp only [List.length_nil, Nat.sub_self, List.replicate_zero, List.append_nil] at hQ
  rw [hs] at hQ
  refine (Proofs.Any.slices_Compact_int_empty L a cap w).mono fun e w' ⟨h1, h2⟩ => ?_
  subst h2
  exact ⟨_, h, S, ρ, _, h1, hQ, hv0, hh, Ext.refl _ _ _ _⟩
 ·rcases hk with hk | ⟨K, hK, rfl⟩
  ·omega
  refine (Proofs.Any.slices_Compact_int L K 0 cap zs w (row_holds hh hb hl hK) hsz hcap).mono fun e w' ⟨h1, q, h2⟩ => ?_
  subst h2
  have h3 := row_upd hh hb hl hK (zs' := Lib.compact zs ++ List.replicate (zs.length - (Lib.compact zs).length) 0) (by rw [List.length_append, List.length_replicate]; omega) q #[]
  rw [hset, Sort.grow_empty] at h3
  refine ⟨_, _, S, ρ, _, h1, hQ, ?_, h3.1, h3.2⟩
  obtain ⟨l, loc', a', cap', e, k1, k2, k3, k4, k5, k6, k6', k7⟩ := hv0
  cases k5
  exact ⟨l, loc', _, cap, e, k1, k2, k3, k4, rfl, by show (Lib.compact zs).length ≤ cap; omega, k6', k7⟩
end
end Go.AL

namespace Go.Proofs
set_option maxRecDepth 100000
/-- the numbers of the library's contract here -/
def sort_ren : Go.Shelf.Ren := ⟨fun | 125 => 53 | 128 => 90 | 129 => 91 | 189 => 30 | 215 => 117 | 216 => 87 | 257 => 52 | 294 => 81 | 295 => 82 | 296 => 83 | 297 => 84 | 298 => 85 | 299 => 86 | 300 => 88 | 301 => 89 | 328 => 112 | 329 => 113 | 330 => 114 | 331 => 115 | 332 => 116 | 343 => 125 | n => n, fun | 0 => 0 | 3 => 3 | 4 => 4 | 5 => 5 | 9 => 9 | 28 => 39 | 46 => 97 | 51 => 121 | 53 => 109 | 131 => 118 | 182 => 113 | 183 => 114 | 218 => 130 | 222 => 134 | 228 => 137 | 229 => 138 | n => n, fun n => n⟩
theorem sort_lays : Lays.n189 Tryz.prog sort_ren where
 mixed := by kernel_rfl
 f125 := Tryz.func53.trans (congrArg some (by kernel_rfl))
 f128 := Tryz.func90.trans (congrArg some (by kernel_rfl))
 f129 := Tryz.func91.trans (congrArg some (by kernel_rfl))
 f189 := Tryz.func30.trans (congrArg some (by kernel_rfl))
 f215 := Tryz.func117.trans (congrArg some (by kernel_rfl))
 f216 := Tryz.func87.trans (congrArg some (by kernel_rfl))
 f257 := Tryz.func52.trans (congrArg some (by kernel_rfl))
 f294 := Tryz.func81.trans (congrArg some (by kernel_rfl))
 f295 := Tryz.func82.trans (congrArg some (by kernel_rfl))
 f296 := Tryz.func83.trans (congrArg some (by kernel_rfl))
 f297 := Tryz.func84.trans (congrArg some (by kernel_rfl))
 f298 := Tryz.func85.trans (congrArg some (by kernel_rfl))
 f299 := Tryz.func86.trans (congrArg some (by kernel_rfl))
 f300 := Tryz.func88.trans (congrArg some (by kernel_rfl))
 f301 := Tryz.func89.trans (congrArg some (by kernel_rfl))
 f328 := Tryz.func112.trans (congrArg some (by kernel_rfl))
 f329 := Tryz.func113.trans (congrArg some (by kernel_rfl))
 f330 := Tryz.func114.trans (congrArg some (by kernel_rfl))
 f331 := Tryz.func115.trans (congrArg some (by kernel_rfl))
 f332 := Tryz.func116.trans (congrArg some (by kernel_rfl))
 f343 := Tryz.func125.trans (congrArg some (by kernel_rfl))
 t0 := Tryz.underlying0
 a0 := Tryz.isAgg0
 z0 := Tryz.sizeOf0
 v0 := Tryz.zeroValue0
 t3 := Tryz.underlying3
 a3 := Tryz.isAgg3
 z3 := Tryz.sizeOf3
 v3 := Tryz.zeroValue3
 t4 := Tryz.underlying4
 a4 := Tryz.isAgg4
 z4 := Tryz.sizeOf4
 v4 := Tryz.zeroValue4
 t5 := Tryz.underlying5
 a5 := Tryz.isAgg5
 z5 := Tryz.sizeOf5
 v5 := Tryz.zeroValue5
 t9 := Tryz.underlying9
 a9 := Tryz.isAgg9
 z9 := Tryz.sizeOf9
 v9 := Tryz.zeroValue9
 t28 := Tryz.underlying39
 a28 := Tryz.isAgg39
 z28 := Tryz.sizeOf39
 v28 := Tryz.zeroValue39
 t46 := Tryz.underlying97
 a46 := Tryz.isAgg97
 z46 := Tryz.sizeOf97
 v46 := Tryz.zeroValue97
 t51 := Tryz.underlying121
 a51 := Tryz.isAgg121
 z51 := Tryz.sizeOf121
 v51 := Tryz.zeroValue121
 t53 := Tryz.underlying109
 a53 := Tryz.isAgg109
 z53 := Tryz.sizeOf109
 v53 := Tryz.zeroValue109
 t131 := Tryz.underlying118
 a131 := Tryz.isAgg118
 z131 := Tryz.sizeOf118
 v131 := Tryz.zeroValue118
 t182 := Tryz.underlying113
 a182 := Tryz.isAgg113
 z182 := Tryz.sizeOf113
 v182 := Tryz.zeroValue113
 t183 := Tryz.underlying114
 a183 := Tryz.isAgg114
 z183 := Tryz.sizeOf114
 v183 := Tryz.zeroValue114
 t218 := Tryz.underlying130
 a218 := Tryz.isAgg130
 z218 := Tryz.sizeOf130
 v218 := Tryz.zeroValue130
 t222 := Tryz.underlying134
 a222 := Tryz.isAgg134
 z222 := Tryz.sizeOf134
 v222 := Tryz.zeroValue134
 t228 := Tryz.underlying137
 a228 := Tryz.isAgg137
 z228 := Tryz.sizeOf137
 v228 := Tryz.zeroValue137
 t229 := Tryz.underlying138
 a229 := Tryz.isAgg138
 z229 := Tryz.sizeOf138
 v229 := Tryz.zeroValue138
/-- the numbers of the library's contract here -/
def comp_ren : Go.Shelf.Ren := ⟨fun | 20 => 31 | n => n, fun | 0 => 0 | 3 => 3 | 4 => 4 | 22 => 39 | n => n, fun n => n⟩
theorem comp_lays : Lays2.n20 Tryz.prog comp_ren where
 mixed := by kernel_rfl
 f20 := Tryz.func31.trans (congrArg some (by kernel_rfl))
 t0 := Tryz.underlying0
 a0 := Tryz.isAgg0
 z0 := Tryz.sizeOf0
 v0 := Tryz.zeroValue0
 t3 := Tryz.underlying3
 a3 := Tryz.isAgg3
 z3 := Tryz.sizeOf3
 v3 := Tryz.zeroValue3
 t4 := Tryz.underlying4
 a4 := Tryz.isAgg4
 z4 := Tryz.sizeOf4
 v4 := Tryz.zeroValue4
 t22 := Tryz.underlying39
 a22 := Tryz.isAgg39
 z22 := Tryz.sizeOf39
 v22 := Tryz.zeroValue39
 i3 := by kernel_rfl
end Go.Proofs

namespace Go.AL.Rl
open Go Go.AL Go.Proofs
set_option maxRecDepth 100000
set_option maxHeartbeats 3200000
variable {γ : Nat → Option AV}

def locP (v : RV) (p : Nat × Nat) : Int := (rAt v p.1).loc
def sortL (l : List Int) : List Int := l.mergeSort fun x y => decide (x ≤ y)
def locsV (v : RV) : List Int := Lib.compact (sortL ((racesV v).map (·.loc)))
/-- the heap of Locs while locations are put -/
def hpL (g : Gr) (v : RV) (n : Nat) (L : List Int) (l D : Nat) (oR oD : Obj) (s : Tr) (t : Array Value) : List Blk :=
 [.box (aGr g), .box (aRV v), .box (.sl 3 n 1 (fun _ => 0) fun _ => L.length), .run n 1 fun _ => is L, .obj D oD .nil #[], .obj l oR s t]
theorem allL_ok (g : Gr) (v : RV) (hv : RWf v) (hsm : v.ids.length ≤ 64) (l D : Nat) (oR oD : Obj) (s : Tr) (t : Array Value) (hT : leT 6 s s) (G : List (Nat × Nat) → Nat)
  (hy : ∀ (pre : List (Nat × Nat)) (a b : Nat), b < v.ids.length → a < b → oneM v a b = true → pre.length ≤ 4096 → YCall Tryz.prog γ l [.i fun _ => (a : Int), .i fun _ => (b : Int)] (hpL g v (G pre) (pre.map (locP v)) l D oR oD s t) (fun x h => x = .tt ∧ h = hpL g v (G (pre ++ [(a, b)])) ((pre ++ [(a, b)]).map (locP v)) l D oR oD s t)) :
  SCalls Tryz.prog γ 34 [.raw (.func (.yield l) #[] #[]), .vp (fun _ => aRV v) 0] (hpL g v (G []) [] l D oR oD s t) (Post (.tup []) (hpL g v (G (rpA v v.ids.length v.ids.length)) ((rpA v v.ids.length v.ids.length).map (locP v)) l D oR oD s t)) := by
 have h1 := hv.len
 have k1 := fun (a b : Nat) (ha : a < v.ids.length) (hb : b < v.ids.length) => rone_ok (γ := γ) v hv a b ha hb
 have lA := rpA_len v v.ids.length
 have lB := fun a => rpB_len v a v.ids.length
 obtain ⟨N, hN⟩ : ∃ N, N = v.ids.length := ⟨_, rfl⟩
 rw [← hN] at hsm hy k1 lA lB ⊢
 unfold aRV hpL at *
 generalize hI : v.ids = I at *
 generalize v.evs = Es at *
 generalize v.rows = Rw at *
 generalize v.sh = Sh at *
 generalize v.n = Vn at *
 have hT2 := hT
 cbv at hT2
 have hA0 : rpA v N 0 = [] := rfl
 have hAS := fun a => show rpA v N (a + 1) = rpA v N a ++ rpB v a N from rfl
 have hBS := fun a b => show rpB v a (b + 1) = rpB v a b ++ (if a < b ∧ oneM v a b = true then [(a, b)] else []) from rfl
 have hBl := rpB_low v
 have lAB : ∀ a b, a < N → b ≤ N → (rpA v N a ++ rpB v a b).length ≤ 4096 := fun a b ha hb => by
  have q1 := lA a
  have q2 := rpB_len v a b
  have q3 := Nat.mul_le_mul (show a ≤ 63 by omega) hsm
  rw [List.length_append]
  omega
 refine SCalls.go (ty := ty) ty_eq mo Tryz.func34 rfl Tryz.ntmps34 Tryz.results34 Tryz.call34 (by simp) fun P C CQ D W F E hF => ?_
 cbv
 skip
 repeat' (first
  |(refine ⟨fun _ h_s=>?_,fun _ h_s=>?_⟩<;>(cbv;(try simp only [nc] at *);try simp (disch:=(first|omega|(simp only [lnS];omega))) only [rdT,rdS,hT2,reduceCtorEq,trT] at h_s))
  |(refine hF ?_;intro _;clear hF)
  |(refine hF ?_;cbv;clear hF)
  |(refine ⟨fun _=>?_,?_⟩;(· ((try simp only [nc] at *);first|done|omega|exact ⟨by omega,rfl⟩|(simp (disch:=(first|omega|(simp only [lnS];omega))) only [rdT,rdS,hT2];first|done|omega|rfl|exact ⟨by omega,rfl⟩|(simp;done)|(simp;omega))|(intros;trivial)));(try (simp only [nc] at *));(try simp (disch:=(first|omega|(simp only [lnS];omega))) only [rdT,rdS,hT2]);(try cbv))
  | fail
 )
 refine E.loopS (ι:=Nat) (fun a=>a≤N) (fun a=>N - a) (fun a=>[(8,.i fun _=>((a : Nat) : Int))]) (fun a h=>(h.set 2 (.box (.sl 3 (G (rpA v N a)) 1 (fun _=>0) fun _=>((rpA v N a).map (locP v)).length))).set 3 (.run (G (rpA v N a)) 1 fun _=>is ((rpA v N a).map (locP v)))) 0 (fun _=>by first|rfl|simp) (Nat.zero_le _) ?_ fun a ha I1 hI1=>?_
 ·cbv; simp [hT2, hA0]
 cbv
 repeat' (first
  |(refine ⟨fun _ h_s=>?_,fun _ h_s=>?_⟩<;>(cbv;(try simp only [nc] at *);try simp (disch:=(first|omega|(simp only [lnS];omega))) only [rdT,rdS,hT2,reduceCtorEq,trT] at h_s))
  |(refine hF ?_;intro _;clear hF)
  |(refine hF ?_;cbv;clear hF)
  |(refine ⟨fun _=>?_,?_⟩;(· ((try simp only [nc] at *);first|done|omega|exact ⟨by omega,rfl⟩|(simp (disch:=(first|omega|(simp only [lnS];omega))) only [rdT,rdS,hT2];first|done|omega|rfl|exact ⟨by omega,rfl⟩|(simp;done)|(simp;omega))|(intros;trivial)));(try (simp only [nc] at *));(try simp (disch:=(first|omega|(simp only [lnS];omega))) only [rdT,rdS,hT2]);(try cbv))
  | fail
 )
 ·refine E.loopS (ι:=Nat) (fun b=>a + 1≤b∧b≤N) (fun b=>N - b) (fun b=>[(4,.i fun _=>((b : Nat) : Int))]) (fun b h=>(h.set 2 (.box (.sl 3 (G (rpA v N a ++ rpB v a b)) 1 (fun _=>0) fun _=>((rpA v N a ++ rpB v a b).map (locP v)).length))).set 3 (.run (G (rpA v N a ++ rpB v a b)) 1 fun _=>is ((rpA v N a ++ rpB v a b).map (locP v)))) (a + 1) (fun _=>by first|rfl|simp) ?_ ?_ fun b hb I2 hI2=>?_
  ·((try simp only [nc] at *); omega)
  ·cbv; simp [hT2, hBl]; exact w64_of (by omega) (by omega)
  cbv
  repeat' (first
   |(refine hI1 (a + 1) ?_ ?_ ?_;rotate_left 1;(· ((try simp only [nc] at *);omega));(cbv;clear hI1;(try clear hF);(try simp only [nc] at *);(try simp (disch:=(first|omega|(simp only [lnS];omega))) only [rdT,rdS,hT2,anT]));rotate_left 1;(try ((try simp only [nc] at *);omega)))
   |(refine hI2 (b + 1) ?_ ?_ ?_;rotate_left 1;(· ((try simp only [nc] at *);omega));(cbv;clear hI2;(try clear hF);(try simp only [nc] at *);(try simp (disch:=(first|omega|(simp only [lnS];omega))) only [rdT,rdS,hT2,anT]));rotate_left 1;(try ((try simp only [nc] at *);omega)))
   | (refine E.y (YCall.to (hy (rpA v N a ++ rpB v a b) a b (by ((try simp only [nc] at *); omega)) (by ((try simp only [nc] at *); omega)) (by assumption) (lAB a b (by ((try simp only [nc] at *); omega)) (by ((try simp only [nc] at *); omega)))) (by cbv) (by cbv; simp) (by cbv; simp [hT2]) ?_); cbv)
   |(refine E.c (SCalls.of_le (k1 a b (by ((try simp only [nc] at *);omega)) (by ((try simp only [nc] at *);omega))) ?_ ?_);(· (cbv;(try simp only [nc] at *);first|done|(simp;done)|(simp (disch:=(first|omega|(simp only [lnS];omega))) only [rdT,rdS,hT2,anT];first|done|omega|(refine ⟨?_,?_⟩<;>omega))|(simp (disch:=(first|omega|(simp only [lnS];omega))) [rdT,rdS,hT2];done)));cbv)
   |(refine ⟨fun _ h_s=>?_,fun _ h_s=>?_⟩<;>(cbv;(try simp only [nc] at *);try simp (disch:=(first|omega|(simp only [lnS];omega))) only [rdT,rdS,hT2,reduceCtorEq,trT] at h_s))
   |(refine hF ?_;intro _;clear hF)
   |(refine hF ?_;cbv;clear hF)
   |(refine ⟨fun _=>?_,?_⟩;(· ((try simp only [nc] at *);first|done|omega|exact ⟨by omega,rfl⟩|(simp (disch:=(first|omega|(simp only [lnS];omega))) only [rdT,rdS,hT2];first|done|omega|rfl|exact ⟨by omega,rfl⟩|(simp;done)|(simp;omega))|(intros;trivial)));(try (simp only [nc] at *));(try simp (disch:=(first|omega|(simp only [lnS];omega))) only [rdT,rdS,hT2]);(try cbv))
   | fail
  )
  ·have ho : oneM v a b = true := by assumption
   rw [hBS a b, if_pos ⟨by ((try simp only [nc] at *); omega), ho⟩, ← List.append_assoc]
   simp
  ·have ho : oneM v a b = false := by assumption
   rw [hBS a b, if_neg (by rw [ho]; simp), List.append_nil]
   simp
  ·have e : b = N := by ((try simp only [nc] at *); omega)
   subst e
   rw [hAS]
   simp
 ·have e : a = N := by ((try simp only [nc] at *); omega)
  subst e
  simp [hT2]
theorem allL_to (g : Gr) (v : RV) (hv : RWf v) (hsm : v.ids.length ≤ 64) (l D : Nat) (oR oD : Obj) (s : Tr) (t : Array Value) (hT : leT 6 s s) (G : List (Nat × Nat) → Nat)
  (hy : ∀ (pre : List (Nat × Nat)) (a b : Nat), b < v.ids.length → a < b → oneM v a b = true → pre.length ≤ 4096 → YCall Tryz.prog γ l [.i fun _ => (a : Int), .i fun _ => (b : Int)] (hpL g v (G pre) (pre.map (locP v)) l D oR oD s t) (fun x h => x = .tt ∧ h = hpL g v (G (pre ++ [(a, b)])) ((pre ++ [(a, b)]).map (locP v)) l D oR oD s t)) :
  SCalls Tryz.prog γ 34 [.raw (.func (.yield l) #[] #[]), .vp (fun _ => aRV v) 0] (hpL g v (G []) [] l D oR oD s t) (fun _ h => h = (hpL g v (G (rpA v v.ids.length v.ids.length)) ((rpA v v.ids.length v.ids.length).map (locP v)) l D oR oD s t)) := by
 have hT2 := hT
 cbv at hT2
 exact SCalls.to (allL_ok g v hv hsm l D oR oD s t hT G hy) rfl (Nat.le_refl _) (by cbv; simp) (by cbv; simp [hT2]) rfl
theorem sort_ok {h : List Blk} {b g : Nat} {zs : List Int} (hb : h[b]? = some (.run g 1 fun _ => is zs)) (hsz : zs.length ≤ 4096) {Q : AV → List Blk → Prop} (hQ : Q (.tup []) (h.set b (.run g 1 fun _ => is (sortL zs)))) :
  SCalls Tryz.prog γ 30 [.sl b g 1 (fun _ => 0) fun _ => zs.length] h Q := sort_run sort_lays Tryz.call30 hb (by omega) hQ
theorem compact_le (l : List Int) : (Lib.compact l).length ≤ l.length := by
 unfold Lib.compact Lib.compactUpTo
 rw [List.length_map]
 exact Nat.le_trans (List.length_filter_le _ _) (by simp)
theorem compact_ok {h : List Blk} {b g n : Nat} {zs : List Int} (hn : n = zs.length) (hb : h[b]? = some (.run g 1 fun _ => is zs)) (hsz : zs.length ≤ 4096) {Q : AV → List Blk → Prop}
  (hQ : Q (.sl b g 1 (fun _ => 0) fun _ => (Lib.compact zs).length) (h.set b (.run g 1 fun _ => is (Lib.compact zs ++ List.replicate (zs.length - (Lib.compact zs).length) 0)))) :
  SCalls Tryz.prog γ 31 [.sl b g 1 (fun _ => 0) fun _ => n] h Q := compact_run comp_lays Tryz.call31 hn hb (by omega) (compact_le zs) hQ
theorem racesV_len {v : RV} (hv : RWf v) : (racesV v).length ≤ 4096 := by
 have hl : v.ids.length ≤ 64 := by have := hv.big; have := hv.small; have := hv.sh; omega
 unfold racesV
 rw [List.length_map]
 exact Nat.le_trans (rpA_len _ _ _) (Nat.mul_le_mul hl hl)
end Go.AL.Rl

namespace Go.AL.Rl
open Go Go.AL Go.Proofs
set_option maxRecDepth 100000
set_option maxHeartbeats 3200000
variable {γ : Nat → Option AV}

theorem rlocs_ok (g : Gr) (hg : Rd g) : Pure Tryz.prog γ false 14 [aGr g] (.vs 1 fun _ => is (locsV (rvO g))) := by
 have kl := rlook_ok (γ := γ) g hg
 have hw := rvO_wf g
 generalize rvO g = v at *
 have hsm : v.ids.length ≤ 64 := by have := hw.big; have := hw.small; have := hw.sh; omega
 have ka := vall_ok (γ := γ) v
 have hrl := racesV_len hw
 unfold aRV at kl ka
 obtain ⟨rg, hrg⟩ : ∃ rg, rg = locsV v := ⟨_, rfl⟩
 rw [← hrg]
 refine Pure.goK (ty := ty) ty_eq mo Tryz.func14 rfl Tryz.ntmps14 Tryz.results14 Tryz.call14 (by simp) 4 (by kernel_rfl) fun P C CQ D W C2 CQ2 D2 F RQ E E2 hF hR => ?_
 cbv
 repeat' (first
  |(refine E.c (SCalls.of_le (ka) ?_ ?_);(· (cbv;(try simp only [nc] at *);first|done|(simp;done)|(simp (disch:=(first|omega|(simp only [lnS];omega))) only [rdT,rdS,anT];first|done|omega|(refine ⟨?_,?_⟩<;>omega))|(simp (disch:=(first|omega|(simp only [lnS];omega))) [rdT,rdS];done)));cbv)
  |(refine E.c (SCalls.of_le (kl) ?_ ?_);(· (cbv;(try simp only [nc] at *);first|done|(simp;done)|(simp (disch:=(first|omega|(simp only [lnS];omega))) only [rdT,rdS,anT];first|done|omega|(refine ⟨?_,?_⟩<;>omega))|(simp (disch:=(first|omega|(simp only [lnS];omega))) [rdT,rdS];done)));cbv)
  |(refine ⟨fun _ h_s=>?_,fun _ h_s=>?_⟩<;>(cbv;(try simp only [nc] at *);try simp (disch:=(first|omega|(simp only [lnS];omega))) only [rdT,rdS,reduceCtorEq,trT] at h_s))
  |(refine hF ?_;intro _;clear hF)
  |(refine hF ?_;cbv;clear hF)
  |(refine ⟨fun _=>?_,?_⟩;(· ((try simp only [nc] at *);first|done|omega|exact ⟨by omega,rfl⟩|(simp (disch:=(first|omega|(simp only [lnS];omega))) only [rdT,rdS];first|done|omega|rfl|exact ⟨by omega,rfl⟩|(simp;done)|(simp;omega))|(intros;trivial)));(try (simp only [nc] at *));(try simp (disch:=(first|omega|(simp only [lnS];omega))) only [rdT,rdS]);(try cbv))
  |(refine E.d 8 (by decide +kernel) ?_;cbv;(fail_if_success guard_target =~ False))
  | fail
 )
 obtain ⟨G, hG⟩ : ∃ G : List (Nat × Nat) → Nat, ∀ l, G l = l.length := ⟨_, fun _ => rfl⟩
 have hG0 : G [] = 0 := by rw [hG]; rfl
 have hGS : ∀ l x, G (l ++ [x]) = G l + 1 := fun l x => by rw [hG, hG]; simp
 refine hR ⟨_, _, _, Step.ghostBox 2 1 rfl, rfl, by cbv, fun l D t oR oB oX oE oEX oD oD' hY => ?_⟩
 refine SCalls.mono (h := hpL g v 0 [] l D oR oD _ t) (hG0 ▸ allL_to g v hw hsm l D oR oD _ t ?a G fun pre a b hb hab ho hp => hY _ _ _ rfl rfl ?b) fun _ h' hh' => .inl ?c
 case a => cbv; simp
 case c =>
  have e : (racesV v).map (·.loc) = (rpA v v.ids.length v.ids.length).map (locP v) := by unfold racesV; rw [List.map_map]; rfl
  unfold locsV at hrg
  rw [e] at hrg
  have hrl2 : ((rpA v v.ids.length v.ids.length).map (locP v)).length ≤ 4096 := by rw [← e, List.length_map]; exact hrl
  generalize rpA v v.ids.length v.ids.length = L at *
  generalize L.map (locP v) = M at *
  subst hh'
  have hs1 : (sortL M).length = M.length := by unfold sortL; simp
  have hs2 := compact_le (sortL M)
  cbv
  refine E2.c (sort_ok (b := 3) (zs := M) rfl hrl2 ?_)
  generalize sortL M = M2 at *
  cbv
  refine E2.c (compact_ok (b := 3) (zs := M2) hs1.symm rfl (by omega) ?_)
  generalize Lib.compact M2 = M3 at *
  subst hrg
  cbv
  repeat' (first
   |(refine ⟨fun _ h_s=>?_,fun _ h_s=>?_⟩<;>(cbv;(try simp only [nc] at *);try simp (disch:=(first|omega|(simp only [lnS];omega))) only [rdT,rdS,reduceCtorEq,trT] at h_s))
   |(refine hF ?_;intro _;clear hF)
   |(refine hF ?_;cbv;clear hF)
   |(refine ⟨fun _=>?_,?_⟩;(· ((try simp only [nc] at *);first|done|omega|exact ⟨by omega,rfl⟩|(simp (disch:=(first|omega|(simp only [lnS];omega))) only [rdT,rdS];first|done|omega|rfl|exact ⟨by omega,rfl⟩|(simp;done)|(simp;omega))|(intros;trivial)));(try (simp only [nc] at *));(try simp (disch:=(first|omega|(simp only [lnS];omega))) only [rdT,rdS]);(try cbv))
   |(refine E.d 8 (by decide +kernel) ?_;cbv;(fail_if_success guard_target =~ False))
   | fail
  )
  simp
  rw [← is_app]
  exact List.take_left' (by simp)
 case b =>
  have e1 := hw.len
  have e3 : pre.map (locP v) ++ [locP v (a, b)] = (pre ++ [(a, b)]).map (locP v) := by simp
  have e4 := hGS pre (a, b)
  have e5 : pre.length = (pre.map (locP v)).length := by simp
  have e6 : locP v (a, b) = (rAt v a).loc := rfl
  have e7 := hG pre
  rw [← e3, e4]
  rw [e5] at hp e7
  obtain ⟨P2, hP2⟩ : ∃ P2, P2 = pre.map (locP v) ++ [locP v (a, b)] := ⟨_, rfl⟩
  rw [← hP2]
  generalize pre.map (locP v) = Pr at *
  generalize G pre = gp at *
  cbv
  refine E2.d 8 (by decide +kernel) ?_
  cbv
  repeat' (first
   |(refine ⟨fun _ h_s=>?_,fun _ h_s=>?_⟩<;>(cbv;(try simp only [nc] at *);try simp (disch:=(first|omega|(simp only [lnS];omega))) only [rdT,rdS,reduceCtorEq,trT] at h_s))
   |(refine hF ?_;intro _;clear hF)
   |(refine hF ?_;cbv;clear hF)
   |(refine ⟨fun _=>?_,?_⟩;(· ((try simp only [nc] at *);first|done|omega|exact ⟨by omega,rfl⟩|(simp (disch:=(first|omega|(simp only [lnS];omega))) only [rdT,rdS];first|done|omega|rfl|exact ⟨by omega,rfl⟩|(simp;done)|(simp;omega))|(intros;trivial)));(try (simp only [nc] at *));(try simp (disch:=(first|omega|(simp only [lnS];omega))) only [rdT,rdS]);(try cbv))
   |(refine E.d 8 (by decide +kernel) ?_;cbv;(fail_if_success guard_target =~ False))
   | fail
  )
  refine ⟨fun _ => ⟨trivial, trivial, by simp, by simp; omega, by simp; omega, by simp [AV.flat, AV.cells, AV.one, setAll, AV.nrm, nrms, nrm1]⟩, ?_⟩
  simp [hP2, e6, is, setAll, AV.nrm, nrms, nrm1, rAt, ev0, id0]
end Go.AL.Rl

namespace Go.AL.Rl
open Go Go.AL Go.Proofs
set_option maxRecDepth 100000
set_option maxHeartbeats 1600000

theorem sortL_le (l : List Int) : (sortL l).Pairwise (· ≤ ·) := by
 unfold sortL
 have := List.pairwise_mergeSort (le := fun x y : Int => decide (x ≤ y)) (fun a b c h1 h2 => by simp at *; omega) (fun a b => by simp; omega) l
 exact this.imp fun h => by simpa using h
theorem sortL_mem {l : List Int} {x : Int} : x ∈ sortL l ↔ x ∈ l := by unfold sortL; exact List.mem_mergeSort
theorem compact_lt {l : List Int} (h : l.Pairwise (· ≤ ·)) : (Lib.compact l).Pairwise (· < ·) := by
 unfold Lib.compact Lib.compactUpTo
 rw [List.pairwise_map]
 have hr : (List.range l.length).Pairwise (· < ·) := List.pairwise_lt_range
 have hf := hr.filter (Lib.keeps l.toArray)
 refine List.Pairwise.imp_of_mem (fun {i j} hi hj hij => ?_) hf
 rw [List.mem_filter, List.mem_range] at hi hj
 have hjl := hj.1
 have h1 : l[j - 1]'(by omega) ≤ l[j] := by
  rcases Nat.eq_or_lt_of_le (show j - 1 ≤ j by omega) with e | e
  ·omega
  ·exact List.pairwise_iff_getElem.1 h (j - 1) j _ _ e
 have h2 : l[i]'(by omega) ≤ l[j - 1]'(by omega) := by
  rcases Nat.eq_or_lt_of_le (show i ≤ j - 1 by omega) with e | e
  ·simp only [e]; exact Int.le_refl _
  ·exact List.pairwise_iff_getElem.1 h i (j - 1) _ _ e
 have h3 : l[j] ≠ l[j - 1]'(by omega) := by
  have := hj.2
  unfold Lib.keeps at this
  rw [decide_eq_true_eq] at this
  rcases this with e | e
  ·omega
  ·simpa [hjl, show j - 1 < l.length by omega] using e
 have e1 : l.toArray[i]! = l[i]'(by omega) := by simp [show i < l.length by omega]
 have e2 : l.toArray[j]! = l[j] := by simp [hjl]
 rw [e1, e2]
 omega
theorem compact_mem {l : List Int} {x : Int} : x ∈ Lib.compact l ↔ x ∈ l := by
 unfold Lib.compact Lib.compactUpTo
 rw [List.mem_map]
 constructor
 ·rintro ⟨j, hj, rfl⟩
  rw [List.mem_filter, List.mem_range] at hj
  simp [hj.1]
 ·intro hx
  have key : ∀ n, n < l.length → l.getD n 0 = x → ∃ j, j < l.length ∧ l.getD j 0 = x ∧ (j = 0 ∨ l.getD (j - 1) 0 ≠ x) := by
   intro n
   induction n with
   | zero => intro h1 h2; exact ⟨0, h1, h2, .inl rfl⟩
   | succ n ih =>
    intro h1 h2
    by_cases e : l.getD n 0 = x
    ·exact ih (by omega) e
    ·exact ⟨n + 1, h1, h2, .inr e⟩
  obtain ⟨n, hn, he⟩ := List.getElem_of_mem hx
  obtain ⟨j, h1, h2, h3⟩ := key n hn (by simp [hn, he])
  have e1 : l.toArray[j]! = l.getD j 0 := by simp [h1]
  refine ⟨j, ?_, e1.trans h2⟩
  rw [List.mem_filter, List.mem_range]
  refine ⟨h1, ?_⟩
  unfold Lib.keeps
  rw [decide_eq_true_eq]
  rcases h3 with h3 | h3
  ·exact .inl h3
  ·rcases Nat.eq_zero_or_pos j with h4 | h4
   ·exact .inl h4
   ·right
    rw [e1, h2]
    have e2 : l.toArray[j - 1]! = l.getD (j - 1) 0 := by simp [show j - 1 < l.length by omega]
    rw [e2]
    exact fun e => h3 e.symm
theorem locsV_lt (v : RV) : (locsV v).Pairwise (· < ·) := compact_lt (sortL_le _)
theorem locsV_mem {v : RV} {x : Int} : x ∈ locsV v ↔ ∃ r ∈ racesV v, r.loc = x := by
 unfold locsV
 rw [compact_mem, sortL_mem, List.mem_map]
/-- rising lists of the same things are one -/
theorem rising_eq : ∀ {a b : List Int}, a.Pairwise (· < ·) → b.Pairwise (· < ·) → (∀ x, x ∈ a ↔ x ∈ b) → a = b
 | [], [], _, _, _ => rfl
 | [], y :: b, _, _, h => by have := (h y).2 (by simp); cases this
 | x :: a, [], _, _, h => by have := (h x).1 (by simp); cases this
 | x :: a, y :: b, ha, hb, h => by
  rw [List.pairwise_cons] at ha hb
  have h1 := (h x).1 (by simp)
  have h2 := (h y).2 (by simp)
  have e : x = y := by
   rcases List.mem_cons.1 h1 with e | h1
   ·exact e
   ·rcases List.mem_cons.1 h2 with e | h2
    ·exact e.symm
    ·have := hb.1 x h1; have := ha.1 y h2; omega
  subst e
  rw [rising_eq ha.2 hb.2 fun z => ?_]
  have h3 := h z
  rw [List.mem_cons, List.mem_cons] at h3
  constructor
  ·intro hz
   rcases h3.1 (.inr hz) with e | e
   ·have := ha.1 z hz; omega
   ·exact e
  ·intro hz
   rcases h3.2 (.inr hz) with e | e
   ·have := hb.1 z hz; omega
   ·exact e
theorem locsV_len (v : RV) (hv : RWf v) : (locsV v).length ≤ 4096 := by
 have h1 := racesV_len hv
 have h2 := compact_le (sortL ((racesV v).map (·.loc)))
 have h3 : (sortL ((racesV v).map (·.loc))).length = (racesV v).length := by unfold sortL; simp
 unfold locsV
 omega
end Go.AL.Rl

namespace Go.AL.Rl
open Go Go.AL Go.Proofs
set_option maxRecDepth 100000
set_option maxHeartbeats 3200000
variable {γ : Nat → Option AV}

abbrev aGiven (n : Int) (po rf co fr : List (BitVec 64)) : AV := .agg [.i fun _ => n, .vs 1 fun _ => us po, .i fun _ => n, .vs 1 fun _ => us rf, .i fun _ => n, .vs 1 fun _ => us co, .i fun _ => n, .vs 1 fun _ => us fr]
theorem wgiven_ok (g : Gr) (hg : Rd g) (h : GOk g) : Pure Tryz.prog γ false 40 [pW g] (aGiven (nG g : Nat) (poF (viewG g) (nG g)) (rfF (viewG g) (nG g)) (coF (viewG g) (nG g)) (frF (viewG g) (nG g))) := by
 have hn := (viewG_wf h).small
 have c1 := fun a b => wpo_ok (γ := γ) g a b
 have c2 := fun a b => wrf_ok (γ := γ) g h a b
 have c3 := fun a b => wco_ok (γ := γ) g hg h a b
 have c4 := fun a b => wfr_ok (γ := γ) g hg h a b
 unfold poF rfF coF frF
 generalize poM (viewG g) = p1 at *
 generalize rfM (viewG g) = p2 at *
 generalize coM (viewG g) = p3 at *
 generalize frM (viewG g) = p4 at *
 obtain ⟨L, hL⟩ : ∃ L : (Nat → Nat → Bool) → Nat → Nat → List (Int × Int), ∀ p a b, L p a b = prA p (nG g) a ++ prE p a b := ⟨_, fun _ _ _ => rfl⟩
 obtain ⟨G, hG⟩ : ∃ G : List (Int × Int) → Nat, ∀ l, G l = l.length := ⟨_, fun _ => rfl⟩
 have hG0 : G [] = 0 := by rw [hG]; rfl
 have l0 : ∀ p, L p 0 0 = [] := fun p => by rw [hL]; rfl
 have lS : ∀ p a b, L p a (b + 1) = L p a b ++ if p a b = true then [((a : Int), (b : Int))] else [] := fun p a b => by rw [hL, hL, prE_succ]; simp only [List.append_assoc]
 have lE : ∀ p a, L p a (nG g) = L p (a + 1) 0 := fun p a => by rw [hL, hL, prA_succ]; simp [prE]
 have lL : ∀ p a b, a ≤ nG g → b ≤ nG g → (L p a b).length ≤ 4000 := fun p a b ha hb => by
  have q1 := prA_len p (nG g) a
  have q2 := prE_len p a b
  have q3 : a * nG g ≤ 62 * 62 := Nat.mul_le_mul (by omega) hn
  rw [hL, List.length_append]; omega
 have lF : ∀ p, L p (nG g) 0 = prA p (nG g) (nG g) := fun p => by rw [hL]; simp [prE]
 have hlen : ∀ p, (prA p (nG g) (nG g)).length ≤ 4000 := fun p => by rw [← lF]; exact lL p _ _ (Nat.le_refl _) (Nat.zero_le _)
 have o2 : ∀ p, Pure Tryz.prog γ false 43 [.i fun _ => (nG g : Int), .vs 2 fun _ => ps (prA p (nG g) (nG g))] (encRel (nG g) (relRows (nG g) p)) := fun p => by
  have := rof_in (γ := γ) (nG g : Int) (prA p (nG g) (nG g)) (by omega) (by omega) (by have := hlen p; omega)
  rwa [ofTo_rel (nG g) (by omega) p] at this
 have k1 := o2 p1
 have k2 := o2 p2
 have k3 := o2 p3
 have k4 := o2 p4
 clear o2
 refine Pure.goL (ty := ty) ty_eq mo Tryz.func40 rfl Tryz.ntmps40 Tryz.results40 Tryz.call40 (by simp) fun P C CQ D W F E hF => ?_
 refine E.cut 4 (told 95 [(0, pW g), (2, .ptr 0 0), (3, .ptr 1 0)] [.box (.agg [.lit 0, .nils, .lit 0, .nils, .lit 0, .nils, .lit 0, .nils]), .box (.agg [.vs 2 fun _ => ps (prA p1 (nG g) (nG g)), .vs 2 fun _ => ps (prA p2 (nG g) (nG g)), .vs 2 fun _ => ps (prA p3 (nG g) (nG g)), .vs 2 fun _ => ps (prA p4 (nG g) (nG g))])]) (by kernel_rfl) (Nat.zero_le _) (fun I hI => ?_) (E.bl ?_)
 ·cbv
  repeat' (first
   |(refine ⟨fun _ h_s=>?_,fun _ h_s=>?_⟩<;>(cbv;(try simp only [nc] at *);try simp (disch:=(first|omega|(simp only [lnS];omega))) only [rdT,rdS,reduceCtorEq,trT] at h_s))
   |(refine hF ?_;intro _;clear hF)
   |(refine hF ?_;cbv;clear hF)
   |(refine ⟨fun _=>?_,?_⟩;(· ((try simp only [nc] at *);first|done|omega|exact ⟨by omega,rfl⟩|(simp (disch:=(first|omega|(simp only [lnS];omega))) only [rdT,rdS];first|done|omega|rfl|exact ⟨by omega,rfl⟩|(simp;done)|(simp;omega))|(intros;trivial)));(try (simp only [nc] at *));(try simp (disch:=(first|omega|(simp only [lnS];omega))) only [rdT,rdS]);(try cbv))
   |(refine E.d 27 (by decide +kernel) ?_;cbv;(fail_if_success guard_target =~ False))
   | fail
  )
  refine E.w (AWP.ghostField 1 0 2 rfl rfl ?_)
  refine AWP.ghostField 1 1 2 rfl rfl ?_
  refine AWP.ghostField 1 2 2 rfl rfl ?_
  refine AWP.ghostField 1 3 2 rfl rfl ?_
  refine E.loopSA (ι:=Nat) (fun a=>a≤nG g) (fun a=>nG g - a) (fun a=>[(4,.i fun _=>((a : Nat) : Int))]) (fun a h=>(((((h.set 1 (.box (.agg [.sl 2 (G (L p1 a 0)) 2 (fun _=>0) fun _=>(L p1 a 0).length,.sl 3 (G (L p2 a 0)) 2 (fun _=>0) fun _=>(L p2 a 0).length,.sl 4 (G (L p3 a 0)) 2 (fun _=>0) fun _=>(L p3 a 0).length,.sl 5 (G (L p4 a 0)) 2 (fun _=>0) fun _=>(L p4 a 0).length]))).set 2 (.run (G (L p1 a 0)) 2 fun _=>ps (L p1 a 0))).set 3 (.run (G (L p2 a 0)) 2 fun _=>ps (L p2 a 0))).set 4 (.run (G (L p3 a 0)) 2 fun _=>ps (L p3 a 0))).set 5 (.run (G (L p4 a 0)) 2 fun _=>ps (L p4 a 0)))) 0 (fun _=>by first|rfl|simp) (Nat.zero_le _) ?_ fun a ha I1 hJ=>?_
  ·cbv
   simp [l0, hG0, ps, LV.of]
  cbv
  repeat' (first
   |(refine ⟨fun _ h_s=>?_,fun _ h_s=>?_⟩<;>(cbv;(try simp only [nc] at *);try simp (disch:=(first|omega|(simp only [lnS];omega))) only [rdT,rdS,reduceCtorEq,trT] at h_s))
   |(refine hF ?_;intro _;clear hF)
   |(refine hF ?_;cbv;clear hF)
   |(refine ⟨fun _=>?_,?_⟩;(· ((try simp only [nc] at *);first|done|omega|exact ⟨by omega,rfl⟩|(simp (disch:=(first|omega|(simp only [lnS];omega))) only [rdT,rdS];first|done|omega|rfl|exact ⟨by omega,rfl⟩|(simp;done)|(simp;omega))|(intros;trivial)));(try (simp only [nc] at *));(try simp (disch:=(first|omega|(simp only [lnS];omega))) only [rdT,rdS]);(try cbv))
   |(refine E.d 27 (by decide +kernel) ?_;cbv;(fail_if_success guard_target =~ False))
   | fail
  )
  ·refine E.loopS (ι:=Nat) (fun b=>b≤(nG g)) (fun b=>(nG g) - b) (fun b=>[(5,.i fun _=>((b : Nat) : Int))]) (fun b h=>(((((h.set 1 (.box (.agg [.sl 2 (G (L p1 a b)) 2 (fun _=>0) fun _=>(L p1 a b).length,.sl 3 (G (L p2 a b)) 2 (fun _=>0) fun _=>(L p2 a b).length,.sl 4 (G (L p3 a b)) 2 (fun _=>0) fun _=>(L p3 a b).length,.sl 5 (G (L p4 a b)) 2 (fun _=>0) fun _=>(L p4 a b).length]))).set 2 (.run (G (L p1 a b)) 2 fun _=>ps (L p1 a b))).set 3 (.run (G (L p2 a b)) 2 fun _=>ps (L p2 a b))).set 4 (.run (G (L p3 a b)) 2 fun _=>ps (L p3 a b))).set 5 (.run (G (L p4 a b)) 2 fun _=>ps (L p4 a b)))) 0 (fun _=>by first|rfl|simp) (Nat.zero_le _) ?_ fun b hb I2 hI2=>?_
   ·cbv; simp
   cbv
   have d1 := lL p1 a b ha hb
   have d2 := lL p2 a b ha hb
   have d3 := lL p3 a b ha hb
   have d4 := lL p4 a b ha hb
   skip
   repeat' (first
    |(refine hI2 (b + 1) ?_ ?_ ?_;rotate_left 1;(· ((try simp only [nc] at *);omega));(cbv;clear hI2;(try clear hF);(try simp only [nc] at *);(try simp (disch:=(first|omega|(simp only [lnS];omega))) only [rdT,rdS,anT]));rotate_left 1;(try ((try simp only [nc] at *);omega)))
    |(refine E.c (SCalls.of_le (c4 a b (by ((try simp only [nc] at *);omega)) (by ((try simp only [nc] at *);omega))) ?_ ?_);(· (cbv;(try simp only [nc] at *);first|done|(simp;done)|(simp (disch:=(first|omega|(simp only [lnS];omega))) only [rdT,rdS,anT];first|done|omega|(refine ⟨?_,?_⟩<;>omega))|(simp (disch:=(first|omega|(simp only [lnS];omega))) [rdT,rdS];done)));cbv)
    |(refine E.c (SCalls.of_le (c3 a b (by ((try simp only [nc] at *);omega)) (by ((try simp only [nc] at *);omega))) ?_ ?_);(· (cbv;(try simp only [nc] at *);first|done|(simp;done)|(simp (disch:=(first|omega|(simp only [lnS];omega))) only [rdT,rdS,anT];first|done|omega|(refine ⟨?_,?_⟩<;>omega))|(simp (disch:=(first|omega|(simp only [lnS];omega))) [rdT,rdS];done)));cbv)
    |(refine E.c (SCalls.of_le (c2 a b (by ((try simp only [nc] at *);omega)) (by ((try simp only [nc] at *);omega))) ?_ ?_);(· (cbv;(try simp only [nc] at *);first|done|(simp;done)|(simp (disch:=(first|omega|(simp only [lnS];omega))) only [rdT,rdS,anT];first|done|omega|(refine ⟨?_,?_⟩<;>omega))|(simp (disch:=(first|omega|(simp only [lnS];omega))) [rdT,rdS];done)));cbv)
    |(refine E.c (SCalls.of_le (c1 a b (by ((try simp only [nc] at *);omega)) (by ((try simp only [nc] at *);omega))) ?_ ?_);(· (cbv;(try simp only [nc] at *);first|done|(simp;done)|(simp (disch:=(first|omega|(simp only [lnS];omega))) only [rdT,rdS,anT];first|done|omega|(refine ⟨?_,?_⟩<;>omega))|(simp (disch:=(first|omega|(simp only [lnS];omega))) [rdT,rdS];done)));cbv)
    |(refine ⟨fun _ h_s=>?_,fun _ h_s=>?_⟩<;>(cbv;(try simp only [nc] at *);try simp (disch:=(first|omega|(simp only [lnS];omega))) only [rdT,rdS,reduceCtorEq,trT] at h_s))
    |(refine hF ?_;intro _;clear hF)
    |(refine hF ?_;cbv;clear hF)
    |(refine ⟨fun _=>?_,?_⟩;(· ((try simp only [nc] at *);first|done|omega|exact ⟨by omega,rfl⟩|(simp (disch:=(first|omega|(simp only [lnS];omega))) only [rdT,rdS];first|done|omega|rfl|exact ⟨by omega,rfl⟩|(simp;done)|(simp;omega))|(intros;trivial)|exact ⟨by first|trivial|rfl,by first|trivial|rfl|simp,by first|trivial|simp,by simp;omega,by simp;omega,by simp [AV.flat,AV.cells,AV.one]⟩));(try (simp only [nc] at *));(try simp (disch:=(first|omega|(simp only [lnS];omega))) only [rdT,rdS]);(try cbv))
    |(refine E.d 27 (by decide +kernel) ?_;cbv;(fail_if_success guard_target =~ False))
    | fail
   )
   all_goals clear c1 c2 c3 c4 E lL lF l0 hG0 d1 d2 d3 d4
   rotate_right 1
   ·have eb : b = nG g := by ((try simp only [nc] at *); omega)
    subst eb
    simp only [lE]
    refine hJ (a + 1) (by ((try simp only [nc] at *); omega)) (by ((try simp only [nc] at *); omega)) ?_
    cbv
    clear hJ hI hI2
    have e := w64_of (n := (a : Int) + 1) (by omega) (by omega)
    simp [e]
   all_goals clear lE
   all_goals simp_all [hG, setAll, ps, AV.nrm]
   all_goals omega
  ·have ea : a = nG g := by ((try simp only [nc] at *); omega)
   subst ea
   simp only [lF]
   refine hI ?_
   cbv
   clear hI hJ
   simp only [List.drop_zero, nc]
   simp
   refine ⟨?_, ?_, ?_, ?_⟩ <;> exact List.take_of_length_le (by simp)
 ·cbv
  repeat' (first
   |((first|refine E.c (SCalls.of_le (k4) ?_ ?_)|refine E.q (QCalls.of_le (k4) ?_ ?_));(· (cbv;(try simp only [nc] at *);first|done|(simp;done)|(simp (disch:=(first|omega|(simp only [lnS];omega))) only [rdT,rdS,anT];first|done|omega|(refine ⟨?_,?_⟩<;>omega))|(simp (disch:=(first|omega|(simp only [lnS];omega))) [rdT,rdS];done)));cbv)
   |((first|refine E.c (SCalls.of_le (k3) ?_ ?_)|refine E.q (QCalls.of_le (k3) ?_ ?_));(· (cbv;(try simp only [nc] at *);first|done|(simp;done)|(simp (disch:=(first|omega|(simp only [lnS];omega))) only [rdT,rdS,anT];first|done|omega|(refine ⟨?_,?_⟩<;>omega))|(simp (disch:=(first|omega|(simp only [lnS];omega))) [rdT,rdS];done)));cbv)
   |((first|refine E.c (SCalls.of_le (k2) ?_ ?_)|refine E.q (QCalls.of_le (k2) ?_ ?_));(· (cbv;(try simp only [nc] at *);first|done|(simp;done)|(simp (disch:=(first|omega|(simp only [lnS];omega))) only [rdT,rdS,anT];first|done|omega|(refine ⟨?_,?_⟩<;>omega))|(simp (disch:=(first|omega|(simp only [lnS];omega))) [rdT,rdS];done)));cbv)
   |((first|refine E.c (SCalls.of_le (k1) ?_ ?_)|refine E.q (QCalls.of_le (k1) ?_ ?_));(· (cbv;(try simp only [nc] at *);first|done|(simp;done)|(simp (disch:=(first|omega|(simp only [lnS];omega))) only [rdT,rdS,anT];first|done|omega|(refine ⟨?_,?_⟩<;>omega))|(simp (disch:=(first|omega|(simp only [lnS];omega))) [rdT,rdS];done)));cbv)
   |(refine ⟨fun _ h_s=>?_,fun _ h_s=>?_⟩<;>(cbv;(try simp only [nc] at *);try simp (disch:=(first|omega|(simp only [lnS];omega))) only [rdT,rdS,reduceCtorEq,trT] at h_s))
   |(refine hF ?_;intro _;clear hF)
   |(refine hF ?_;cbv;clear hF)
   |(refine ⟨fun _=>?_,?_⟩;(· ((try simp only [nc] at *);first|done|omega|exact ⟨by omega,rfl⟩|(simp (disch:=(first|omega|(simp only [lnS];omega))) only [rdT,rdS];first|done|omega|rfl|exact ⟨by omega,rfl⟩|(simp;done)|(simp;omega))|(intros;trivial)|exact ⟨by first|trivial|rfl,by first|trivial|rfl|simp,by first|trivial|simp,by simp;omega,by simp;omega,by simp [AV.flat,AV.cells,AV.one]⟩));(try (simp only [nc] at *));(try simp (disch:=(first|omega|(simp only [lnS];omega))) only [rdT,rdS]);(try cbv))
   |(refine E.d 27 (by decide +kernel) ?_;cbv;(fail_if_success guard_target =~ False))
   | fail
  )
end Go.AL.Rl

namespace Go.AL.Rl
open Go Go.AL Go.Proofs
set_option maxRecDepth 100000
set_option maxHeartbeats 3200000
variable {γ : Nat → Option AV}

theorem wsw_ok (g : Gr) (h : GOk g) : Pure Tryz.prog γ false 44 [pW g] (encRel (nG g : Nat) (swF (viewG g) (nG g))) := by
 have hn := (viewG_wf h).small
 have hEl := evsG_l g
 have hVl : (viewG g).ev = evsG g := rfl
 have hfr0 := fun i hi => fr_iff h i hi
 have hfrl := (viewG_wf h).frl
 have q1 := wreads_ok (γ := γ) g
 have q2 := wwrites_ok (γ := γ) g
 have q3 := wacq_ok (γ := γ) g
 have q4 := wrel_ok (γ := γ) g
 have q5 := wsequence_ok (γ := γ) g h
 have q6 := wfrom_ok (γ := γ) g h
 have q7 := wpo_ok (γ := γ) g
 have e1 : ∀ w, cwM (viewG g) w = (writesM ((evsG g).getD w ⟨0, 0, 0, 0, 0⟩) && decide (((evsG g).getD w ⟨0, 0, 0, 0, 0⟩).order ≠ 1)) := fun _ => rfl
 have e2 : ∀ s b, rdrM (viewG g) s b = (readsM ((evsG g).getD b ⟨0, 0, 0, 0, 0⟩) && decide (((evsG g).getD b ⟨0, 0, 0, 0, 0⟩).order ≠ 1) && s.getLsbD ((viewG g).fr.getD b 0).toNat) := fun _ _ => rfl
 have e3 : ∀ w r, crM (viewG g) w r = (relM ((evsG g).getD r ⟨0, 0, 0, 0, 0⟩) && (decide (r = w) || decide (((evsG g).getD r ⟨0, 0, 0, 0, 0⟩).kind = 4) && poM (viewG g) r w)) := fun _ _ => rfl
 have e4 : ∀ b a, caM (viewG g) b a = (acqM ((evsG g).getD a ⟨0, 0, 0, 0, 0⟩) && (decide (a = b) || decide (((evsG g).getD a ⟨0, 0, 0, 0, 0⟩).kind = 4) && poM (viewG g) b a)) := fun _ _ => rfl
 rw [hVl] at q1 q2 q3 q4
 obtain ⟨L, hL⟩ : ∃ L : Nat → Nat → Nat → Nat → List (Int × Int), ∀ w b r a, L w b r a = lAll (viewG g) (nG g) w b r a := ⟨_, fun _ _ _ _ => rfl⟩
 obtain ⟨G, hG⟩ : ∃ G : List (Int × Int) → Nat, ∀ l, G l = l.length := ⟨_, fun _ => rfl⟩
 have hG0 : G [] = 0 := by rw [hG]; rfl
 have l0 : L 0 0 0 0 = [] := by rw [hL]; rfl
 have lL : ∀ w b r a, w ≤ nG g → b ≤ nG g → r ≤ nG g → a ≤ nG g → (L w b r a).length ≤ 100000000 := fun w b r a h1 h2 h3 h4 => by rw [hL]; exact lAll_len _ _ _ _ _ _ hn h1 h2 h3 h4
 have a1 : ∀ w b r a, caM (viewG g) b a = true → L w b r (a + 1) = L w b r a ++ [((r : Int), (a : Int))] := fun w b r a hc => by rw [hL, hL]; exact lAll_a1 _ _ _ _ _ _ hc
 have a0 : ∀ w b r a, ¬ caM (viewG g) b a = true → L w b r (a + 1) = L w b r a := fun w b r a hc => by rw [hL, hL]; exact lAll_a0 _ _ _ _ _ _ hc
 have r1 : ∀ w b r, crM (viewG g) w r = true → L w b (r + 1) 0 = L w b r (nG g) := fun w b r hc => by rw [hL, hL]; exact lAll_r1 _ _ _ _ _ hc
 have r0 : ∀ w b r, ¬ crM (viewG g) w r = true → L w b (r + 1) 0 = L w b r 0 := fun w b r hc => by rw [hL, hL]; exact lAll_r0 _ _ _ _ _ hc
 have b1 : ∀ w b, rdrM (viewG g) (seqM (viewG g) (nG g) w) b = true → L w (b + 1) 0 0 = L w b (nG g) 0 := fun w b hc => by rw [hL, hL]; exact lAll_b1 _ _ _ _ hc
 have b0 : ∀ w b, ¬ rdrM (viewG g) (seqM (viewG g) (nG g) w) b = true → L w (b + 1) 0 0 = L w b 0 0 := fun w b hc => by rw [hL, hL]; exact lAll_b0 _ _ _ _ hc
 have w1 : ∀ w, cwM (viewG g) w = true → L (w + 1) 0 0 0 = L w (nG g) 0 0 := fun w hc => by rw [hL, hL]; exact lAll_w1 _ _ _ hc
 have w0 : ∀ w, ¬ cwM (viewG g) w = true → L (w + 1) 0 0 0 = L w 0 0 0 := fun w hc => by rw [hL, hL]; exact lAll_w0 _ _ _ hc
 have eO : swF (viewG g) (nG g) = ofTo (nG g) (L (nG g) 0 0 0) (L (nG g) 0 0 0).length := by rw [hL]; exact (ofTo_sw (viewG g) (nG g) hn).symm
 have lN := lL (nG g) 0 0 0 (Nat.le_refl _) (Nat.zero_le _) (Nat.zero_le _) (Nat.zero_le _)
 have kO := rof_in (γ := γ) (nG g : Int) (L (nG g) 0 0 0) (by omega) (by omega) (by omega)
 rw [eO]
 clear eO hL
 generalize hS : seqM (viewG g) (nG g) = S at *
 generalize hF' : (viewG g).fr = FR at *
 generalize hP : poM (viewG g) = PO at *
 refine Pure.goL (ty := ty) ty_eq mo Tryz.func44 rfl Tryz.ntmps44 Tryz.results44 Tryz.call44 (by simp) fun P C CQ D W F E hF => ?_
 refine E.cut 4 (told 148 [(0, pW g), (2, .ptr 0 0), (3, .vs 2 fun _ => ps (L (nG g) 0 0 0))] [.box (.agg [.lit 0, .nils])]) (by kernel_rfl) (Nat.zero_le _) (fun I hI => ?_) (E.bl ?_)
 ·cbv
  repeat' (first
   |(refine ⟨fun _ h_s=>?_,fun _ h_s=>?_⟩<;>(cbv;(try simp only [nc] at *);try simp (disch:=(first|omega|(simp only [lnS];omega))) only [rdT,rdS,reduceCtorEq,trT] at h_s))
   |(refine hF ?_;intro _;clear hF)
   |(refine hF ?_;cbv;clear hF)
   |(refine ⟨fun _=>?_,?_⟩;(· ((try simp only [nc] at *);first|done|omega|exact ⟨by omega,rfl⟩|(simp (disch:=(first|omega|(simp only [lnS];omega))) only [rdT,rdS];first|done|omega|rfl|exact ⟨by omega,rfl⟩|(simp;done)|(simp;omega))|(intros;trivial)));(try (simp only [nc] at *));(try simp (disch:=(first|omega|(simp only [lnS];omega))) only [rdT,rdS]);(try cbv))
   | fail
  )
  refine E.w (AWP.ghostSlot 3 2 rfl (by omega) (E.loopSA (ι := Nat) (fun w => w ≤ (nG g)) (fun w => (nG g) - w) (fun w => [(4, .i fun _ => ((w : Nat) : Int)), (3, .sl 1 (G (L w 0 0 0)) 2 (fun _ => 0) fun _ => (L w 0 0 0).length)]) (fun w h => h.set 1 (.run (G (L w 0 0 0)) 2 fun _ => ps (L w 0 0 0))) 0 (fun _ => by first | rfl | simp) (Nat.zero_le _) ?_ fun w hw I1 hJ => ?_))
  ·cbv; simp [l0, hG0, ps, LV.of]
  cbv
  have k2 := q2 w
  have k5 := q5 w
  have kw0 := w0 w
  have kw1 := w1 w
  have ew := e1 w
  repeat' (first
   |(refine hJ (w + 1) ?_ ?_ ?_;rotate_left 1;(· ((try simp only [nc] at *);omega));(cbv;clear hJ;(try clear hF);(try simp only [nc] at *);(try simp (disch:=(first|omega|(simp only [lnS];omega))) only [rdT,rdS,anT]));rotate_left 1;(try ((try simp only [nc] at *);omega)))
   |(refine E.c (SCalls.of_le (k5 (by ((try simp only [nc] at *);omega))) ?_ ?_);(· (cbv;(try simp only [nc] at *);first|done|(simp;done)|(simp (disch:=(first|omega|(simp only [lnS];omega))) only [rdT,rdS,anT];first|done|omega|(refine ⟨?_,?_⟩<;>omega))|(simp (disch:=(first|omega|(simp only [lnS];omega))) [rdT,rdS];done)));cbv)
   |(refine E.c (SCalls.of_le (k2 (by ((try simp only [nc] at *);omega))) ?_ ?_);(· (cbv;(try simp only [nc] at *);first|done|(simp;done)|(simp (disch:=(first|omega|(simp only [lnS];omega))) only [rdT,rdS,anT];first|done|omega|(refine ⟨?_,?_⟩<;>omega))|(simp (disch:=(first|omega|(simp only [lnS];omega))) [rdT,rdS];done)));cbv)
   |(refine ⟨fun _ h_s=>?_,fun _ h_s=>?_⟩<;>(cbv;(try simp only [nc] at *);try simp (disch:=(first|omega|(simp only [lnS];omega))) only [rdT,rdS,reduceCtorEq,trT] at h_s))
   |(refine hF ?_;intro _;clear hF)
   |(refine hF ?_;cbv;clear hF)
   |(refine ⟨fun _=>?_,?_⟩;(· ((try simp only [nc] at *);first|done|omega|exact ⟨by omega,rfl⟩|(simp (disch:=(first|omega|(simp only [lnS];omega))) only [rdT,rdS];first|done|omega|rfl|exact ⟨by omega,rfl⟩|(simp;done)|(simp;omega))|(intros;trivial)));(try (simp only [nc] at *));(try simp (disch:=(first|omega|(simp only [lnS];omega))) only [rdT,rdS]);(try cbv))
   | fail
  )
  iterate 2
   ·have hc : ¬ cwM (viewG g) w = true := by
     clear kw0 kw1 w0 w1 r0 r1 b0 b1 a0 a1 lL
     rw [ew]; simp_all
    rw [kw0 hc]
    exact ⟨⟨⟨rfl, rfl⟩, by push_cast; rfl⟩, rfl, rfl⟩
  ·have hcw : cwM (viewG g) w = true := by
    clear kw0 kw1 w0 w1 r0 r1 b0 b1 a0 a1 lL
    rw [ew]; simp_all
   replace kw1 := kw1 hcw
   clear kw0 ew
   refine E.loopS (ι:=Nat) (fun b=>b≤(nG g)) (fun b=>(nG g) - b) (fun b=>[(6,.i fun _=>((b : Nat) : Int)),(3,.sl 1 (G (L w b 0 0)) 2 (fun _=>0) fun _=>(L w b 0 0).length)]) (fun b h=>h.set 1 (.run (G (L w b 0 0)) 2 fun _=>ps (L w b 0 0))) 0 (fun _=>by first|rfl|simp) (Nat.zero_le _) ?_ fun b hb I2 hI2=>?_
   ·cbv; simp
   cbv
   have k1 := q1 b
   have k6 := q6 b
   have kb0 := b0 w b
   have kb1 := b1 w b
   have eb := e2 (S w) b
   have hf1 := hfr0 b
   have hf2 := hfrl b
   repeat' (first
    |(refine hJ (w + 1) ?_ ?_ ?_;rotate_left 1;(· ((try simp only [nc] at *);omega));(cbv;clear hJ;(try clear hF);(try simp only [nc] at *);(try simp (disch:=(first|omega|(simp only [lnS];omega))) only [rdT,rdS,anT]));rotate_left 1;(try ((try simp only [nc] at *);omega)))
    |(refine hI2 (b + 1) ?_ ?_ ?_;rotate_left 1;(· ((try simp only [nc] at *);omega));(cbv;clear hI2;(try clear hF);(try simp only [nc] at *);(try simp (disch:=(first|omega|(simp only [lnS];omega))) only [rdT,rdS,anT]));rotate_left 1;(try ((try simp only [nc] at *);omega)))
    |(refine E.c (SCalls.of_le (k6 (by ((try simp only [nc] at *);omega))) ?_ ?_);(· (cbv;(try simp only [nc] at *);first|done|(simp;done)|(simp (disch:=(first|omega|(simp only [lnS];omega))) only [rdT,rdS,anT];first|done|omega|(refine ⟨?_,?_⟩<;>omega))|(simp (disch:=(first|omega|(simp only [lnS];omega))) [rdT,rdS];done)));cbv)
    |(refine E.c (SCalls.of_le (k1 (by ((try simp only [nc] at *);omega))) ?_ ?_);(· (cbv;(try simp only [nc] at *);first|done|(simp;done)|(simp (disch:=(first|omega|(simp only [lnS];omega))) only [rdT,rdS,anT];first|done|omega|(refine ⟨?_,?_⟩<;>omega))|(simp (disch:=(first|omega|(simp only [lnS];omega))) [rdT,rdS];done)));cbv)
    |(refine ⟨fun _ h_s=>?_,fun _ h_s=>?_⟩<;>(cbv;(try simp only [nc] at *);try simp (disch:=(first|omega|(simp only [lnS];omega))) only [rdT,rdS,reduceCtorEq,trT] at h_s))
    |(refine hF ?_;intro _;clear hF)
    |(refine hF ?_;cbv;clear hF)
    |(refine ⟨fun _=>?_,?_⟩;(· ((try simp only [nc] at *);first|done|omega|exact ⟨by omega,rfl⟩|(simp (disch:=(first|omega|(simp only [lnS];omega))) only [rdT,rdS];first|done|omega|rfl|exact ⟨by omega,rfl⟩|(simp;done)|(simp;omega))|(intros;trivial)));(try (simp only [nc] at *));(try simp (disch:=(first|omega|(simp only [lnS];omega))) only [rdT,rdS]);(try cbv))
    | fail
   )
   iterate 3
    ·have hc : ¬ rdrM (viewG g) (S w) b = true := by
      clear kb0 kb1 w0 w1 r0 r1 b0 b1 a0 a1 lL
      rw [eb]
      first
       | (simp_all; done)
       | (rw [bofZ (by simp_all) (by omega), mod2_bit0] at h_s; rw [Bool.and_eq_true]; rintro ⟨_, hx⟩; rw [h_s] at hx; cases hx)
     rw [kb0 hc]
     exact ⟨⟨⟨rfl, rfl⟩, by push_cast; rfl⟩, rfl, rfl⟩
   ·have hcb : rdrM (viewG g) (S w) b = true := by
     clear kb0 kb1 w0 w1 r0 r1 b0 b1 a0 a1 lL
     rw [eb]
     rw [bofZ (by simp_all) (by omega), mod2_bit0] at h_s
     simp_all
    replace kb1 := kb1 hcb
    clear kb0 eb
    refine E.loopS (ι:=Nat) (fun r=>r≤(nG g)) (fun r=>(nG g) - r) (fun r=>[(7,.i fun _=>((r : Nat) : Int)),(3,.sl 1 (G (L w b r 0)) 2 (fun _=>0) fun _=>(L w b r 0).length)]) (fun r h=>h.set 1 (.run (G (L w b r 0)) 2 fun _=>ps (L w b r 0))) 0 (fun _=>by first|rfl|simp) (Nat.zero_le _) ?_ fun r hr I3 hI3=>?_
    ·cbv; simp
    cbv
    have k4 := q4 r
    have k7 := q7 r w
    have kr0 := r0 w b r
    have kr1 := r1 w b r
    have er := e3 w r
    repeat' (first
     |(refine hI2 (b + 1) ?_ ?_ ?_;rotate_left 1;(· ((try simp only [nc] at *);omega));(cbv;clear hI2;(try clear hF);(try simp only [nc] at *);(try simp (disch:=(first|omega|(simp only [lnS];omega))) only [rdT,rdS,anT]));rotate_left 1;(try ((try simp only [nc] at *);omega)))
     |(refine hI3 (r + 1) ?_ ?_ ?_;rotate_left 1;(· ((try simp only [nc] at *);omega));(cbv;clear hI3;(try clear hF);(try simp only [nc] at *);(try simp (disch:=(first|omega|(simp only [lnS];omega))) only [rdT,rdS,anT]));rotate_left 1;(try ((try simp only [nc] at *);omega)))
     |(refine E.c (SCalls.of_le (k7 (by ((try simp only [nc] at *);omega)) (by ((try simp only [nc] at *);omega))) ?_ ?_);(· (cbv;(try simp only [nc] at *);first|done|(simp;done)|(simp (disch:=(first|omega|(simp only [lnS];omega))) only [rdT,rdS,anT];first|done|omega|(refine ⟨?_,?_⟩<;>omega))|(simp (disch:=(first|omega|(simp only [lnS];omega))) [rdT,rdS];done)));cbv)
     |(refine E.c (SCalls.of_le (k4 (by ((try simp only [nc] at *);omega))) ?_ ?_);(· (cbv;(try simp only [nc] at *);first|done|(simp;done)|(simp (disch:=(first|omega|(simp only [lnS];omega))) only [rdT,rdS,anT];first|done|omega|(refine ⟨?_,?_⟩<;>omega))|(simp (disch:=(first|omega|(simp only [lnS];omega))) [rdT,rdS];done)));cbv)
     |(refine ⟨fun _ h_s=>?_,fun _ h_s=>?_⟩<;>(cbv;(try simp only [nc] at *);try simp (disch:=(first|omega|(simp only [lnS];omega))) only [rdT,rdS,reduceCtorEq,trT] at h_s))
     |(refine hF ?_;intro _;clear hF)
     |(refine hF ?_;cbv;clear hF)
     |(refine ⟨fun _=>?_,?_⟩;(· ((try simp only [nc] at *);first|done|omega|exact ⟨by omega,rfl⟩|(simp (disch:=(first|omega|(simp only [lnS];omega))) only [rdT,rdS];first|done|omega|rfl|exact ⟨by omega,rfl⟩|(simp;done)|(simp;omega))|(intros;trivial)));(try (simp only [nc] at *));(try simp (disch:=(first|omega|(simp only [lnS];omega))) only [rdT,rdS]);(try cbv))
     | fail
    )
    have eri : ((r : Int) = w) ↔ r = w := Int.ofNat_inj
    iterate 3
     ·have hc : ¬ crM (viewG g) w r = true := by
       clear kr0 kr1 w0 w1 r0 r1 b0 b1 a0 a1 lL
       rw [er]
       first
        | (simp_all; done)
        | (simp_all; omega)
      rw [kr0 hc]
      exact ⟨⟨⟨rfl, rfl⟩, by push_cast; rfl⟩, rfl, rfl⟩
    iterate 2
     ·have hcr : crM (viewG g) w r = true := by
       clear kr0 kr1 w0 w1 r0 r1 b0 b1 a0 a1 lL
       rw [er]
       first
        | (simp_all; done)
        | (simp_all; omega)
        | (
          have e : r = w := by omega
          simp_all; done)
      replace kr1 := kr1 hcr
      clear kr0 er
      refine E.loopS (ι:=Nat) (fun a=>a≤(nG g)) (fun a=>(nG g) - a) (fun a=>[(8,.i fun _=>((a : Nat) : Int)),(3,.sl 1 (G (L w b r a)) 2 (fun _=>0) fun _=>(L w b r a).length)]) (fun a h=>h.set 1 (.run (G (L w b r a)) 2 fun _=>ps (L w b r a))) 0 (fun _=>by first|rfl|simp) (Nat.zero_le _) ?_ fun a ha I4 hI4=>?_
      ·cbv; simp
      cbv
      have k3 := q3 a
      have k7 := q7 b a
      have ka0 := a0 w b r a
      have ka1 := a1 w b r a
      have ea := e4 b a
      have d1 := lL w b r a (by omega) (by omega) (by omega) (by omega)
      skip
      repeat' (first
       |(refine hI3 (r + 1) ?_ ?_ ?_;rotate_left 1;(· ((try simp only [nc] at *);omega));(cbv;clear hI3;(try clear hF);(try simp only [nc] at *);(try simp (disch:=(first|omega|(simp only [lnS];omega))) only [rdT,rdS,anT]));rotate_left 1;(try ((try simp only [nc] at *);omega)))
       |(refine hI4 (a + 1) ?_ ?_ ?_;rotate_left 1;(· ((try simp only [nc] at *);omega));(cbv;clear hI4;(try clear hF);(try simp only [nc] at *);(try simp (disch:=(first|omega|(simp only [lnS];omega))) only [rdT,rdS,anT]));rotate_left 1;(try ((try simp only [nc] at *);omega)))
       |(refine E.c (SCalls.of_le (k7 (by ((try simp only [nc] at *);omega)) (by ((try simp only [nc] at *);omega))) ?_ ?_);(· (cbv;(try simp only [nc] at *);first|done|(simp;done)|(simp (disch:=(first|omega|(simp only [lnS];omega))) only [rdT,rdS,anT];first|done|omega|(refine ⟨?_,?_⟩<;>omega))|(simp (disch:=(first|omega|(simp only [lnS];omega))) [rdT,rdS];done)));cbv)
       |(refine E.c (SCalls.of_le (k3 (by ((try simp only [nc] at *);omega))) ?_ ?_);(· (cbv;(try simp only [nc] at *);first|done|(simp;done)|(simp (disch:=(first|omega|(simp only [lnS];omega))) only [rdT,rdS,anT];first|done|omega|(refine ⟨?_,?_⟩<;>omega))|(simp (disch:=(first|omega|(simp only [lnS];omega))) [rdT,rdS];done)));cbv)
       |(refine ⟨fun _ h_s=>?_,fun _ h_s=>?_⟩<;>(cbv;(try simp only [nc] at *);try simp (disch:=(first|omega|(simp only [lnS];omega))) only [rdT,rdS,reduceCtorEq,trT] at h_s))
       |(refine hF ?_;intro _;clear hF)
       |(refine hF ?_;cbv;clear hF)
       |(refine ⟨fun _=>?_,?_⟩;(· ((try simp only [nc] at *);first|done|omega|exact ⟨by omega,rfl⟩|(simp (disch:=(first|omega|(simp only [lnS];omega))) only [rdT,rdS];first|done|omega|rfl|exact ⟨by omega,rfl⟩|(simp;done)|(simp;omega))|(intros;trivial)|exact ⟨by first|trivial|rfl,by first|trivial|rfl|simp,by first|trivial|simp,by simp;omega,by simp;omega,by simp [AV.flat,AV.cells,AV.one]⟩));(try (simp only [nc] at *));(try simp (disch:=(first|omega|(simp only [lnS];omega))) only [rdT,rdS]);(try cbv))
       | fail
      )
      all_goals (have eai : ((a : Int) = b) ↔ a = b := Int.ofNat_inj)
      iterate 2
       ·have hc : caM (viewG g) b a = true := by
         clear ka0 ka1 w0 w1 r0 r1 b0 b1 a0 a1 lL
         rw [ea]
         first
          | (simp_all; done)
          | (simp_all; omega)
          | (
            have e : a = b := by omega
            simp_all; done)
        replace ka1 := ka1 hc
        clear w0 w1 r0 r1 b0 b1 a0 a1 lL
        rw [ka1]
        simp [hG, ps, setAll, AV.nrm]
      iterate 3
       ·have hc : ¬ caM (viewG g) b a = true := by
         clear ka0 ka1 w0 w1 r0 r1 b0 b1 a0 a1 lL
         rw [ea]
         first
          | (simp_all; done)
          | (simp_all; omega)
        rw [ka0 hc]
        exact ⟨⟨⟨rfl, rfl⟩, by push_cast; rfl⟩, rfl, rfl⟩
      ·have e : a = nG g := by ((try simp only [nc] at *); omega)
       subst e
       rw [kr1]
       exact ⟨⟨⟨rfl, rfl⟩, by push_cast; rfl⟩, rfl, rfl⟩
    ·have e : r = nG g := by ((try simp only [nc] at *); omega)
     subst e
     rw [kb1]
     exact ⟨⟨⟨rfl, rfl⟩, by push_cast; rfl⟩, rfl, rfl⟩
   ·have e : b = nG g := by ((try simp only [nc] at *); omega)
    subst e
    rw [kw1]
    exact ⟨⟨⟨rfl, rfl⟩, by push_cast; rfl⟩, rfl, rfl⟩
  ·have ew : w = nG g := by ((try simp only [nc] at *); omega)
   subst ew
   refine hI ?_
   cbv
   clear hI hJ
   simp only [List.drop_zero, nc]
   simp
   exact List.take_of_length_le (by simp)
 ·cbv
  repeat' (first
   |(refine E.c (SCalls.of_le (kO) ?_ ?_);(· (cbv;(try simp only [nc] at *);first|done|(simp;done)|(simp (disch:=(first|omega|(simp only [lnS];omega))) only [rdT,rdS,anT];first|done|omega|(refine ⟨?_,?_⟩<;>omega))|(simp (disch:=(first|omega|(simp only [lnS];omega))) [rdT,rdS];done)));cbv)
   |(refine ⟨fun _ h_s=>?_,fun _ h_s=>?_⟩<;>(cbv;(try simp only [nc] at *);try simp (disch:=(first|omega|(simp only [lnS];omega))) only [rdT,rdS,reduceCtorEq,trT] at h_s))
   |(refine hF ?_;intro _;clear hF)
   |(refine hF ?_;cbv;clear hF)
   |(refine ⟨fun _=>?_,?_⟩;(· ((try simp only [nc] at *);first|done|omega|exact ⟨by omega,rfl⟩|(simp (disch:=(first|omega|(simp only [lnS];omega))) only [rdT,rdS];first|done|omega|rfl|exact ⟨by omega,rfl⟩|(simp;done)|(simp;omega))|(intros;trivial)|exact ⟨by first|trivial|rfl,by first|trivial|rfl|simp,by first|trivial|simp,by simp;omega,by simp;omega,by simp [AV.flat,AV.cells,AV.one]⟩));(try (simp only [nc] at *));(try simp (disch:=(first|omega|(simp only [lnS];omega))) only [rdT,rdS]);(try cbv))
   | fail
  )
end Go.AL.Rl

namespace Go.AL.Rl
open Go Go.AL Go.Proofs
set_option maxRecDepth 100000
set_option maxHeartbeats 3200000
variable {γ : Nat → Option AV}

theorem ror3 (n : Nat) (a b c : List (BitVec 64)) (ha : Fits n a) (hb : Fits n b) (hc : Fits n c) : Pure Tryz.prog γ false 42 [.vs 2 fun _ => rls [((n : Int), a), ((n : Int), b), ((n : Int), c)]] (encRel n (orM n [((n : Int), a), ((n : Int), b), ((n : Int), c)])) :=
 ror_yes _ (by simp) (alike3 n a b c ha hb hc) n rfl
theorem w15All_yes (g : Gr) (hg : Rd g) (h : GOk g) : Pure Tryz.prog γ false 23 [aGr g] (.tup [aDer (nG g : Nat) (poF (viewG g) (nG g)) (rfF (viewG g) (nG g)) (coF (viewG g) (nG g)) (frF (viewG g) (nG g)) (ecoF (viewG g) (nG g)) (porfF (viewG g) (nG g)) (locF (viewG g) (nG g)) (swF (viewG g) (nG g)) (hbF (viewG g) (nG g)), .i fun _ => 0]) := by
 have hV := viewG_wf h
 have hn := hV.small
 have kl := look15_yes (γ := γ) g hg h
 have kg := wgiven_ok (γ := γ) g hg h
 have ks := wsw_ok (γ := γ) g h
 have f1 := fits_poF (viewG g) hV.small
 have f2 := fits_rfF (viewG g) hV.small
 have f3 := fits_coF (viewG g) hV.small
 have f4 := fits_frF (viewG g) hV.small
 have f6 := fits_swF (viewG g) hV.small
 have o1 := ror3 (γ := γ) (nG g) _ _ _ f2 f3 f4
 have o2 := ror2 (γ := γ) (nG g) _ _ f1 f2
 have o3 := ror2 (γ := γ) (nG g) _ _ f1 f6
 have p1 := rplus_yes (γ := γ) (nG g) _ (fits_or (by omega) (l := [((nG g : Int), rfF (viewG g) (nG g)), ((nG g : Int), coF (viewG g) (nG g)), ((nG g : Int), frF (viewG g) (nG g))]) (by simp [f2, f3, f4]))
 have p2 := rplus_yes (γ := γ) (nG g) _ (fits_or2 f1 f2)
 have p3 := rplus_yes (γ := γ) (nG g) _ (fits_or2 f1 f6)
 have c1 := wloc_ok (γ := γ) g
 have e1 : plusM (nG g) (orM (nG g) [((nG g : Int), rfF (viewG g) (nG g)), ((nG g : Int), coF (viewG g) (nG g)), ((nG g : Int), frF (viewG g) (nG g))]) = ecoF (viewG g) (nG g) := by simp [ecoF]
 have e2 : plusM (nG g) (orM (nG g) [((nG g : Int), poF (viewG g) (nG g)), ((nG g : Int), rfF (viewG g) (nG g))]) = porfF (viewG g) (nG g) := by simp [porfF]
 have e3 : plusM (nG g) (orM (nG g) [((nG g : Int), poF (viewG g) (nG g)), ((nG g : Int), swF (viewG g) (nG g))]) = hbF (viewG g) (nG g) := by simp [hbF]
 rw [e1] at p1
 rw [e2] at p2
 rw [e3] at p3
 have eL : locF (viewG g) (nG g) = relRows (nG g) (locM (viewG g)) := rfl
 rw [eL]
 clear e1 e2 e3 eL f1 f2 f3 f4 f6
 generalize locM (viewG g) = p at *
 generalize poF (viewG g) (nG g) = q1 at *
 generalize rfF (viewG g) (nG g) = q2 at *
 generalize coF (viewG g) (nG g) = q3 at *
 generalize frF (viewG g) (nG g) = q4 at *
 generalize swF (viewG g) (nG g) = q5 at *
 generalize ecoF (viewG g) (nG g) = q6 at *
 generalize porfF (viewG g) (nG g) = q7 at *
 generalize hbF (viewG g) (nG g) = q8 at *
 obtain ⟨L, hL⟩ : ∃ L : Nat → Nat → List (Int × Int), ∀ a b, L a b = prA p (nG g) a ++ prE p a b := ⟨_, fun _ _ => rfl⟩
 obtain ⟨G, hG⟩ : ∃ G : List (Int × Int) → Nat, ∀ l, G l = l.length := ⟨_, fun _ => rfl⟩
 have hG0 : G [] = 0 := by rw [hG]; rfl
 have l0 : L 0 0 = [] := by rw [hL]; rfl
 have lS : ∀ a b, L a (b + 1) = L a b ++ if p a b = true then [((a : Int), (b : Int))] else [] := fun a b => by rw [hL, hL, prE_succ]; simp only [List.append_assoc]
 have lE : ∀ a, L a (nG g) = L (a + 1) 0 := fun a => by rw [hL, hL, prA_succ]; simp [prE]
 have lL : ∀ a b, a ≤ nG g → b ≤ nG g → (L a b).length ≤ 4000 := fun a b ha hb => by
  have q1 := prA_len p (nG g) a
  have q2 := prE_len p a b
  have q3 : a * nG g ≤ 62 * 62 := Nat.mul_le_mul (by omega) hn
  rw [hL, List.length_append]; omega
 have lF : L (nG g) 0 = prA p (nG g) (nG g) := by rw [hL]; simp [prE]
 have lN := lL (nG g) 0 (Nat.le_refl _) (Nat.zero_le _)
 have kO := rof_in (γ := γ) (nG g : Int) (prA p (nG g) (nG g)) (by omega) (by omega) (by rw [← lF]; omega)
 rw [ofTo_rel (nG g) (by omega) p, ← lF] at kO
 clear hL lF
 refine Pure.goL (ty := ty) ty_eq mo Tryz.func23 rfl Tryz.ntmps23 Tryz.results23 Tryz.call23 (by simp) fun P C CQ D W F E hF => ?_
 refine E.cut 7 (told 96 [(1, .ptr 0 0), (2, .ptr 1 0), (3, .lit 0), (4, pW g), (6, .vs 2 fun _ => ps (L (nG g) 0))] [.box (aGr g), .box (.agg [.lit 0, .nils, .lit 0, .nils, .lit 0, .nils, .lit 0, .nils, .lit 0, .nils, .lit 0, .nils, .lit 0, .nils, .lit 0, .nils, .lit 0, .nils])]) (by kernel_rfl) (Nat.zero_le _) (fun I hI => ?_) (E.bl ?_)
 ·cbv
  repeat' (first
   |(refine E.c (SCalls.of_le (kl) ?_ ?_);(· (cbv;(try simp only [nc] at *);first|done|(simp;done)|(simp (disch:=(first|omega|(simp only [lnS];omega))) only [rdT,rdS,anT];first|done|omega|(refine ⟨?_,?_⟩<;>omega))|(simp (disch:=(first|omega|(simp only [lnS];omega))) [rdT,rdS];done)));cbv)
   |(refine ⟨fun _ h_s=>?_,fun _ h_s=>?_⟩<;>(cbv;(try simp only [nc] at *);try simp (disch:=(first|omega|(simp only [lnS];omega))) only [rdT,rdS,reduceCtorEq,trT] at h_s))
   |(refine hF ?_;intro _;clear hF)
   |(refine hF ?_;cbv;clear hF)
   |(refine ⟨fun _=>?_,?_⟩;(· ((try simp only [nc] at *);first|done|omega|exact ⟨by omega,rfl⟩|(simp (disch:=(first|omega|(simp only [lnS];omega))) only [rdT,rdS];first|done|omega|rfl|exact ⟨by omega,rfl⟩|(simp;done)|(simp;omega))|(intros;trivial)));(try (simp only [nc] at *));(try simp (disch:=(first|omega|(simp only [lnS];omega))) only [rdT,rdS]);(try cbv))
   | fail
  )
  refine E.w (AWP.ghostSlot 6 2 rfl (by omega) (E.loopSA (ι := Nat) (fun a => a ≤ (nG g)) (fun a => (nG g) - a) (fun a => [(7, .i fun _ => ((a : Nat) : Int)), (6, .sl 2 (G (L a 0)) 2 (fun _ => 0) fun _ => (L a 0).length)]) (fun a h => h.set 2 (.run (G (L a 0)) 2 fun _ => ps (L a 0))) 0 (fun _ => by first | rfl | simp) (Nat.zero_le _) ?_ fun a ha I1 hJ => ?_))
  ·cbv; simp [l0, hG0, ps, LV.of]
  cbv
  repeat' (first
   |(refine ⟨fun _ h_s=>?_,fun _ h_s=>?_⟩<;>(cbv;(try simp only [nc] at *);try simp (disch:=(first|omega|(simp only [lnS];omega))) only [rdT,rdS,reduceCtorEq,trT] at h_s))
   |(refine hF ?_;intro _;clear hF)
   |(refine hF ?_;cbv;clear hF)
   |(refine ⟨fun _=>?_,?_⟩;(· ((try simp only [nc] at *);first|done|omega|exact ⟨by omega,rfl⟩|(simp (disch:=(first|omega|(simp only [lnS];omega))) only [rdT,rdS];first|done|omega|rfl|exact ⟨by omega,rfl⟩|(simp;done)|(simp;omega))|(intros;trivial)));(try (simp only [nc] at *));(try simp (disch:=(first|omega|(simp only [lnS];omega))) only [rdT,rdS]);(try cbv))
   | fail
  )
  ·refine E.loopS (ι:=Nat) (fun b=>b≤(nG g)) (fun b=>(nG g) - b) (fun b=>[(8,.i fun _=>((b : Nat) : Int)),(6,.sl 2 (G (L a b)) 2 (fun _=>0) fun _=>(L a b).length)]) (fun b h=>h.set 2 (.run (G (L a b)) 2 fun _=>ps (L a b))) 0 (fun _=>by first|rfl|simp) (Nat.zero_le _) ?_ fun b hb I2 hI2=>?_
   ·cbv; simp
   cbv
   have c2 := c1 a b
   have d1 := lL a b ha hb
   have hsb := lS a b
   have hle := lE a
   skip
   repeat' (first
    |(refine hJ (a + 1) ?_ ?_ ?_;rotate_left 1;(· ((try simp only [nc] at *);omega));(cbv;clear hJ;(try clear hF);(try simp only [nc] at *);(try simp (disch:=(first|omega|(simp only [lnS];omega))) only [rdT,rdS,anT]));rotate_left 1;(try ((try simp only [nc] at *);omega)))
    |(refine hI2 (b + 1) ?_ ?_ ?_;rotate_left 1;(· ((try simp only [nc] at *);omega));(cbv;clear hI2;(try clear hF);(try simp only [nc] at *);(try simp (disch:=(first|omega|(simp only [lnS];omega))) only [rdT,rdS,anT]));rotate_left 1;(try ((try simp only [nc] at *);omega)))
    |(refine E.c (SCalls.of_le (c2 (by ((try simp only [nc] at *);omega)) (by ((try simp only [nc] at *);omega))) ?_ ?_);(· (cbv;(try simp only [nc] at *);first|done|(simp;done)|(simp (disch:=(first|omega|(simp only [lnS];omega))) only [rdT,rdS,anT];first|done|omega|(refine ⟨?_,?_⟩<;>omega))|(simp (disch:=(first|omega|(simp only [lnS];omega))) [rdT,rdS];done)));cbv)
    |(refine ⟨fun _ h_s=>?_,fun _ h_s=>?_⟩<;>(cbv;(try simp only [nc] at *);try simp (disch:=(first|omega|(simp only [lnS];omega))) only [rdT,rdS,reduceCtorEq,trT] at h_s))
    |(refine hF ?_;intro _;clear hF)
    |(refine hF ?_;cbv;clear hF)
    |(refine ⟨fun _=>?_,?_⟩;(· ((try simp only [nc] at *);first|done|omega|exact ⟨by omega,rfl⟩|(simp (disch:=(first|omega|(simp only [lnS];omega))) only [rdT,rdS];first|done|omega|rfl|exact ⟨by omega,rfl⟩|(simp;done)|(simp;omega))|(intros;trivial)|exact ⟨by first|trivial|rfl,by first|trivial|rfl|simp,by first|trivial|simp,by simp;omega,by simp;omega,by simp [AV.flat,AV.cells,AV.one]⟩));(try (simp only [nc] at *));(try simp (disch:=(first|omega|(simp only [lnS];omega))) only [rdT,rdS]);(try cbv))
    | fail
   )
   all_goals clear c1 c2 kl kg ks o1 o2 o3 p1 p2 p3 kO
   ·rw [if_pos (by assumption)] at hsb
    simp [hG, hsb, ps, setAll]
   ·rw [if_neg (by simp_all)] at hsb
    simp [hG, hsb]
   ·have e : b = nG g := by omega
    subst e
    rw [hle]
    exact ⟨⟨by push_cast; rfl, rfl, rfl⟩, rfl, rfl⟩
  ·have ea : a = nG g := by ((try simp only [nc] at *); omega)
   subst ea
   refine hI ?_
   cbv
   clear hI hJ
   simp only [List.drop_zero, nc]
   simp
   exact List.take_of_length_le (by simp)
 ·cbv
  repeat' (first
   |(refine E.c (SCalls.of_le (p3) ?_ ?_);(· (cbv;(try simp only [nc] at *);first|done|(simp;done)|(simp (disch:=(first|omega|(simp only [lnS];omega))) only [rdT,rdS,anT];first|done|omega|(refine ⟨?_,?_⟩<;>omega))|(simp (disch:=(first|omega|(simp only [lnS];omega))) [rdT,rdS];done)));cbv)
   |(refine E.c (SCalls.of_le (p2) ?_ ?_);(· (cbv;(try simp only [nc] at *);first|done|(simp;done)|(simp (disch:=(first|omega|(simp only [lnS];omega))) only [rdT,rdS,anT];first|done|omega|(refine ⟨?_,?_⟩<;>omega))|(simp (disch:=(first|omega|(simp only [lnS];omega))) [rdT,rdS];done)));cbv)
   |(refine E.c (SCalls.of_le (p1) ?_ ?_);(· (cbv;(try simp only [nc] at *);first|done|(simp;done)|(simp (disch:=(first|omega|(simp only [lnS];omega))) only [rdT,rdS,anT];first|done|omega|(refine ⟨?_,?_⟩<;>omega))|(simp (disch:=(first|omega|(simp only [lnS];omega))) [rdT,rdS];done)));cbv)
   | (refine E.c (SCalls.of_bare (o3) rfl ?_ ?_); (· (cbv; simp [rls, ps, us, is, LV.of]; done)); cbv)
   | (refine E.c (SCalls.of_le (o3) ?_ ?_); (· (cbv; simp [rls, ps, us, is, LV.of]; done)); cbv)
   | (refine E.q (QCalls.of_le (o3) ?_ ?_); (· (cbv; simp [rls, ps, us, is, LV.of]; done)); cbv)
   | (refine E.c (SCalls.of_bare (o2) rfl ?_ ?_); (· (cbv; simp [rls, ps, us, is, LV.of]; done)); cbv)
   | (refine E.c (SCalls.of_le (o2) ?_ ?_); (· (cbv; simp [rls, ps, us, is, LV.of]; done)); cbv)
   | (refine E.q (QCalls.of_le (o2) ?_ ?_); (· (cbv; simp [rls, ps, us, is, LV.of]; done)); cbv)
   | (refine E.c (SCalls.of_bare (o1) rfl ?_ ?_); (· (cbv; simp [rls, ps, us, is, LV.of]; done)); cbv)
   | (refine E.c (SCalls.of_le (o1) ?_ ?_); (· (cbv; simp [rls, ps, us, is, LV.of]; done)); cbv)
   | (refine E.q (QCalls.of_le (o1) ?_ ?_); (· (cbv; simp [rls, ps, us, is, LV.of]; done)); cbv)
   |(refine E.c (SCalls.of_le (kO) ?_ ?_);(· (cbv;(try simp only [nc] at *);first|done|(simp;done)|(simp (disch:=(first|omega|(simp only [lnS];omega))) only [rdT,rdS,anT];first|done|omega|(refine ⟨?_,?_⟩<;>omega))|(simp (disch:=(first|omega|(simp only [lnS];omega))) [rdT,rdS];done)));cbv)
   |(refine E.c (SCalls.of_le (ks) ?_ ?_);(· (cbv;(try simp only [nc] at *);first|done|(simp;done)|(simp (disch:=(first|omega|(simp only [lnS];omega))) only [rdT,rdS,anT];first|done|omega|(refine ⟨?_,?_⟩<;>omega))|(simp (disch:=(first|omega|(simp only [lnS];omega))) [rdT,rdS];done)));cbv)
   |(refine E.c (SCalls.of_le (kg) ?_ ?_);(· (cbv;(try simp only [nc] at *);first|done|(simp;done)|(simp (disch:=(first|omega|(simp only [lnS];omega))) only [rdT,rdS,anT];first|done|omega|(refine ⟨?_,?_⟩<;>omega))|(simp (disch:=(first|omega|(simp only [lnS];omega))) [rdT,rdS];done)));cbv)
   |(refine ⟨fun _ h_s=>?_,fun _ h_s=>?_⟩<;>(cbv;(try simp only [nc] at *);try simp (disch:=(first|omega|(simp only [lnS];omega))) only [rdT,rdS,reduceCtorEq,trT] at h_s))
   |(refine hF ?_;intro _;clear hF)
   |(refine hF ?_;cbv;clear hF)
   |(refine ⟨fun _=>?_,?_⟩;(· ((try simp only [nc] at *);first|done|omega|exact ⟨by omega,rfl⟩|(simp (disch:=(first|omega|(simp only [lnS];omega))) only [rdT,rdS];first|done|omega|rfl|exact ⟨by omega,rfl⟩|(simp;done)|(simp;omega))|(intros;trivial)|exact ⟨by first|trivial|rfl,by first|trivial|rfl|simp,by first|trivial|simp,by simp;omega,by simp;omega,by simp [AV.flat,AV.cells,AV.one]⟩));(try (simp only [nc] at *));(try simp (disch:=(first|omega|(simp only [lnS];omega))) only [rdT,rdS]);(try cbv))
   | fail
  )
  simp
end Go.AL.Rl

namespace Go.AL.Rl
open Go Go.AL Go.Proofs
set_option maxRecDepth 100000
set_option maxHeartbeats 3200000
variable {γ : Nat → Option AV}

def w17E (g : Gr) (i : Nat) : Ev := (evsG g).getD i ev0
def w17D (g : Gr) (i : Nat) : EId := (idsG g).getD i id0
noncomputable def raceM (g : Gr) (i k : Nat) : Bool :=
 !(decide ((w17D g i).t = 0) || decide ((w17D g k).t = 0) || decide ((w17D g i).t = (w17D g k).t) || decide ((w17E g i).kind = 4) || decide ((w17E g k).kind = 4) || decide ((w17E g i).loc ≠ (w17E g k).loc)) &&
 ((decide ((w17E g i).kind ≠ 1) || decide ((w17E g k).kind ≠ 1)) && (decide ((w17E g i).order = 1) || decide ((w17E g k).order = 1)) && !bit (hbF (viewG g) (nG g)) i k && !bit (hbF (viewG g) (nG g)) k i)
theorem w17At_ok (g : Gr) (hg : GOk g) (n : Nat) (hn : n < nG g) : Pure Tryz.prog γ false 26 [aGr g, .i fun _ => (n : Int)] (.tup [aId (w17D g n), .b fun _ => true]) := by
 have hR := rd_short hg
 have kc := count_ok (γ := γ) g hR
 unfold NG at kc
 rw [if_pos hg] at kc
 have ki := ids14_ok (γ := γ) g hg.short
 have hs := (viewG_wf hg).small
 have hl : (idsG g).length = nG g := rfl
 unfold w17D
 generalize nG g = N at *
 refine Pure.go (ty := ty) ty_eq mo Tryz.func26 rfl Tryz.ntmps26 Tryz.results26 Tryz.call26 (by simp) fun P C CQ D W F E hF => ?_
 cbv
 repeat' (first
  |((first|refine E.c (SCalls.of_le (ki) ?_ ?_)|refine E.q (QCalls.of_le (ki) ?_ ?_));(· (cbv;(try simp only [nc] at *);first|done|(simp;done)|(simp (disch:=(first|omega|(simp only [lnS];omega))) only [rdT,rdS,anT];first|done|omega|(refine ⟨?_,?_⟩<;>omega))|(simp (disch:=(first|omega|(simp only [lnS];omega))) [rdT,rdS];done)));cbv)
  |((first|refine E.c (SCalls.of_le (kc) ?_ ?_)|refine E.q (QCalls.of_le (kc) ?_ ?_));(· (cbv;(try simp only [nc] at *);first|done|(simp;done)|(simp (disch:=(first|omega|(simp only [lnS];omega))) only [rdT,rdS,anT];first|done|omega|(refine ⟨?_,?_⟩<;>omega))|(simp (disch:=(first|omega|(simp only [lnS];omega))) [rdT,rdS];done)));cbv)
  |(refine ⟨fun _ h_s=>?_,fun _ h_s=>?_⟩<;>(cbv;(try simp only [nc] at *);try simp (disch:=(first|omega|(simp only [lnS];omega))) only [rdT,rdS,reduceCtorEq,trT] at h_s))
  |(refine hF ?_;intro _;clear hF)
  |(refine hF ?_;cbv;clear hF)
  |(refine ⟨fun _=>?_,?_⟩;(· ((try simp only [nc] at *);first|done|omega|exact ⟨by omega,rfl⟩|(simp (disch:=(first|omega|(simp only [lnS];omega))) only [rdT,rdS];first|done|omega|rfl|exact ⟨by omega,rfl⟩|(simp;done)|(simp;omega))|(intros;trivial)));(try (simp only [nc] at *));(try simp (disch:=(first|omega|(simp only [lnS];omega))) only [rdT,rdS]);(try cbv))
  | fail
 )
 all_goals first
  | (exfalso; ((try simp only [nc] at *); omega))
  | (simp; done)
theorem w17Ev_ok (g : Gr) (hg : GOk g) (n : Nat) (hn : n < nG g) : Pure Tryz.prog γ false 27 [aGr g, aId (w17D g n)] (.tup [aEv (w17E g n), .b fun _ => true]) := by
 have h := rEvent_ok (γ := γ) g (rd_short hg) hg (w17D g n)
 have e : eventM g (w17D g n) = some (w17E g n) := evsG_get g n hn
 rw [e] at h
 exact h
theorem w17races_ok (g : Gr) (hg : GOk g) (i k : Nat) (hi : i < nG g) (hk : k < nG g) : Pure Tryz.prog γ false 25 [aGr g, encRel (nG g : Nat) (hbF (viewG g) (nG g)), .i fun _ => (i : Int), .i fun _ => (k : Int)] (.b fun _ => raceM g i k) := by
 have a1 := w17At_ok (γ := γ) g hg i hi
 have a2 := w17At_ok (γ := γ) g hg k hk
 have e1 := w17Ev_ok (γ := γ) g hg i hi
 have e2 := w17Ev_ok (γ := γ) g hg k hk
 have hs := (viewG_wf hg).small
 have hf : Fits (nG g) (hbF (viewG g) (nG g)) := hb_fits (viewG g) hs
 have b1 := rhas_ok (γ := γ) (nG g : Nat) (hbF (viewG g) (nG g)) i k
 have b2 := rhas_ok (γ := γ) (nG g : Nat) (hbF (viewG g) (nG g)) k i
 rw [hasM_bit hf hi hk] at b1
 rw [hasM_bit hf hk hi] at b2
 unfold raceM
 generalize hbF (viewG g) (nG g) = rows at *
 generalize bit rows i k = x1 at *
 generalize bit rows k i = x2 at *
 generalize w17D g i = d1 at *
 generalize w17D g k = d2 at *
 generalize w17E g i = v1 at *
 generalize w17E g k = v2 at *
 generalize nG g = N at *
 refine Pure.go (ty := ty) ty_eq mo Tryz.func25 rfl Tryz.ntmps25 Tryz.results25 Tryz.call25 (by simp) fun P C CQ D W F E hF => ?_
 cbv
 repeat' (first
  |((first|refine E.c (SCalls.of_le (b2) ?_ ?_)|refine E.q (QCalls.of_le (b2) ?_ ?_));(· (cbv;(try simp only [nc] at *);first|done|(simp;done)|(simp (disch:=(first|omega|(simp only [lnS];omega))) only [rdT,rdS,anT];first|done|omega|(refine ⟨?_,?_⟩<;>omega))|(simp (disch:=(first|omega|(simp only [lnS];omega))) [rdT,rdS];done)));cbv)
  |((first|refine E.c (SCalls.of_le (b1) ?_ ?_)|refine E.q (QCalls.of_le (b1) ?_ ?_));(· (cbv;(try simp only [nc] at *);first|done|(simp;done)|(simp (disch:=(first|omega|(simp only [lnS];omega))) only [rdT,rdS,anT];first|done|omega|(refine ⟨?_,?_⟩<;>omega))|(simp (disch:=(first|omega|(simp only [lnS];omega))) [rdT,rdS];done)));cbv)
  |((first|refine E.c (SCalls.of_le (e2) ?_ ?_)|refine E.q (QCalls.of_le (e2) ?_ ?_));(· (cbv;(try simp only [nc] at *);first|done|(simp;done)|(simp (disch:=(first|omega|(simp only [lnS];omega))) only [rdT,rdS,anT];first|done|omega|(refine ⟨?_,?_⟩<;>omega))|(simp (disch:=(first|omega|(simp only [lnS];omega))) [rdT,rdS];done)));cbv)
  |((first|refine E.c (SCalls.of_le (e1) ?_ ?_)|refine E.q (QCalls.of_le (e1) ?_ ?_));(· (cbv;(try simp only [nc] at *);first|done|(simp;done)|(simp (disch:=(first|omega|(simp only [lnS];omega))) only [rdT,rdS,anT];first|done|omega|(refine ⟨?_,?_⟩<;>omega))|(simp (disch:=(first|omega|(simp only [lnS];omega))) [rdT,rdS];done)));cbv)
  |((first|refine E.c (SCalls.of_le (a2) ?_ ?_)|refine E.q (QCalls.of_le (a2) ?_ ?_));(· (cbv;(try simp only [nc] at *);first|done|(simp;done)|(simp (disch:=(first|omega|(simp only [lnS];omega))) only [rdT,rdS,anT];first|done|omega|(refine ⟨?_,?_⟩<;>omega))|(simp (disch:=(first|omega|(simp only [lnS];omega))) [rdT,rdS];done)));cbv)
  |((first|refine E.c (SCalls.of_le (a1) ?_ ?_)|refine E.q (QCalls.of_le (a1) ?_ ?_));(· (cbv;(try simp only [nc] at *);first|done|(simp;done)|(simp (disch:=(first|omega|(simp only [lnS];omega))) only [rdT,rdS,anT];first|done|omega|(refine ⟨?_,?_⟩<;>omega))|(simp (disch:=(first|omega|(simp only [lnS];omega))) [rdT,rdS];done)));cbv)
  |(refine ⟨fun _ h_s=>?_,fun _ h_s=>?_⟩<;>(cbv;(try simp only [nc] at *);try simp (disch:=(first|omega|(simp only [lnS];omega))) only [rdT,rdS,reduceCtorEq,trT] at h_s))
  |(refine hF ?_;intro _;clear hF)
  |(refine hF ?_;cbv;clear hF)
  |(refine ⟨fun _=>?_,?_⟩;(· ((try simp only [nc] at *);first|done|omega|exact ⟨by omega,rfl⟩|(simp (disch:=(first|omega|(simp only [lnS];omega))) only [rdT,rdS];first|done|omega|rfl|exact ⟨by omega,rfl⟩|(simp;done)|(simp;omega))|(intros;trivial)));(try (simp only [nc] at *));(try simp (disch:=(first|omega|(simp only [lnS];omega))) only [rdT,rdS]);(try cbv))
  | fail
 )
 all_goals (try simp only [nc] at *)
 all_goals (try simp (disch:=(first|omega|(simp only [lnS];omega))) only [rdT,rdS])
 all_goals (simp_all; done)
end Go.AL.Rl

namespace Go.AL.Rl
open Go Go.AL Go.Proofs
set_option maxRecDepth 100000
set_option maxHeartbeats 1600000

structure Wke (a b : Ev) : Prop where
 kind : b.kind = a.kind
 loc : b.loc = a.loc
 rd : b.rd = a.rd
 wr : b.wr = a.wr
 ord : 1 ≤ a.order → a.order ≤ 6 → 1 ≤ b.order ∧ b.order ≤ 6
 acq : acqM b = true → acqM a = true
 rel : relM b = true → relM a = true
 na : b.order ≠ 1 → a.order ≠ 1
theorem Wke.refl (a : Ev) : Wke a a := ⟨rfl, rfl, rfl, rfl, fun h k => ⟨h, k⟩, id, id, id⟩
theorem Wke.reads {a b : Ev} (h : Wke a b) : readsM b = readsM a := by unfold readsM; rw [h.kind]
theorem Wke.writes {a b : Ev} (h : Wke a b) : writesM b = writesM a := by unfold writesM; rw [h.kind]
theorem Wke.fence {a b : Ev} (h : Wke a b) : fenceM b = fenceM a := by unfold fenceM; rw [h.kind]
structure Wk (g h : Gr) : Prop where
 init : h.init = g.init
 fr : h.fr = g.fr
 ord : h.ord = g.ord
 len : h.th.length = g.th.length
 lens : ∀ t, (h.th.getD t []).length = (g.th.getD t []).length
 evs : ∀ t i, Wke ((g.th.getD t []).getD i ev0) ((h.th.getD t []).getD i ev0)
section
variable {g h : Gr} (W : Wk g h)
include W
end
end Go.AL.Rl

namespace Go.AL.Rl
open Go Go.AL Go.Proofs
set_option maxRecDepth 100000
set_option maxHeartbeats 3200000
variable {γ : Nat → Option AV}

theorem race_init {g : Gr} {i k : Nat} (h : i < g.init.length) : raceM g i k = false := by
 have e : (w17D g i).t = 0 := by unfold w17D idsG; rw [List.getD_eq_getElem?_getD, List.getElem?_append_left (by rw [idsI_len]; exact h)]; simp [idsI, h]
 unfold raceM
 simp [e]
theorem evsG_getT {g : Gr} {k : Nat} : (evsG g).getD (g.init.length + k) ev0 = (evsT g g.th.length).getD k ev0 := by
 unfold evsG
 rw [List.getD_eq_getElem?_getD, List.getElem?_append_right (by rw [evsI_len]; omega), evsI_len, Nat.add_sub_cancel_left, ← List.getD_eq_getElem?_getD]
theorem kind_in {g : Gr} (hg : GOk g) {k : Nat} (hk : k < (idsT g g.th.length).length) : 1 ≤ (rAt (rvG g) k).kind ∧ (rAt (rvG g) k).kind ≤ 4 ∧ 1 ≤ ((rvG g).ids.getD k id0).t := by
 have h1 := evsT_get g g.th.length k (Nat.le_refl _) hk
 have hm : (idsT g g.th.length).getD k id0 ∈ idsT g g.th.length := getD_mem hk
 rw [idsT_mem] at hm
 show 1 ≤ ((evsT g g.th.length).getD k ev0).kind ∧ ((evsT g g.th.length).getD k ev0).kind ≤ 4 ∧ 1 ≤ ((idsT g g.th.length).getD k id0).t
 obtain ⟨m1, m2, m3, m4⟩ := hm
 generalize (idsT g g.th.length).getD k id0 = d at *
 unfold eventM at h1
 rw [if_neg (by omega), if_pos ⟨by omega, m2, m3, m4⟩] at h1
 have f := (hg.events (d.t - 1).toNat (by omega)).2 d.i.toNat (by omega)
 rw [Option.some.inj h1] at f
 unfold fineM at f
 simp only [Bool.and_eq_true, decide_eq_true_eq] at f
 omega
theorem race_one {g : Gr} (hg : GOk g) {a b : Nat} (ha : a < (idsT g g.th.length).length) (hb : b < (idsT g g.th.length).length) : raceM g (g.init.length + a) (g.init.length + b) = oneM (rvG g) a b := by
 have k1 := kind_in hg ha
 have k2 := kind_in hg hb
 have e1 : w17E g (g.init.length + a) = rAt (rvG g) a := evsG_getT
 have e2 : w17E g (g.init.length + b) = rAt (rvG g) b := evsG_getT
 have d1 : w17D g (g.init.length + a) = (rvG g).ids.getD a id0 := idsG_getT
 have d2 : w17D g (g.init.length + b) = (rvG g).ids.getD b id0 := idsG_getT
 have hsh : (rvG g).sh.toNat = g.init.length := Int.toNat_natCast _
 unfold raceM oneM rAhead rWr rPl
 rw [e1, e2, d1, d2, hsh, Nat.add_comm a, Nat.add_comm b]
 show (!_ && (_ && _ && !bit (rvG g).rows _ _ && !bit (rvG g).rows _ _)) = _
 generalize bit (rvG g).rows (g.init.length + a) (g.init.length + b) = x1
 generalize bit (rvG g).rows (g.init.length + b) (g.init.length + a) = x2
 generalize rAt (rvG g) a = v1 at *
 generalize rAt (rvG g) b = v2 at *
 generalize (rvG g).ids.getD a id0 = u1 at *
 generalize (rvG g).ids.getD b id0 = u2 at *
 rw [Bool.eq_iff_iff]
 simp only [Bool.and_eq_true, Bool.or_eq_true, Bool.not_eq_true', Bool.or_eq_false_iff, decide_eq_true_eq, decide_eq_false_iff_not]
 constructor
 ·rintro ⟨⟨⟨⟨⟨⟨h1, h2⟩, h3⟩, h4⟩, h5⟩, h6⟩, ⟨⟨h7, h8⟩, h9⟩, h10⟩
  exact ⟨⟨⟨h3, h4, h5⟩, h6⟩, ⟨⟨by omega, h8⟩, h9⟩, h10⟩
 ·rintro ⟨⟨⟨h3, h4, h5⟩, h6⟩, ⟨⟨h7, h8⟩, h9⟩, h10⟩
  exact ⟨⟨⟨⟨⟨⟨by omega, by omega⟩, h3⟩, h4⟩, h5⟩, h6⟩, ⟨⟨by omega, h8⟩, h9⟩, h10⟩
/-- what has been told before the pair (i, k) -/
def rqP (v : RV) (sh m i k : Nat) : List Rc := if i < sh then [] else (rpA v m (i - sh) ++ rpB v (i - sh) (k - sh)).map (rcOf v)
section
variable {g : Gr} (hg : GOk g)
include hg
theorem nG_T : nG g = g.init.length + (idsT g g.th.length).length := by
 have _h := hg
 unfold nG idsG; rw [List.length_append, idsI_len]
theorem rq_no {i k : Nat} (hk : k < nG g) (hik : i < k) (h : raceM g i k = false) : rqP (rvG g) g.init.length (idsT g g.th.length).length i (k + 1) = rqP (rvG g) g.init.length (idsT g g.th.length).length i k := by
 have hn := nG_T hg
 unfold rqP
 split
 ·rfl
 ·have hi : g.init.length + (i - g.init.length) = i := by omega
  have hk2 : g.init.length + (k - g.init.length) = k := by omega
  have h2 := race_one hg (a := i - g.init.length) (b := k - g.init.length) (by omega) (by omega)
  rw [hi, hk2, h] at h2
  rw [show k + 1 - g.init.length = (k - g.init.length) + 1 by omega]
  show (_ ++ (rpB _ _ _ ++ if _ then _ else _)).map _ = _
  rw [if_neg (fun h => by rw [← h2] at h; exact absurd h.2 (by simp)), List.append_nil]
theorem rq_yes {i k : Nat} (hk : k < nG g) (hik : i < k) (h : raceM g i k = true) : rqP (rvG g) g.init.length (idsT g g.th.length).length i (k + 1) = rqP (rvG g) g.init.length (idsT g g.th.length).length i k ++ [⟨(w17E g i).loc, w17D g i, w17D g k⟩] := by
 have hn := nG_T hg
 unfold rqP
 split
 ·rename_i hi; rw [race_init hi] at h; cases h
 ·have hi : g.init.length + (i - g.init.length) = i := by omega
  have hk2 : g.init.length + (k - g.init.length) = k := by omega
  have h2 := race_one hg (a := i - g.init.length) (b := k - g.init.length) (by omega) (by omega)
  rw [hi, hk2, h] at h2
  rw [show k + 1 - g.init.length = (k - g.init.length) + 1 by omega]
  have e1 : w17E g i = rAt (rvG g) (i - g.init.length) := by have := evsG_getT (g := g) (k := i - g.init.length); rw [hi] at this; exact this
  have d1 : w17D g i = (rvG g).ids.getD (i - g.init.length) id0 := by have := idsG_getT (g := g) (k := i - g.init.length); rw [hi] at this; exact this
  have d2 : w17D g k = (rvG g).ids.getD (k - g.init.length) id0 := by have := idsG_getT (g := g) (k := k - g.init.length); rw [hk2] at this; exact this
  show (_ ++ (rpB _ _ _ ++ if _ then _ else _)).map _ = _
  rw [if_pos ⟨by omega, h2.symm⟩, ← List.append_assoc, List.map_append, e1, d1, d2]
  rfl
theorem rq_turn {i : Nat} (hi : i < nG g) : rqP (rvG g) g.init.length (idsT g g.th.length).length (i + 1) (i + 2) = rqP (rvG g) g.init.length (idsT g g.th.length).length i (nG g) := by
 have hn := nG_T hg
 unfold rqP
 rcases Nat.lt_or_ge (i + 1) g.init.length with h1 | h1
 ·rw [if_pos h1, if_pos (by omega)]
 ·rw [if_neg (by omega)]
  have hB := rpB_low (rvG g) (i + 1 - g.init.length) (i + 2 - g.init.length) (by omega)
  rw [hB, List.append_nil]
  by_cases h2 : i < g.init.length
  ·rw [if_pos h2, show i + 1 - g.init.length = 0 by omega]; rfl
  ·rw [if_neg h2, show i + 1 - g.init.length = (i - g.init.length) + 1 by omega, show nG g - g.init.length = (idsT g g.th.length).length by omega]; rfl
theorem rq_end : rqP (rvG g) g.init.length (idsT g g.th.length).length (nG g) (nG g + 1) = racesV (rvG g) := by
 have hn := nG_T hg
 unfold rqP
 rw [if_neg (by omega), rpB_low _ _ _ (by omega), List.append_nil, show nG g - g.init.length = (idsT g g.th.length).length by omega]
 rfl
theorem rq_zero : rqP (rvG g) g.init.length (idsT g g.th.length).length 0 1 = [] := by
 have _h := hg
 unfold rqP
 split
 ·rfl
 ·rw [show 0 - g.init.length = 0 by omega, rpB_low _ _ _ (by omega)]; rfl
theorem rq_len (i k : Nat) (hi : i ≤ nG g) (hk : k ≤ nG g + 1) : (rqP (rvG g) g.init.length (idsT g g.th.length).length i k).length ≤ 8192 := by
 have hn := nG_T hg
 have hs := (viewG_wf hg).small
 unfold rqP
 split
 ·simp
 ·rw [List.length_map, List.length_append]
  have h1 := rpA_len (rvG g) (idsT g g.th.length).length (i - g.init.length)
  have h2 := rpB_len (rvG g) (i - g.init.length) (k - g.init.length)
  have h3 := Nat.mul_le_mul (show i - g.init.length ≤ 62 by omega) (show (idsT g g.th.length).length ≤ 62 by omega)
  omega
end
theorem w17All_yes (g : Gr) (hg : GOk g) : Pure Tryz.prog γ false 7 [aGr g] (.tup [.vs 5 fun _ => rcs (racesV (rvG g)), .i fun _ => 0]) := by
 have hR := rd_short hg
 have kc := check14_ok (γ := γ) g hR
 rw [gcheck0 hg] at kc
 have ka := w15All_yes (γ := γ) g hR hg
 have kn := count_ok (γ := γ) g hR
 unfold NG at kn
 rw [if_pos hg] at kn
 have hs := (viewG_wf hg).small
 have kr := fun i k hi hk => w17races_ok (γ := γ) g hg i k hi hk
 have kA := fun i hi => w17At_ok (γ := γ) g hg i hi
 have kE := fun i hi => w17Ev_ok (γ := γ) g hg i hi
 have q1 := fun i k => rq_no hg (i := i) (k := k)
 have q2 := fun i k => rq_yes hg (i := i) (k := k)
 have q3 := fun i => rq_turn hg (i := i)
 have q4 := rq_end hg
 have q5 := rq_zero hg
 have q6 := rq_len hg
 rw [← q4]
 generalize rqP (rvG g) g.init.length (idsT g g.th.length).length = L at *
 generalize raceM g = rM at *
 generalize w17D g = dM at *
 generalize w17E g = eM at *
 generalize poF (viewG g) (nG g) = r1 at *
 generalize rfF (viewG g) (nG g) = r2 at *
 generalize coF (viewG g) (nG g) = r3 at *
 generalize frF (viewG g) (nG g) = r4 at *
 generalize swF (viewG g) (nG g) = r5 at *
 generalize ecoF (viewG g) (nG g) = r6 at *
 generalize porfF (viewG g) (nG g) = r7 at *
 generalize hbF (viewG g) (nG g) = r8 at *
 generalize locF (viewG g) (nG g) = r9 at *
 generalize nG g = n at *
 obtain ⟨G, hG⟩ : ∃ G : List Rc → Nat, ∀ l, G l = l.length := ⟨_, fun _ => rfl⟩
 have hG0 : G [] = 0 := by rw [hG]; rfl
 refine Pure.go (ty := ty) ty_eq mo Tryz.func7 rfl Tryz.ntmps7 Tryz.results7 Tryz.call7 (by simp) fun P C CQ D W F E hF => ?_
 cbv
 skip
 repeat' (first
  |((first|refine E.c (SCalls.of_le (kn) ?_ ?_)|refine E.q (QCalls.of_le (kn) ?_ ?_));(· (cbv;(try simp only [nc] at *);first|done|(simp;done)|(simp (disch:=(first|omega|(simp only [lnS,rcs_len];omega))) only [rdT,rdS,rcs_len,rcs_at,anT];first|done|omega|(refine ⟨?_,?_⟩<;>omega))|(simp (disch:=(first|omega|(simp only [lnS,rcs_len];omega))) [rdT,rdS,rcs_len,rcs_at];done)));cbv)
  |(refine E.c (SCalls.of_le (ka) ?_ ?_);(· (cbv;(try simp only [nc] at *);first|done|(simp;done)|(simp (disch:=(first|omega|(simp only [lnS,rcs_len];omega))) only [rdT,rdS,rcs_len,rcs_at,anT];first|done|omega|(refine ⟨?_,?_⟩<;>omega))|(simp (disch:=(first|omega|(simp only [lnS,rcs_len];omega))) [rdT,rdS,rcs_len,rcs_at];done)));cbv)
  |(refine E.c (SCalls.of_le (kc) ?_ ?_);(· (cbv;(try simp only [nc] at *);first|done|(simp;done)|(simp (disch:=(first|omega|(simp only [lnS,rcs_len];omega))) only [rdT,rdS,rcs_len,rcs_at,anT];first|done|omega|(refine ⟨?_,?_⟩<;>omega))|(simp (disch:=(first|omega|(simp only [lnS,rcs_len];omega))) [rdT,rdS,rcs_len,rcs_at];done)));cbv)
  |(refine ⟨fun _ h_s=>?_,fun _ h_s=>?_⟩<;>(cbv;(try simp only [nc] at *);try simp (disch:=(first|omega|(simp only [lnS,rcs_len];omega))) only [rdT,rdS,rcs_len,rcs_at,reduceCtorEq,trT] at h_s))
  |(refine hF ?_;intro _;clear hF)
  |(refine hF ?_;cbv;clear hF)
  |(refine ⟨fun _=>?_,?_⟩;(· ((try simp only [nc] at *);first|done|omega|exact ⟨by omega,rfl⟩|(simp (disch:=(first|omega|(simp only [lnS,rcs_len];omega))) only [rdT,rdS,rcs_len,rcs_at];first|done|omega|rfl|exact ⟨by omega,rfl⟩|(simp;done)|(simp;omega))|(intros;trivial)));(try (simp only [nc] at *));(try simp (disch:=(first|omega|(simp only [lnS,rcs_len];omega))) only [rdT,rdS,rcs_len,rcs_at]);(try cbv))
  | fail
 )
 refine E.w (AWP.ghostSlot 8 5 rfl (by omega) (E.loopSA (ι := Nat) (fun i => i ≤ n) (fun i => n - i) (fun i => [(9, .i fun _ => ((i : Nat) : Int)), (8, .sl 3 (G (L i (i + 1))) 5 (fun _ => 0) fun _ => (L i (i + 1)).length)]) (fun i h => h.set 3 (.run (G (L i (i + 1))) 5 fun _ => rcs (L i (i + 1)))) 0 (fun _ => by first | rfl | simp) (Nat.zero_le _) ?_ fun i hi I hI => ?_))
 ·cbv; simp [q5, hG0, rcs, LV.of]
 cbv
 repeat' (first
  |(refine ⟨fun _ h_s=>?_,fun _ h_s=>?_⟩<;>(cbv;(try simp only [nc] at *);try simp (disch:=(first|omega|(simp only [lnS,rcs_len];omega))) only [rdT,rdS,rcs_len,rcs_at,reduceCtorEq,trT] at h_s))
  |(refine hF ?_;intro _;clear hF)
  |(refine hF ?_;cbv;clear hF)
  |(refine ⟨fun _=>?_,?_⟩;(· ((try simp only [nc] at *);first|done|omega|exact ⟨by omega,rfl⟩|(simp (disch:=(first|omega|(simp only [lnS,rcs_len];omega))) only [rdT,rdS,rcs_len,rcs_at];first|done|omega|rfl|exact ⟨by omega,rfl⟩|(simp;done)|(simp;omega))|(intros;trivial)));(try (simp only [nc] at *));(try simp (disch:=(first|omega|(simp only [lnS,rcs_len];omega))) only [rdT,rdS,rcs_len,rcs_at]);(try cbv))
  | fail
 )
 ·have hin : i < n := by ((try simp only [nc] at *); omega)
  have p3 := q3 i hin
  refine E.loopS (ι:=Nat) (fun k=>i + 1≤k∧k≤n) (fun k=>n - k) (fun k=>[(10,.i fun _=>((k : Nat) : Int)),(8,.sl 3 (G (L i k)) 5 (fun _=>0) fun _=>(L i k).length)]) (fun k h=>h.set 3 (.run (G (L i k)) 5 fun _=>rcs (L i k))) (i + 1) (fun _=>by first|rfl|simp) ⟨Nat.le_refl _,hin⟩ ?_ fun k hk I2 hI2=>?_
  ·cbv; simp; exact w64_of (by omega) (by omega)
  cbv
  rcases Nat.lt_or_ge k n with hkn | hkn
  ·have kr := kr i k hin hkn
   have kA1 := kA i hin
   have kA2 := kA k hkn
   have kE1 := kE i hin
   have p1 := q1 i k hkn (by omega)
   have p2 := q2 i k hkn (by omega)
   have p6 := q6 i k (by omega) (by omega)
   skip
   repeat' (first
    |(refine hI (i + 1) ?_ ?_ ?_;rotate_left 1;(· ((try simp only [nc] at *);omega));(cbv;clear hI;(try clear hF);(try simp only [nc] at *);(try simp (disch:=(first|omega|(simp only [lnS,rcs_len];omega))) only [rdT,rdS,rcs_len,rcs_at,anT]));rotate_left 1;(try ((try simp only [nc] at *);omega)))
    |(refine hI2 (k + 1) ?_ ?_ ?_;rotate_left 1;(· ((try simp only [nc] at *);omega));(cbv;clear hI2;(try clear hF);(try simp only [nc] at *);(try simp (disch:=(first|omega|(simp only [lnS,rcs_len];omega))) only [rdT,rdS,rcs_len,rcs_at,anT]));rotate_left 1;(try ((try simp only [nc] at *);omega)))
    |((first|refine E.c (SCalls.of_le (kE1) ?_ ?_)|refine E.q (QCalls.of_le (kE1) ?_ ?_));(· (cbv;(try simp only [nc] at *);first|done|(simp;done)|(simp (disch:=(first|omega|(simp only [lnS,rcs_len];omega))) only [rdT,rdS,rcs_len,rcs_at,anT];first|done|omega|(refine ⟨?_,?_⟩<;>omega))|(simp (disch:=(first|omega|(simp only [lnS,rcs_len];omega))) [rdT,rdS,rcs_len,rcs_at];done)));cbv)
    |((first|refine E.c (SCalls.of_le (kA2) ?_ ?_)|refine E.q (QCalls.of_le (kA2) ?_ ?_));(· (cbv;(try simp only [nc] at *);first|done|(simp;done)|(simp (disch:=(first|omega|(simp only [lnS,rcs_len];omega))) only [rdT,rdS,rcs_len,rcs_at,anT];first|done|omega|(refine ⟨?_,?_⟩<;>omega))|(simp (disch:=(first|omega|(simp only [lnS,rcs_len];omega))) [rdT,rdS,rcs_len,rcs_at];done)));cbv)
    |((first|refine E.c (SCalls.of_le (kA1) ?_ ?_)|refine E.q (QCalls.of_le (kA1) ?_ ?_));(· (cbv;(try simp only [nc] at *);first|done|(simp;done)|(simp (disch:=(first|omega|(simp only [lnS,rcs_len];omega))) only [rdT,rdS,rcs_len,rcs_at,anT];first|done|omega|(refine ⟨?_,?_⟩<;>omega))|(simp (disch:=(first|omega|(simp only [lnS,rcs_len];omega))) [rdT,rdS,rcs_len,rcs_at];done)));cbv)
    |((first|refine E.c (SCalls.of_le (kr) ?_ ?_)|refine E.q (QCalls.of_le (kr) ?_ ?_));(· (cbv;(try simp only [nc] at *);first|done|(simp;done)|(simp (disch:=(first|omega|(simp only [lnS,rcs_len];omega))) only [rdT,rdS,rcs_len,rcs_at,anT];first|done|omega|(refine ⟨?_,?_⟩<;>omega))|(simp (disch:=(first|omega|(simp only [lnS,rcs_len];omega))) [rdT,rdS,rcs_len,rcs_at];done)));cbv)
    |(refine ⟨fun _ h_s=>?_,fun _ h_s=>?_⟩<;>(cbv;(try simp only [nc] at *);try simp (disch:=(first|omega|(simp only [lnS,rcs_len];omega))) only [rdT,rdS,rcs_len,rcs_at,reduceCtorEq,trT] at h_s))
    |(refine hF ?_;intro _;clear hF)
    |(refine hF ?_;cbv;clear hF)
    |(refine ⟨fun _=>?_,?_⟩;(· ((try simp only [nc] at *);first|done|omega|exact ⟨by omega,rfl⟩|(simp (disch:=(first|omega|(simp only [lnS,rcs_len];omega))) only [rdT,rdS,rcs_len,rcs_at];first|done|omega|rfl|exact ⟨by omega,rfl⟩|(simp;done)|(simp;omega))|(intros;trivial)|exact ⟨by first|trivial|rfl,by first|trivial|rfl|simp,by first|trivial|simp,by simp;omega,by simp;omega,by simp [AV.flat,AV.cells,AV.one]⟩));(try (simp only [nc] at *));(try simp (disch:=(first|omega|(simp only [lnS,rcs_len];omega))) only [rdT,rdS,rcs_len,rcs_at]);(try cbv))
    | fail
   )
   ·have ho : rM i k = true := by assumption
    rw [p2 ho]
    simp [hG, rcs, aRc, setAll, AV.nrm, nrms, nrm1]
   ·have ho : rM i k = false := by assumption
    rw [p1 ho]
    exact ⟨⟨⟨rfl, rfl⟩, by push_cast; rfl⟩, rfl, rfl⟩
   ·exfalso; ((try simp only [nc] at *); omega)
  ·have e : k = n := by omega
   subst e
   repeat' (first
    |(refine hI (i + 1) ?_ ?_ ?_;rotate_left 1;(· ((try simp only [nc] at *);omega));(cbv;clear hI;(try clear hF);(try simp only [nc] at *);(try simp (disch:=(first|omega|(simp only [lnS,rcs_len];omega))) only [rdT,rdS,rcs_len,rcs_at,anT]));rotate_left 1;(try ((try simp only [nc] at *);omega)))
    |(refine ⟨fun _ h_s=>?_,fun _ h_s=>?_⟩<;>(cbv;(try simp only [nc] at *);try simp (disch:=(first|omega|(simp only [lnS,rcs_len];omega))) only [rdT,rdS,rcs_len,rcs_at,reduceCtorEq,trT] at h_s))
    |(refine hF ?_;intro _;clear hF)
    |(refine hF ?_;cbv;clear hF)
    |(refine ⟨fun _=>?_,?_⟩;(· ((try simp only [nc] at *);first|done|omega|exact ⟨by omega,rfl⟩|(simp (disch:=(first|omega|(simp only [lnS,rcs_len];omega))) only [rdT,rdS,rcs_len,rcs_at];first|done|omega|rfl|exact ⟨by omega,rfl⟩|(simp;done)|(simp;omega))|(intros;trivial)|exact ⟨by first|trivial|rfl,by first|trivial|rfl|simp,by first|trivial|simp,by simp;omega,by simp;omega,by simp [AV.flat,AV.cells,AV.one]⟩));(try (simp only [nc] at *));(try simp (disch:=(first|omega|(simp only [lnS,rcs_len];omega))) only [rdT,rdS,rcs_len,rcs_at]);(try cbv))
    | fail
   )
   all_goals first
    | (exfalso; ((try simp only [nc] at *); omega))
    | (exfalso; exact Nat.lt_irrefl _ (by assumption))
    | (exfalso; revert h_s; simp; done)
    | (rw [show i + 1 + 1 = i + 2 from rfl, p3]; exact ⟨⟨by push_cast; rfl, rfl, rfl⟩, rfl, rfl⟩)
 ·have e : i = n := by ((try simp only [nc] at *); omega)
  subst e
  simp
  exact List.take_of_length_le (by simp)
theorem w17All_no (g : Gr) (hR : Rd g) (hg : ¬ GOk g) : Pure Tryz.prog γ false 7 [aGr g] (.tup [.vs 5 fun _ => rcs [], .i fun _ => 2]) := by
 have hc : gcheckM g ≠ 0 := by unfold gcheckM; split <;> simp [hg]
 have kc := check14_ok (γ := γ) g hR
 generalize gcheckM g = c0 at *
 refine Pure.go (ty := ty) ty_eq mo Tryz.func7 rfl Tryz.ntmps7 Tryz.results7 Tryz.call7 (by simp) fun P C CQ D W F E hF => ?_
 cbv
 repeat' (first
  |(refine E.c (SCalls.of_le (kc) ?_ ?_);(· (cbv;(try simp only [nc] at *);first|done|(simp;done)|(simp (disch:=(first|omega|(simp only [lnS,rcs_len];omega))) only [rdT,rdS,rcs_len,rcs_at,anT];first|done|omega|(refine ⟨?_,?_⟩<;>omega))|(simp (disch:=(first|omega|(simp only [lnS,rcs_len];omega))) [rdT,rdS,rcs_len,rcs_at];done)));cbv)
  |(refine ⟨fun _ h_s=>?_,fun _ h_s=>?_⟩<;>(cbv;(try simp only [nc] at *);try simp (disch:=(first|omega|(simp only [lnS,rcs_len];omega))) only [rdT,rdS,rcs_len,rcs_at,reduceCtorEq,trT] at h_s))
  |(refine hF ?_;intro _;clear hF)
  |(refine hF ?_;cbv;clear hF)
  |(refine ⟨fun _=>?_,?_⟩;(· ((try simp only [nc] at *);first|done|omega|exact ⟨by omega,rfl⟩|(simp (disch:=(first|omega|(simp only [lnS,rcs_len];omega))) only [rdT,rdS,rcs_len,rcs_at];first|done|omega|rfl|exact ⟨by omega,rfl⟩|(simp;done)|(simp;omega))|(intros;trivial)|exact ⟨by first|trivial|rfl,by first|trivial|rfl|simp,by first|trivial|simp,by simp;omega,by simp;omega,by simp [AV.flat,AV.cells,AV.one]⟩));(try (simp only [nc] at *));(try simp (disch:=(first|omega|(simp only [lnS,rcs_len];omega))) only [rdT,rdS,rcs_len,rcs_at]);(try cbv))
  | fail
 )
 all_goals first | (exfalso; exact hc h_s) | (simp [rcs, LV.of, LV.l]; done) | (exfalso; ((try simp only [nc] at *); omega))
theorem w17All_any (g : Gr) (hg : Rd g) : Pure Tryz.prog γ false 7 [aGr g] (.tup [.vs 5 fun _ => rcs (racesV (rvO g)), .i fun _ => if GOk g then 0 else 2]) := by
 by_cases h : GOk g
 ·have := w17All_yes (γ := γ) g h
  unfold rvO
  simp only [if_pos h]
  exact this
 ·have kl := w17All_no (γ := γ) g hg h
  have e : racesV (rvO g) = [] := by unfold rvO; rw [if_neg h]; rfl
  simp only [if_neg h, e]
  exact kl
end Go.AL.Rl
