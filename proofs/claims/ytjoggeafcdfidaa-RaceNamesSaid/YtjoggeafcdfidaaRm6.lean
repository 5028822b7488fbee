import Derived.Test.YtjoggeafcdfidaaRm5
import Derived.Shelf.Sort.Plain
import Derived.Shelf.Slices.CompactI
import Derived.Shelf.Slices.In.SortNone
import Derived.OpenShut
import Derived.ReadAgain
import Derived.Deep.DeepHandedRow
import Derived.Lib.LaidTab
import Derived.ProofKit
import Derived.Test.YtjoggeafcdfidaaRows
set_option linter.unusedVariables false
set_option linter.unusedSimpArgs false
namespace Go.AL
open Go Go.RowKit

/-- the loop's record -/
def recOf (fn : FuncId) (t : Array Value) (ps : Array Tmp) (asg bd : Code) (D : Nat) (st : LoopState) (pe : Option Code) : Obj :=
 .loop { state := st, pending := pe, fn, tmps := t, params := ps, assign := asg, body := bd, defers := D }
theorem recOf_nc {fn : FuncId} {t : Array Value} {ps : Array Tmp} {asg bd : Code} {D : Nat} {st : LoopState} {pe : Option Code} : noCells (recOf fn t ps asg bd D st pe) := fun _ _ _ h => by cases h

section
variable {P : Program} {γ : Nat → Option AV}

theorem sets_slots {S : Nat → Prop} {w : World} {ρ : List Loc} : ∀ (ps : List Tmp) (args : List AV) (vals : List Value) (s : Tr) (t : Array Value), Rs S w (some ρ) args vals → ps.length = args.length → (∀ p ∈ ps, p < t.size ∧ p + 1 < 1024) →
  (∀ n, R S w (some ρ) (s.get n) (t.getD n Go.undef)) → ∀ n, R S w (some ρ) ((sets (ps.zip args) s).get n) (((ps.zip vals).foldl (fun t (p, v) => t.setIfInBounds p v) t).getD n Go.undef)
 | [], args, vals, s, t, _, _, _, hs, n => by simpa [sets] using hs n
 | p :: ps, args, vals, s, t, hr, hl, hp, hs, n => by
  cases args with
  | nil => simp at hl
  | cons x args =>
   obtain ⟨v, vs, rfl, h1, h2⟩ := hr
   simp only [List.zip_cons_cons, sets, List.foldl_cons]
   refine sets_slots ps args vs _ _ h2 (by simpa using hl) (fun q hq => by have := hp q (List.mem_cons_of_mem _ hq); simpa using this) (fun m => ?_) n
   obtain ⟨hp1, hp2⟩ := hp p List.mem_cons_self
   rw [Tr.get_set' 10 s p m x (by omega)]
   by_cases e : m = p
   ·subst e
    rw [if_pos rfl]
    have : (t.setIfInBounds m v).getD m Go.undef = v := by simp [Array.getD, hp1]
    rw [this]; exact h1
   ·rw [if_neg e]
    have : (t.setIfInBounds p v).getD m Go.undef = t.getD m Go.undef := by
     rw [Array.getD_eq_getD_getElem?, Array.getD_eq_getD_getElem?, Array.getElem?_setIfInBounds_ne (Ne.symm e)]
    rw [this]; exact hs m

theorem foldl_size : ∀ (l : List (Tmp × Value)) (t : Array Value), (l.foldl (fun t (p, v) => t.setIfInBounds p v) t).size = t.size
 | [], t => rfl
 | (p, v) :: l, t => by rw [List.foldl_cons, foldl_size l]; simp

/-- what a round's body must leave -/
def endQ (b l : Nat) (oB oR : Obj) (oX : Option Obj) (s : Tr) (t : Array Value) (Q : AV → List Blk → Prop) : Exit → St → Prop
 | .normal, A => A.h[b]? = some (.obj l oB s t) ∧ Q .tt (A.h.set b (.obj l oR s t))
 | .ret, A => match oX with | some oX => A.h[b]? = some (.obj l oB s t) ∧ Q .ff (A.h.set b (.obj l oX s t)) | none => False
 | _, _ => False

theorem YCall.of_body {l D b fn n0 : Nat} {s : Tr} {t : Array Value} {ps : Array Tmp} {asg bd : Code} {H : List Blk} {args : List AV} {Q : AV → List Blk → Prop} (hn : t.size = n0) (hn0 : n0 ≤ 1000) (hps : ps.toList.length = args.length) (hp : ∀ p ∈ ps.toList, p < n0)
  (hb : H[b]? = some (.obj l (recOf fn t ps asg bd D .ready none) s t))
  (h : AWPx P γ (some l) [] asg (thenE (fun A => A.h[b]? = some (.obj l (recOf fn t ps asg bd D .ready none) s t) ∧
   AWPx P γ (some l) [] bd (endQ b l (recOf fn t ps asg bd D .busy none) (recOf fn t ps asg bd D .ready none) (some (recOf fn t ps asg bd D .done (some .ret))) s t Q) ⟨A.n, A.s, A.h.set b (.obj l (recOf fn t ps asg bd D .busy none) s t)⟩) fun _ _ => False) ⟨n0, sets (ps.toList.zip args) s, H⟩) : YCall P γ l args H Q := by
 intro B S ρ w vals hh hr
 have hblt : b < ρ.length := by rw [hh.len]; exact (List.getElem?_eq_some_iff.1 hb).1
 obtain ⟨_, _, hl, hslots⟩ := hh.blk b _ _ hb (List.getElem?_eq_getElem hblt)
 have hvl := Rs_len hr
 have hy := run_yield (P := P) (args := vals.toArray) hl (by show vals.toArray.size = ps.size; simp; rw [hvl, ← hps]; simp)
 refine ⟨_, _, _, _, hy, fun n => roundIn_of_wpIn (F := Fence.wide) trivial ?_⟩
 have hz : ∀ (vs : List Value), (ps.zip vs.toArray).foldl (fun t (p, v) => t.setIfInBounds p v) t = (ps.toList.zip vs).foldl (fun t (p, v) => t.setIfInBounds p v) t := fun vs => by
  rw [← Array.foldl_toList]; simp
 have hsim : Sim B S γ ρ ⟨n0, sets (ps.toList.zip args) s, H⟩ ⟨(ps.zip vals.toArray).foldl (fun t (p, v) => t.setIfInBounds p v) t, []⟩ w := by
  refine ⟨rfl, ?_, hn0, ?_, hh⟩
  ·show ((ps.zip vals.toArray).foldl (fun t (p, v) => t.setIfInBounds p v) t).size = n0
   rw [hz, foldl_size]; exact hn
  ·intro m
   show R S w (some ρ) ((sets (ps.toList.zip args) s).get m) (((ps.zip vals.toArray).foldl (fun t (p, v) => t.setIfInBounds p v) t).getD m Go.undef)
   rw [hz]
   exact sets_slots _ _ _ _ _ hr hps (fun p hp' => ⟨by rw [hn]; exact hp p hp', by have h9 : @LT.lt Nat _ p n0 := hp p hp'; exact (by omega : @LT.lt Nat _ (@HAdd.hAdd Nat Nat Nat _ p 1) 1024)⟩) hslots m
 refine wpIn_mono (h B S ρ _ w n hsim) fun e a1 w1 ⟨a0, S1, ρ1, A1, h0, h1, hs1, hx1⟩ => ?_
 cases e with
 | normal =>
  obtain ⟨hb1, hbody⟩ := h1
  obtain ⟨hl1, hh1, hxp, _⟩ := hs1.heap.putObj (recOf fn t ps asg bd D .busy none) hb1 recOf_nc recOf_nc
  refine ⟨_, run_beginRound hl1 rfl, ?_⟩
  subst h0
  refine wpIn_mono (hbody B S1 ρ1 a0 _ n ⟨hs1.nodef, hs1.size, hs1.small, fun m => hxp.R (hs1.slot m), hh1⟩) fun e a2 w2 ⟨a3, S2, ρ2, A2, h2, h3, hs2, hx2⟩ => ?_
  have hx := (hx1.trans hxp).trans hx2
  cases e with
  | normal =>
   obtain ⟨hb2, hQ⟩ := h3
   obtain ⟨hl2, hh2, hxq, _⟩ := hs2.heap.putObj (recOf fn t ps asg bd D .ready none) hb2 recOf_nc recOf_nc
   exact ⟨_, _, run_endRound none hl2, .tt, _, S2, ρ2, _, rfl, hQ, rfl, hh2, hx.trans hxq⟩
  | ret =>
   obtain ⟨hb2, hQ⟩ := h3
   obtain ⟨hl2, hh2, hxq, _⟩ := hs2.heap.putObj (recOf fn t ps asg bd D .done (some .ret)) hb2 recOf_nc recOf_nc
   exact ⟨_, _, run_endRound (some .ret) hl2, .ff, _, S2, ρ2, _, rfl, hQ, rfl, hh2, hx.trans hxq⟩
  | _ => exact h3.elim
 | _ => exact h1.elim
end
end Go.AL

namespace Go.AL
open Go Go.RowKit

section
variable {P : Program} {γ : Nat → Option AV}

def wpInL (F : Fence) (n : Nat) (P : Program) : List Code → (Exit → Act → World → Prop) → Act → World → Prop
 | [], Q, a, w => Q .normal a w
 | c :: r, Q, a, w => c.wpIn F n P (Exit.then (fun a w => wpInL F n P r Q a w) Q) a w
theorem wpInL_mono {F : Fence} {n : Nat} : ∀ {l : List Code} {Q Q' : Exit → Act → World → Prop} {a : Act} {w : World}, (∀ e a w, Q e a w → Q' e a w) → wpInL F n P l Q a w → wpInL F n P l Q' a w
 | [], _, _, _, _, hq, h => hq _ _ _ h
 | c :: r, Q, Q', a, w, hq, h => wpIn_mono h fun e a w h' => by
  cases e with
  | normal => exact wpInL_mono hq h'
  | _ => exact hq _ _ _ h'
theorem wpInL_app {F : Fence} {n : Nat} : ∀ {xs ys : List Code} {Q : Exit → Act → World → Prop} {a : Act} {w : World}, wpInL F n P xs (Exit.then (wpInL F n P ys Q) Q) a w → wpInL F n P (xs ++ ys) Q a w
 | [], ys, Q, a, w, h => h
 | x :: xs, ys, Q, a, w, h => wpIn_mono h fun e a w h' => by
  cases e with
  | normal => exact wpInL_app h'
  | _ => exact h'
theorem wpInL_unapp {F : Fence} {n : Nat} : ∀ {xs ys : List Code} {Q : Exit → Act → World → Prop} {a : Act} {w : World}, wpInL F n P (xs ++ ys) Q a w → wpInL F n P xs (Exit.then (wpInL F n P ys Q) Q) a w
 | [], ys, Q, a, w, h => h
 | x :: xs, ys, Q, a, w, h => wpIn_mono h fun e a w h' => by
  cases e with
  | normal => exact wpInL_unapp h'
  | _ => exact h'
theorem wpInL_one {F : Fence} {n : Nat} {c : Code} {Q : Exit → Act → World → Prop} {a : Act} {w : World} (h : wpInL F n P [c] Q a w) : c.wpIn F n P Q a w := wpIn_mono h fun e a w h' => by cases e <;> exact h'
theorem wpInL_items {F : Fence} {n : Nat} : ∀ (c : Code) {Q : Exit → Act → World → Prop} {a : Act} {w : World}, wpInL F n P (citems c) Q a w → c.wpIn F n P Q a w
 | .seq x y, Q, a, w, h => wpIn_seq (wpIn_mono (wpInL_items x (wpInL_unapp h)) fun e a w h' => by
  cases e with
  | normal => exact wpInL_items y h'
  | _ => exact h')
 | .skip, _, _, _, h => wpInL_one h
 | .cond .., _, _, _, h => wpInL_one h
 | .block .., _, _, _, h => wpInL_one h
 | .exit _, _, _, _, h => wpInL_one h
 | .ret, _, _, _, h => wpInL_one h
 | .region .., _, _, _, h => wpInL_one h
 | .loop _, _, _, _, h => wpInL_one h
 | .scope _, _, _, _, h => wpInL_one h
 | .goto _, _, _, _, h => wpInL_one h
 | .label _, _, _, _, h => wpInL_one h
 | .refuse _, _, _, _, h => wpInL_one h
 | .rangeFunc .., _, _, _, h => wpInL_one h

/-- what stands ahead of the loop -/
theorem pre_sound {C : EC} {CQ : List Blk → QC} {T : Nat → TI} {D : Array Oper → (St → Prop) → St → Prop} {W : Code → (Exit → St → Prop) → St → Prop} (E : Env P γ C CQ T D W) {n : Nat} : ∀ (l : List Code) (Q : Exit → St → Prop) (A : St), vcl T γ C D W l Q A →
  ∀ B S ρ a w, Sim B S γ ρ A a w → wpInL Fence.wide n P l (fun e a' w' => ∃ S' ρ' A', Q e A' ∧ Sim B S' γ ρ' A' a' w' ∧ Ext B S ρ w S' ρ' w') a w
 | [], Q, A, h, B, S, ρ, a, w, hs => ⟨S, ρ, A, h, hs, Ext.refl _ _ _ _⟩
 | c :: r, Q, A, h, B, S, ρ, a, w, hs => wpIn_mono (wpIn_wide.2 (E.b h B S ρ a w hs)) fun e a' w' ⟨S', ρ', A', h1, h2, h3⟩ => by
  cases e with
  | normal => exact wpInL_mono (fun e a w ⟨S'', ρ'', A'', k1, k2, k3⟩ => ⟨S'', ρ'', A'', k1, k2, h3.trans k3⟩) (pre_sound E r Q A' h1 B S' ρ' a' w' h2)
  | _ => exact ⟨S', ρ', A', h1, h2, h3⟩
/-- what stands behind it -/
theorem post_sound {ty : Program → Nat → TI} (hτ : ∀ t, ty P t = tiOf P t) (hm : P.follows .mixedOrders = true) {ds : List Deferred} {n : Nat} : ∀ (l : List Code) (Q : Exit → St → Prop) (A : St), l.all noDef = true → vcl (ty P) γ (PC P γ) (Dx P γ) (fun _ _ _ => False) l Q A →
  ∀ B S ρ a w, Sim B S γ ρ A a w → wpInL Fence.wide n P l (fun e a' w' => ∃ a0 S' ρ' A', a' = df ds a0 ∧ Q e A' ∧ Sim B S' γ ρ' A' a0 w' ∧ Ext B S ρ w S' ρ' w') (df ds a) w
 | [], Q, A, _, h, B, S, ρ, a, w, hs => ⟨a, S, ρ, A, rfl, h, hs, Ext.refl _ _ _ _⟩
 | c :: r, Q, A, hl, h, B, S, ρ, a, w, hs => by
  simp only [List.all_cons, Bool.and_eq_true] at hl
  refine wpIn_mono (EnvX.to (ro := none) (ds := ds) hτ hm hl.1 h B S ρ a w n hs) fun e a' w' ⟨a0, S', ρ', A', h0, h1, h2, h3⟩ => ?_
  cases e with
  | normal =>
   subst h0
   exact wpInL_mono (fun e a w ⟨a1, S'', ρ'', A'', k0, k1, k2, k3⟩ => ⟨a1, S'', ρ'', A'', k0, k1, k2, h3.trans k3⟩) (post_sound hτ hm r Q A' hl.2 h1 B S' ρ' a0 w' h2)
  | _ => exact ⟨a0, S', ρ', A', h0, h1, h2, h3⟩

def mark (D : Nat) : Deferred := { target := .collected D, args := #[] }
def oDef : Obj := .deferred (some [])
theorem oDef_nc : noCells oDef := fun _ _ _ h => by cases h

/-- THE STATEMENT. -/
theorem rf_sound {id : Nat} {g : Operand} {ps : Array Tmp} {asg bd : Code} {A : St} {gf : Nat} {cs : List AV} (hg : A.ev γ g = .fn gf [] cs) {K : Nat → Exit → St → Prop}
  (hit : ∀ (l D fn : Nat) (t : Array Value), t.size = A.n → SCalls P γ gf (.raw (.func (.yield l) #[] #[]) :: cs) (A.h ++ [.obj D oDef .nil #[], .obj l (recOf fn t ps asg bd D .ready none) A.s t]) fun _ h' =>
   (h'[A.h.length + 1]? = some (.obj l (recOf fn t ps asg bd D .ready none) A.s t) ∧ K D .normal ⟨A.n, A.s, h'.set (A.h.length + 1) (.obj l (recOf fn t ps asg bd D .exhausted none) A.s t)⟩) ∨
   (h'[A.h.length + 1]? = some (.obj l (recOf fn t ps asg bd D .done (some .ret)) A.s t) ∧ K D .ret ⟨A.n, A.s, h'.set (A.h.length + 1) (.obj l (recOf fn t ps asg bd D .exhausted (some .ret)) A.s t)⟩))
  {B : Nat} {S : Nat → Prop} {ρ : List Loc} {a : Act} {w : World} {n : Nat} (hs : Sim B S γ ρ A a w) :
  (Code.block id (.rangeFunc g ps asg bd)).wpIn Fence.wide n P (fun e a' w' => ∃ D a0 S' ρ' A', a' = df [mark D] a0 ∧ K D e A' ∧ Sim B S' γ ρ' A' a0 w' ∧ Ext B S ρ w S' ρ' w') a w := by
 refine wpIn_block (wpIn_rangeFunc fun fn _ => ?_)
 have hgv := hs.ev g
 rw [hg] at hgv
 obtain ⟨fv, cv, hgv, hr1, hr2⟩ := hgv
 have hfv : fv = [] := by cases fv with
  | nil => rfl
  | cons x xs => exact absurd hr1 (by simp [Rs])
 subst hfv
 obtain ⟨ρ1, hh1, hx1⟩ := hs.heap.allocObj oDef oDef_nc .nil #[] fun m => rfl
 obtain ⟨ρ2, hh2, hx2⟩ := hh1.allocObj (recOf fn a.tmps ps asg bd w.heap.size .ready none) recOf_nc A.s a.tmps fun m => hx1.R (hs.slot m)
 have hx := hx1.trans hx2
 have hsz : (w.alloc oDef).heap.size = w.heap.size + 1 := World.size_alloc ..
 rw [hsz] at hh2
 have hcall := hit (w.heap.size + 1) w.heap.size fn a.tmps hs.size
 have hvals : Rs S ((w.alloc oDef).alloc (recOf fn a.tmps ps asg bd w.heap.size .ready none)) (some ρ2) (.raw (.func (.yield (w.heap.size + 1)) #[] #[]) :: cs) (.func (.yield (w.heap.size + 1)) #[] #[] :: cv) :=
  ⟨_, _, rfl, rfl, Rs.mono (fun _ h => h) hx.same (ρ := some ρ) (ρ' := some ρ2) hx.locs _ _ hr2⟩
 have hc := hcall.2 B S ρ2 _ _ (by simpa using hh2) hvals
 have hargs : (#[.func (.yield (w.heap.size + 1)) #[] #[]] : Array Value) ++ cv.toArray = (.func (.yield (w.heap.size + 1)) #[] #[] :: cv : List Value).toArray := by apply Array.toList_inj.1; simp
 refine ⟨w.heap.size + 1, [mark w.heap.size], (w.alloc oDef).alloc (recOf fn a.tmps ps asg bd w.heap.size .ready none), { target := .fn (.func gf) cv.toArray, args := #[.func (.yield (w.heap.size + 1)) #[] #[]] }, (w.alloc oDef).alloc (recOf fn a.tmps ps asg bd w.heap.size .ready none), gf, #[.func (.yield (w.heap.size + 1)) #[] #[]] ++ cv.toArray, (w.alloc oDef).alloc (recOf fn a.tmps ps asg bd w.heap.size .ready none), run_enterLoop_outer _ _ _ _ _, ?_, fun _ _ => trivial, ?_, (by intro h; cases h), ?_⟩
 ·simp only [resolve, hgv]
  simp [go_sem]
 ·simp only [invoke]
  exact hcall.1 _ _
 ·rw [hargs]
  refine callsIn_wide.2 (hc.mono fun e w3 ⟨v, h', S3, ρ3, v', he, hq, hv, hh3, hx3⟩ => ?_)
  subst he
  have hact : ({ a with defers := [mark w.heap.size] ++ a.defers } : Act) = df [mark w.heap.size] a := by
   have := hs.nodef
   unfold df; rw [this]; rfl
  rcases hq with ⟨hb, hk⟩ | ⟨hb, hk⟩
  ·obtain ⟨hl, hh4, hx4, hsl⟩ := hh3.putObj (recOf fn a.tmps ps asg bd w.heap.size .exhausted none) hb recOf_nc recOf_nc
   refine ⟨none, _, run_endLoop hl (by intro h; cases h), ?_⟩
   refine ⟨_, a, S3, ρ3, _, hact, hk, ⟨hs.nodef, hs.size, hs.small, fun m => hx4.R (hsl m), hh4⟩, (hx.trans hx3).trans hx4⟩
  ·obtain ⟨hl, hh4, hx4, hsl⟩ := hh3.putObj (recOf fn a.tmps ps asg bd w.heap.size .exhausted (some .ret)) hb recOf_nc recOf_nc
   refine ⟨some .ret, _, run_endLoop hl (by intro h; cases h), wpIn_ret ?_⟩
   refine ⟨_, a, S3, ρ3, _, hact, hk, ⟨hs.nodef, hs.size, hs.small, fun m => hx4.R (hsl m), hh4⟩, (hx.trans hx3).trans hx4⟩
end
end Go.AL

namespace Go.AL
open Go Go.RowKit

section
variable {P : Program} {γ : Nat → Option AV}

/-- what holds at the end of the body, the mark's calls taken over -/
def endF (T : Nat → TI) (rs : List ResultVar) (F : AV → List Blk → Prop) (D bD : Nat) (oD oD' : Obj) (e : Exit) (A : St) : Prop :=
 A.h[bD]? = some (.obj D oD .nil #[]) ∧ bodyQ T rs F e ⟨A.n, A.s, A.h.set bD (.obj D oD' .nil #[])⟩

/-- what the loop asks of the state that comes to it -/
def RFp (P : Program) (γ : Nat → Option AV) (T : Nat → TI) (C : EC) (D : Array Oper → (St → Prop) → St → Prop) (F : AV → List Blk → Prop) (g : Operand) (ps : Array Tmp) (asg bd : Code) (rs : List ResultVar) (post : List Code) (A : St) : Prop :=
 ∃ A' gf cs, Step γ A A' ∧ A'.ev γ g = .fn gf [] cs ∧ (ps.toList.all fun p => decide (p < A'.n)) = true ∧ ∀ (l DD : Nat) (t : Array Value) (oR oB oX oE oEX oD oD' : Obj),
  (∀ (args : List AV) (H : List Blk) (Q : AV → List Blk → Prop), ps.toList.length = args.length → H[A'.h.length + 1]? = some (.obj l oR A'.s t) →
   vc T γ C D (fun _ _ _ => False) asg (thenE (fun A1 => A1.h[A'.h.length + 1]? = some (.obj l oR A'.s t) ∧ vc T γ C D (fun _ _ _ => False) bd (endQ (A'.h.length + 1) l oB oR (some oX) A'.s t Q) ⟨A1.n, A1.s, A1.h.set (A'.h.length + 1) (.obj l oB A'.s t)⟩) fun _ _ => False) ⟨A'.n, sets (ps.toList.zip args) A'.s, H⟩ → YCall P γ l args H Q) →
  SCalls P γ gf (.raw (.func (.yield l) #[] #[]) :: cs) (A'.h ++ [.obj DD oD .nil #[], .obj l oR A'.s t]) fun _ h' =>
   (h'[A'.h.length + 1]? = some (.obj l oR A'.s t) ∧ vcl T γ C D (fun _ _ _ => False) post (endF T rs F DD A'.h.length oD oD') ⟨A'.n, A'.s, h'.set (A'.h.length + 1) (.obj l oE A'.s t)⟩) ∨
   (h'[A'.h.length + 1]? = some (.obj l oX A'.s t) ∧ endF T rs F DD A'.h.length oD oD' .ret ⟨A'.n, A'.s, h'.set (A'.h.length + 1) (.obj l oEX A'.s t)⟩)

theorem endF_run {τ : Nat → TI} (hτ : ∀ t, τ t = tiOf P t) {fn : Func} {F : AV → List Blk → Prop} {D bD : Nat} {e : Exit} {A : St} (h : endF τ fn.results.toList F D bD oDef (.deferred none) e A) {B : Nat} {S : Nat → Prop} {ρ : List Loc} {a : Act} {w : World} (hs : Sim B S γ ρ A a w) {R' : Ending → World → Prop}
  (hR : ∀ h' w' v v', F v h' → HeapR B S γ ρ h' w' → R S w' (some ρ) v v' → Ext B S ρ w S ρ w' → R' (.returned v') w') {n : Nat} : bodyPostM Fence.wide n P fn R' e (df [mark D] a) w := by
 obtain ⟨hb, hq⟩ := h
 obtain ⟨hD, hh, hx, _⟩ := hs.heap.putObj (.deferred none) hb oDef_nc fun _ _ _ h => by cases h
 have hs' : Sim B S γ ρ ⟨A.n, A.s, A.h.set bD (.obj D (.deferred none) .nil #[])⟩ a (w.putObj D (.deferred none)) := ⟨hs.nodef, hs.size, hs.small, fun m => hx.R (hs.slot m), hh⟩
 have := bodyQ_run hτ hq hs' (R' := R') fun v v' hv hr => hR _ _ v v' hv hh hr hx
 have go : (a.defers = [] ∧ ∃ v, (results fn a.tmps).run P (w.putObj D (.deferred none)) = .ok v (w.putObj D (.deferred none)) ∧ R' (.returned v) (w.putObj D (.deferred none))) → LeavesInM Fence.wide n P fn a.tmps R' (a.defers ++ [mark D]) .returning w := fun ⟨hd, v, h1, h2⟩ => by
  rw [hd]
  exact ⟨by simp, .inl ⟨D, _, rfl, run_takeDeferred hD, v, h1, h2⟩⟩
 cases e with
 | normal => exact go this
 | ret => exact go this
 | _ => exact hq.elim

/-- A CONTRACT ON DATA, of a function with a range over a function. -/
theorem Pure.goR {ty : Program → Nat → TI} (hτ : ∀ t, ty P t = tiOf P t) (hm : P.follows .mixedOrders = true) {f : FuncId} {fn : Func} {n : Nat} {rs : Array ResultVar}
  (hf : P.funcs[f]? = some fn) (hb : fn.body = some (fn.body.getD .skip)) (hn : fn.ntmps = n) (hr : fn.results = rs) (he : Enters P f) {args : List AV} {y : AV} (hsz : args.length ≤ n ∧ n < 1000)
  (k : Nat) {id : Nat} {g : Operand} {ps : Array Tmp} {asg bd : Code} {pre post : List Code} (hk : citems (fn.body.getD .skip) = pre ++ .block id (.rangeFunc g ps asg bd) :: post) (hnd : (noDef asg && noDef bd && post.all noDef) = true)
  (h : ∀ (P' : Program) (C : EC) (CQ : List Blk → QC) (D : Array Oper → (St → Prop) → St → Prop) (W : Code → (Exit → St → Prop) → St → Prop) (C2 : EC) (CQ2 : List Blk → QC) (D2 : Array Oper → (St → Prop) → St → Prop) (F : AV → List Blk → Prop) (RQ : St → Prop), Env P γ C CQ (ty P') D W → EnvX P γ C2 CQ2 (ty P') D2 →
   (∀ {v h}, fz h y v → F v h) → (∀ {A}, RFp P γ (ty P') C2 D2 F g ps asg bd rs.toList post A → RQ A) → vcl (ty P') γ C D W pre (thenE RQ (bodyQ (ty P') rs.toList F)) (start n args [])) : Pure P γ false f args y := by
 subst hn; subst hr
 simp only [Bool.and_eq_true] at hnd
 obtain ⟨⟨hnd1, hnd2⟩, hnd3⟩ := hnd
 refine ⟨he, fun S w vals hS hg hargs => callsIn_wide.1 (callsIn_of_wp_marks (F := Fence.wide) (n := 0) hf hb trivial ?_)⟩
 have hh : HeapR w.heap.size S γ [] [] w := ⟨rfl, fun b blk loc h _ => by simp at h, fun b loc K h _ => by simp at h, fun b b' loc loc' K h _ _ _ => by simp at h, hS, hg, Nat.le_refl _, fun b loc h => by simp at h⟩
 have hs0 := Sim.start hh (Rs.mono (S := S) (fun _ h => h) (fun _ _ => rfl) (ρ := none) (ρ' := some []) trivial _ _ hargs) hsz.1 hsz.2
 have E := Env.top (γ := γ) hτ hm
 have h0 := h P _ _ _ _ _ _ _ (fun v h => fz h y v) (RFp P γ (ty P) (PC P γ) (Dx P γ) (fun v h => fz h y v) g ps asg bd fn.results.toList post) E (EnvX.top hτ hm) (fun h => h) (fun h => h)
 have fin0 : ∀ h'' w'' (X : (Nat → Prop) × List Loc) v v', fz h'' y v → HeapR w.heap.size X.1 γ X.2 h'' w'' → R X.1 w'' (some X.2) v v' → Ext w.heap.size S [] w X.1 X.2 w'' → ∃ v'' S', Ending.returned v' = .returned v'' ∧ R S' w'' none y v'' ∧ ExtQ (fun k => false = false ∧ S k) w S' w'' := fun h'' w'' ⟨S', ρ'⟩ v v' hv hh2 hr h3 => by
  refine ⟨v', Froz S' ρ', rfl, fz_sound hh2 y v v' hv hr, h3.fr, h3.below, fun k hk => .inl (h3.sub k hk.2), fun k hk => ?_⟩
  rcases hk with hk | ⟨b, loc, hb, hk⟩
  ·rcases h3.grow k hk with h4 | h4
   ·exact .inl ⟨rfl, h4⟩
   ·exact .inr ⟨h4, hh2.sle k hk⟩
  ·obtain ⟨_, h5, h6⟩ := hh2.own b loc k hb hk
   exact .inr ⟨h6, h5⟩
 have fin : ∀ D bD e A S' ρ' a' w', endF (ty P) fn.results.toList (fun v h => fz h y v) D bD oDef (.deferred none) e A → Sim w.heap.size S' γ ρ' A a' w' → Ext w.heap.size S [] w S' ρ' w' →
   bodyPostM Fence.wide 0 P fn (fun e w' => ∃ v' S', e = .returned v' ∧ R S' w' none y v' ∧ ExtQ (fun k => false = false ∧ S k) w S' w') e (df [mark D] a') w' := fun D bD e A S' ρ' a' w' h1 h2 h3 => by
  exact endF_run hτ h1 h2 fun h'' w'' v v' hv hh2 hr hx => fin0 _ _ (S', ρ') v v' hv hh2 hr (h3.trans hx)
 refine wpInL_items _ ?_
 rw [hk]
 refine wpInL_app (wpInL_mono ?_ (pre_sound E _ _ _ h0 _ _ _ _ w hs0))
 rintro e a1 w1 ⟨S1, ρ1, A1, h1, hs1, hx1⟩
 cases e with
 | normal =>
  obtain ⟨A2, gf, cs, hstep, hg2, hps, hit⟩ := h1
  obtain ⟨S2, ρ2, hs2, hx2⟩ := hstep _ _ _ _ _ hs1
  have hps : ∀ p ∈ ps.toList, p < A2.n := fun p hp => by simpa using List.all_eq_true.1 hps p hp
  refine wpIn_mono (rf_sound (id := id) (K := fun D e A => match e with | .normal => vcl (ty P) γ (PC P γ) (Dx P γ) (fun _ _ _ => False) post (endF (ty P) fn.results.toList (fun v h => fz h y v) D A2.h.length oDef (.deferred none)) A | .ret => endF (ty P) fn.results.toList (fun v h => fz h y v) D A2.h.length oDef (.deferred none) .ret A | _ => False) hg2 (fun l D fn' t ht => ?_) hs2) ?_
  ·refine (hit l D t (recOf fn' t ps asg bd D .ready none) (recOf fn' t ps asg bd D .busy none) (recOf fn' t ps asg bd D .done (some .ret)) (recOf fn' t ps asg bd D .exhausted none) (recOf fn' t ps asg bd D .exhausted (some .ret)) oDef (.deferred none) fun args H Q hl hH hv => ?_).mono fun v h' h3 => h3
   refine YCall.of_body ht hs2.small hl hps hH ?_
   refine (EnvX.to (ro := some l) (ds := []) hτ hm hnd1 hv).mono fun e A' h' => ?_
   cases e with
   | normal => exact ⟨h'.1, EnvX.to (ro := some l) (ds := []) hτ hm hnd2 h'.2⟩
   | _ => exact h'.elim
  ·rintro e a3 w3 ⟨D, a4, S3, ρ3, A3, rfl, h3, hs3, hx3⟩
   have hx := (hx1.trans hx2).trans hx3
   cases e with
   | normal =>
    refine wpInL_mono ?_ (post_sound (ds := [mark D]) hτ hm post _ _ hnd3 h3 _ _ _ _ _ hs3)
    rintro e a5 w5 ⟨a6, S5, ρ5, A5, rfl, h5, hs5, hx5⟩
    exact fin _ _ _ _ _ _ _ _ h5 hs5 (hx.trans hx5)
   | ret => exact fin _ _ _ _ _ _ _ _ h3 hs3 hx
   | _ => exact h3.elim
 | ret =>
  obtain ⟨hd, v, k1, k2⟩ := bodyQ_run (R' := fun e w' => ∃ v' S', e = .returned v' ∧ R S' w' none y v' ∧ ExtQ (fun k => false = false ∧ S k) w S' w') hτ (show bodyQ (ty P) fn.results.toList (fun v h => fz h y v) .ret A1 from h1) hs1 fun v v' hv hr => fin0 _ _ (S1, ρ1) v v' hv hs1.heap hr hx1
  show LeavesInM Fence.wide 0 P fn a1.tmps _ a1.defers .returning w1
  rw [hd]
  exact ⟨v, k1, k2⟩
 | _ => exact h1.elim

def rfOf : Option Code → Nat × Operand × Array Tmp × Code × Code
 | some (.block id (.rangeFunc g ps asg bd)) => (id, g, ps, asg, bd)
 | _ => (0, .const Go.undef, #[], .skip, .skip)
def rfAt (c : Code) (k : Nat) : Nat × Operand × Array Tmp × Code × Code := rfOf (citems c)[k]?
def rfB (c : Code) (k : Nat) : Bool := match (citems c)[k]? with | some (.block _ (.rangeFunc ..)) => noDef (rfAt c k).2.2.2.1 && noDef (rfAt c k).2.2.2.2 && ((citems c).drop (k + 1)).all noDef | _ => false
theorem rf_split {c : Code} {k : Nat} (h : rfB c k = true) : citems c = (citems c).take k ++ .block (rfAt c k).1 (.rangeFunc (rfAt c k).2.1 (rfAt c k).2.2.1 (rfAt c k).2.2.2.1 (rfAt c k).2.2.2.2) :: (citems c).drop (k + 1) ∧ (noDef (rfAt c k).2.2.2.1 && noDef (rfAt c k).2.2.2.2 && ((citems c).drop (k + 1)).all noDef) = true := by
 unfold rfB at h
 split at h
 ·rename_i id g ps asg bd hk
  refine ⟨?_, h⟩
  have e : rfAt c k = (id, g, ps, asg, bd) := by unfold rfAt; rw [hk]; rfl
  rw [e]
  obtain ⟨hlt, hk⟩ := List.getElem?_eq_some_iff.1 hk
  rw [← hk, ← List.drop_eq_getElem_cons hlt, List.take_append_drop]
 ·cases h

/-- the same; the loop is the k-th item -/
theorem Pure.goK {ty : Program → Nat → TI} (hτ : ∀ t, ty P t = tiOf P t) (hm : P.follows .mixedOrders = true) {f : FuncId} {fn : Func} {n : Nat} {rs : Array ResultVar}
  (hf : P.funcs[f]? = some fn) (hb : fn.body = some (fn.body.getD .skip)) (hn : fn.ntmps = n) (hr : fn.results = rs) (he : Enters P f) {args : List AV} {y : AV} (hsz : args.length ≤ n ∧ n < 1000)
  (k : Nat) (hk : rfB (fn.body.getD .skip) k = true)
  (h : ∀ (P' : Program) (C : EC) (CQ : List Blk → QC) (D : Array Oper → (St → Prop) → St → Prop) (W : Code → (Exit → St → Prop) → St → Prop) (C2 : EC) (CQ2 : List Blk → QC) (D2 : Array Oper → (St → Prop) → St → Prop) (F : AV → List Blk → Prop) (RQ : St → Prop), Env P γ C CQ (ty P') D W → EnvX P γ C2 CQ2 (ty P') D2 →
   (∀ {v h}, fz h y v → F v h) → (∀ {A}, RFp P γ (ty P') C2 D2 F (rfAt (fn.body.getD .skip) k).2.1 (rfAt (fn.body.getD .skip) k).2.2.1 (rfAt (fn.body.getD .skip) k).2.2.2.1 (rfAt (fn.body.getD .skip) k).2.2.2.2 rs.toList ((citems (fn.body.getD .skip)).drop (k + 1)) A → RQ A) →
   vcl (ty P') γ C D W ((citems (fn.body.getD .skip)).take k) (thenE RQ (bodyQ (ty P') rs.toList F)) (start n args [])) : Pure P γ false f args y :=
 Pure.goR hτ hm hf hb hn hr he hsz k (rf_split hk).1 (rf_split hk).2 h

theorem Step.refl {A : St} : Step γ A A := fun _ S ρ _ _ hs => ⟨S, ρ, hs, Ext.refl _ _ _ _⟩
/-- a nil slice in a box gets a run -/
theorem Step.ghostBox {A : St} (b k : Nat) (hb : A.h[b]? = some (.box .nils)) : Step γ A ⟨A.n, A.s, (A.h ++ [Blk.run 0 k fun _ => .nil]).set b (.box (.sl A.h.length 0 k (fun _ => 0) fun _ => 0))⟩ := fun B S ρ a w hs => by
 obtain ⟨h1, h2⟩ := hs.heap.ghostR k
 have hlt : b < ρ.length := by rw [hs.heap.len]; exact (List.getElem?_eq_some_iff.1 hb).1
 refine ⟨S, _, ⟨hs.nodef, hs.size, hs.small, fun n => h2.R (hs.slot n), h1.retell b _ fun loc hloc => ?_⟩, h2⟩
 rw [List.getElem?_append_left hlt] at hloc
 obtain ⟨k1, K, ty, xv, k2, k3, k4, _⟩ := hs.heap.blk b _ loc hb hloc
 exact ⟨k1, K, ty, xv, k2, k3, by rw [← hs.heap.len]; exact R_ghost k k4, rfl⟩
end
end Go.AL

namespace Go.AL.Rl
open Go Go.AL Go.Proofs
set_option maxRecDepth 100000
set_option maxHeartbeats 3200000
variable {γ : Nat → Option AV}

def racesV (v : RV) : List Rc := (rpA v v.ids.length v.ids.length).map (rcOf v)
theorem rvG_wf {g : Gr} (h : GOk g) : RWf (rvG g) := by
 have hV := viewG_wf h
 have hl : (hbF (viewG g) (nG g)).length = nG g := by have := (hb_fits (viewG g) hV.small).2.2.1; omega
 have e : nG g = g.init.length + (idsT g g.th.length).length := by unfold nG idsG; simp [idsI_len]
 have h1 := hV.small
 unfold rvG
 constructor
 ·exact (idsT_len g g.th.length).symm
 ·simp only; omega
 ·simp only; omega
 ·simp only; omega
theorem vall_ok (v : RV) : Pure Try.prog γ false 29 [aRV v] (.fn 40 [] [.vp (fun _ => aRV v) 0]) := by
 unfold aRV
 refine Pure.go (ty := ty) ty_eq mo Try.func29 rfl Try.ntmps29 Try.results29 Try.call29 (by simp) fun P C CQ D W F E hF => ?_
 cbv
 repeat' (first
  |(refine ⟨fun _ h_s=>?_,fun _ h_s=>?_⟩<;>(cbv;(try simp only [nc] at *);try simp (disch:=(first|omega|(simp only [lnS];omega))) only [rdT,rdS,reduceCtorEq,trT] at h_s))
  |(refine hF ?_;intro _;clear hF)
  |(refine hF ?_;cbv;clear hF)
  |(refine ⟨fun _=>?_,?_⟩;(· ((try simp only [nc] at *);first|done|omega|exact ⟨by omega,rfl⟩|(simp (disch:=(first|omega|(simp only [lnS];omega))) only [rdT,rdS];first|done|omega|rfl|exact ⟨by omega,rfl⟩|(simp;done)|(simp;omega))|(intros;trivial)));(try (simp only [nc] at *));(try simp (disch:=(first|omega|(simp only [lnS];omega))) only [rdT,rdS]);(try cbv))
  | fail
 )
 simp
theorem rall_yes (g : Gr) (hg : Rd g) (h : GOk g) : Pure Try.prog γ false 11 [aGr g] (.tup [.vs 5 fun _ => rcs (racesV (rvG g)), .i fun _ => 0]) := by
 have kl := rlook_yes (γ := γ) g hg h
 have hw := rvG_wf h
 have hsm : (rvG g).ids.length ≤ 64 := by have := hw.big; have := hw.small; have := hw.sh; omega
 generalize rvG g = v at *
 have ka := vall_ok (γ := γ) v
 unfold aRV at kl ka
 obtain ⟨rg, hrg⟩ : ∃ rg, rg = rcs (racesV v) := ⟨_, rfl⟩
 rw [← hrg]
 refine Pure.goK (ty := ty) ty_eq mo Try.func11 rfl Try.ntmps11 Try.results11 Try.call11 (by simp) 6 (by kernel_rfl) fun P C CQ D W C2 CQ2 D2 F RQ E E2 hF hR => ?_
 cbv
 repeat' (first
  |(refine E.c (SCalls.of_le (ka) ?_ ?_);(· (cbv;(try simp only [nc] at *);first|done|(simp;done)|(simp (disch:=(first|omega|(simp only [lnS];omega))) only [rdT,rdS,anT];first|done|omega|(refine ⟨?_,?_⟩<;>omega))|(simp (disch:=(first|omega|(simp only [lnS];omega))) [rdT,rdS];done)));cbv)
  |(refine E.c (SCalls.of_le (kl) ?_ ?_);(· (cbv;(try simp only [nc] at *);first|done|(simp;done)|(simp (disch:=(first|omega|(simp only [lnS];omega))) only [rdT,rdS,anT];first|done|omega|(refine ⟨?_,?_⟩<;>omega))|(simp (disch:=(first|omega|(simp only [lnS];omega))) [rdT,rdS];done)));cbv)
  |(refine ⟨fun _ h_s=>?_,fun _ h_s=>?_⟩<;>(cbv;(try simp only [nc] at *);try simp (disch:=(first|omega|(simp only [lnS];omega))) only [rdT,rdS,reduceCtorEq,trT] at h_s))
  |(refine hF ?_;intro _;clear hF)
  |(refine hF ?_;cbv;clear hF)
  |(refine ⟨fun _=>?_,?_⟩;(· ((try simp only [nc] at *);first|done|omega|exact ⟨by omega,rfl⟩|(simp (disch:=(first|omega|(simp only [lnS];omega))) only [rdT,rdS];first|done|omega|rfl|exact ⟨by omega,rfl⟩|(simp;done)|(simp;omega))|(intros;trivial)));(try (simp only [nc] at *));(try simp (disch:=(first|omega|(simp only [lnS];omega))) only [rdT,rdS]);(try cbv))
  |(refine E.d 19 (by decide +kernel) ?_;cbv;(fail_if_success guard_target =~ False))
  | fail
 )
 obtain ⟨G, hG⟩ : ∃ G : List (Nat × Nat) → Nat, ∀ l, G l = l.length := ⟨_, fun _ => rfl⟩
 have hG0 : G [] = 0 := by rw [hG]; rfl
 have hGS : ∀ l x, G (l ++ [x]) = G l + 1 := fun l x => by rw [hG, hG]; simp
 refine hR ⟨_, _, _, Step.ghostBox 2 5 rfl, rfl, by cbv, fun l D t oR oB oX oE oEX oD oD' hY => ?_⟩
 refine SCalls.mono (h := hpA g v 0 [] l D oR oD _ t) (hG0 ▸ allA_to g v hw hsm l D oR oD _ t ?a G fun pre a b hb hab ho hp => hY _ _ _ rfl rfl ?b) fun _ h' hh' => .inl ?c
 case a => cbv; simp
 case c =>
  have e : racesV v = (rpA v v.ids.length v.ids.length).map (rcOf v) := rfl
  rw [e] at hrg
  generalize rpA v v.ids.length v.ids.length = L at *
  generalize L.map (rcOf v) = M at *
  subst hh'
  cbv
  repeat' (first
   |(refine ⟨fun _ h_s=>?_,fun _ h_s=>?_⟩<;>(cbv;(try simp only [nc] at *);try simp (disch:=(first|omega|(simp only [lnS];omega))) only [rdT,rdS,reduceCtorEq,trT] at h_s))
   |(refine hF ?_;intro _;clear hF)
   |(refine hF ?_;cbv;clear hF)
   |(refine ⟨fun _=>?_,?_⟩;(· ((try simp only [nc] at *);first|done|omega|exact ⟨by omega,rfl⟩|(simp (disch:=(first|omega|(simp only [lnS];omega))) only [rdT,rdS];first|done|omega|rfl|exact ⟨by omega,rfl⟩|(simp;done)|(simp;omega))|(intros;trivial)));(try (simp only [nc] at *));(try simp (disch:=(first|omega|(simp only [lnS];omega))) only [rdT,rdS]);(try cbv))
   |(refine E.d 19 (by decide +kernel) ?_;cbv;(fail_if_success guard_target =~ False))
   | fail
  )
  simp [hrg]
  exact List.take_of_length_le (by simp)
 case b =>
  have e1 := hw.len
  have e3 : pre.map (rcOf v) ++ [rcOf v (a, b)] = (pre ++ [(a, b)]).map (rcOf v) := by simp
  have e4 := hGS pre (a, b)
  have e5 : pre.length = (pre.map (rcOf v)).length := by simp
  have e6 : rcOf v (a, b) = ⟨(rAt v a).loc, v.ids.getD a id0, v.ids.getD b id0⟩ := rfl
  have e7 := hG pre
  rw [← e3, e4]
  rw [e5] at hp e7
  obtain ⟨P2, hP2⟩ : ∃ P2, P2 = pre.map (rcOf v) ++ [rcOf v (a, b)] := ⟨_, rfl⟩
  rw [← hP2]
  generalize pre.map (rcOf v) = Pr at *
  generalize G pre = gp at *
  cbv
  refine E2.d 19 (by decide +kernel) ?_
  cbv
  repeat' (first
   |(refine ⟨fun _ h_s=>?_,fun _ h_s=>?_⟩<;>(cbv;(try simp only [nc] at *);try simp (disch:=(first|omega|(simp only [lnS];omega))) only [rdT,rdS,reduceCtorEq,trT] at h_s))
   |(refine hF ?_;intro _;clear hF)
   |(refine hF ?_;cbv;clear hF)
   |(refine ⟨fun _=>?_,?_⟩;(· ((try simp only [nc] at *);first|done|omega|exact ⟨by omega,rfl⟩|(simp (disch:=(first|omega|(simp only [lnS];omega))) only [rdT,rdS];first|done|omega|rfl|exact ⟨by omega,rfl⟩|(simp;done)|(simp;omega))|(intros;trivial)));(try (simp only [nc] at *));(try simp (disch:=(first|omega|(simp only [lnS];omega))) only [rdT,rdS]);(try cbv))
   |(refine E.d 19 (by decide +kernel) ?_;cbv;(fail_if_success guard_target =~ False))
   | fail
  )
  refine ⟨fun _ => ⟨trivial, trivial, by simp, by simp; omega, by simp; omega, by simp [AV.flat, AV.cells, AV.one, setAll, AV.nrm, nrms, nrm1]⟩, ?_⟩
  simp [hP2, e6, rcs, aRc, setAll, AV.nrm, nrms, nrm1, rAt, ev0, id0]
end Go.AL.Rl

namespace Go.AL.Rl
open Go Go.AL Go.Proofs
set_option maxRecDepth 100000
set_option maxHeartbeats 3200000

section
variable {g : Gr} {l : List EId} (hg : GOk g) (hC : ClG g l)
include hg hC
end
end Go.AL.Rl

namespace Go.AL.Rl
open Go Go.AL Go.Proofs
set_option maxRecDepth 100000
set_option maxHeartbeats 3200000
variable {γ : Nat → Option AV}

end Go.AL.Rl

namespace Go.AL.Rl
open Go Go.AL Go.Proofs
set_option maxRecDepth 100000
set_option maxHeartbeats 3200000
variable {γ : Nat → Option AV}

theorem rone_int (v : RV) (hv : RWf v) (a b : Int) (ha : 0 ≤ a ∧ a < v.ids.length) (hb : 0 ≤ b ∧ b < v.ids.length) : Pure Try.prog γ false 33 [aRV v, .i fun _ => a, .i fun _ => b] (.b fun _ => oneM v a.toNat b.toNat) := by
 have := rone_ok (γ := γ) v hv a.toNat b.toNat (by omega) (by omega)
 rwa [Int.toNat_of_nonneg ha.1, Int.toNat_of_nonneg hb.1] at this
def btM (v : RV) (a b : EId) : Bool := decide (0 ≤ numI v.ids a) && decide (0 ≤ numI v.ids b) && oneM v (numI v.ids a).toNat (numI v.ids b).toNat
theorem Rc.ext' {a b : Rc} (h1 : a.loc = b.loc) (h2 : a.a = b.a) (h3 : a.b = b.b) : a = b := by cases a; cases b; simp_all
theorem kraces_ok (a b : List Rc) (ha : (a.length : Int) ≤ 9223372036854775807) : Pure Try.prog γ false 24 [.vs 5 fun _ => rcs a, .vs 5 fun _ => rcs b] (.b fun _ => decide (a = b)) := by
 refine Pure.go (ty := ty) ty_eq mo Try.func24 rfl Try.ntmps24 Try.results24 Try.call24 (by simp) fun P C CQ D W F E hF => ?_
 cbv
 skip
 repeat' (first
  |(refine ⟨fun _ h_s=>?_,fun _ h_s=>?_⟩<;>(cbv;(try simp only [nc] at *);try simp (disch:=(first|omega|(simp only [lnS,rcs_len];omega))) only [rdT,rdS,rcs_len,rcs_at,reduceCtorEq,trT] at h_s))
  |(refine hF ?_;intro _;clear hF)
  |(refine hF ?_;cbv;clear hF)
  |(refine ⟨fun _=>?_,?_⟩;(· ((try simp only [nc] at *);first|done|omega|exact ⟨by omega,rfl⟩|(simp (disch:=(first|omega|(simp only [lnS,rcs_len];omega))) only [rdT,rdS,rcs_len,rcs_at];first|done|omega|rfl|exact ⟨by omega,rfl⟩|(simp;done)|(simp;omega))|(intros;trivial)));(try (simp only [nc] at *));(try simp (disch:=(first|omega|(simp only [lnS,rcs_len];omega))) only [rdT,rdS,rcs_len,rcs_at]);(try cbv))
  |(refine E.d 8 (by decide +kernel) ?_;cbv;(fail_if_success guard_target =~ False))
  | fail
 )
 ·simp
  intro e; subst e; simp_all
 ·refine E.loopS (ι:=Nat) (fun i=>i≤a.length∧(∀ k < i,a.getD k rc0 = b.getD k rc0)) (fun i=>a.length - i) (fun i=>[(5,.i fun _=>((i : Nat) : Int))]) (fun i h=>h) 0 (fun _=>by first|rfl|simp) ⟨Nat.zero_le _,?_⟩ ?_ fun i hi I hI=>?_
  ·intro k hk; omega
  ·cbv; simp
  cbv
  obtain ⟨hi, hp⟩ := hi
  repeat' (first
   |(refine hI (i + 1) ?_ ?_ ?_;rotate_left 1;(· ((try simp only [nc] at *);omega));(cbv;clear hI;(try clear hF);(try simp only [nc] at *);(try simp (disch:=(first|omega|(simp only [lnS,rcs_len];omega))) only [rdT,rdS,rcs_len,rcs_at,anT]));rotate_left 1;(try ((try simp only [nc] at *);omega)))
   |(refine ⟨fun _ h_s=>?_,fun _ h_s=>?_⟩<;>(cbv;(try simp only [nc] at *);try simp (disch:=(first|omega|(simp only [lnS,rcs_len];omega))) only [rdT,rdS,rcs_len,rcs_at,reduceCtorEq,trT] at h_s))
   |(refine hF ?_;intro _;clear hF)
   |(refine hF ?_;cbv;clear hF)
   |(refine ⟨fun _=>?_,?_⟩;(· ((try simp only [nc] at *);first|done|omega|exact ⟨by omega,rfl⟩|(simp (disch:=(first|omega|(simp only [lnS,rcs_len];omega))) only [rdT,rdS,rcs_len,rcs_at];first|done|omega|rfl|exact ⟨by omega,rfl⟩|(simp;done)|(simp;omega))|(intros;trivial)));(try (simp only [nc] at *));(try simp (disch:=(first|omega|(simp only [lnS,rcs_len];omega))) only [rdT,rdS,rcs_len,rcs_at]);(try cbv))
   |(refine E.d 8 (by decide +kernel) ?_;cbv;(fail_if_success guard_target =~ False))
   | fail
  )
  ·refine decide_eq_false fun e => ?_
   subst e
   simp at h_s
  ·refine ⟨by ((try simp only [nc] at *); omega), fun k hk => ?_⟩
   rcases Nat.lt_or_ge k i with h1 | h1
   ·exact hp k h1
   ·obtain rfl : k = i := by omega
    have h2 : (a.getD k rc0).loc = (b.getD k rc0).loc ∧ (a.getD k rc0).a.t = (b.getD k rc0).a.t ∧ (a.getD k rc0).a.i = (b.getD k rc0).a.i ∧ (a.getD k rc0).b.t = (b.getD k rc0).b.t ∧ (a.getD k rc0).b.i = (b.getD k rc0).b.i := by simpa using h_s
    exact Rc.ext' h2.1 (EId.ext' h2.2.1 h2.2.2.1) (EId.ext' h2.2.2.2.1 h2.2.2.2.2)
  ·push_cast; rfl
  ·refine decide_eq_true (List.ext_getElem (by ((try simp only [nc] at *); omega)) fun k h1 h2 => ?_)
   have := hp k (by ((try simp only [nc] at *); omega))
   simpa [h1, h2] using this

def gW (o : Int) : Gr := ⟨[0, 0], [[⟨2, 1, 1, 0, 5⟩, ⟨2, 0, 4, 0, 1⟩], [⟨1, 0, o, 1, 0⟩, ⟨1, 1, 1, 5, 0⟩]], [[⟨0, 0⟩, ⟨0, 0⟩], [⟨1, 1⟩, ⟨1, 0⟩]], [[⟨1, 1⟩], [⟨1, 0⟩]]⟩
theorem example17_ok (o : Int) : Pure Try.prog γ false 22 [.i fun _ => o] (aGr (gW o)) := by
 refine Pure.go (ty := ty) ty_eq mo Try.func22 rfl Try.ntmps22 Try.results22 Try.call22 (by simp) fun P C CQ D W F E hF => ?_
 cbv
 repeat' (first
  |(refine ⟨fun _ h_s=>?_,fun _ h_s=>?_⟩<;>(cbv;(try simp only [nc] at *);try simp (disch:=(first|omega|(simp only [lnS,rcs_len];omega))) only [rdT,rdS,rcs_len,rcs_at,reduceCtorEq,trT] at h_s))
  |(refine hF ?_;intro _;clear hF)
  |(refine hF ?_;cbv;clear hF)
  |(refine ⟨fun _=>?_,?_⟩;(· ((try simp only [nc] at *);first|done|omega|exact ⟨by omega,rfl⟩|(simp (disch:=(first|omega|(simp only [lnS,rcs_len];omega))) only [rdT,rdS,rcs_len,rcs_at];first|done|omega|rfl|exact ⟨by omega,rfl⟩|(simp;done)|(simp;omega))|(intros;trivial)));(try (simp only [nc] at *));(try simp (disch:=(first|omega|(simp only [lnS,rcs_len];omega))) only [rdT,rdS,rcs_len,rcs_at]);(try cbv))
  | fail
 )
theorem rdW (o : Int) : Rd (gW o) := by
 refine ⟨by simp [gW], by simp [gW], by simp [gW], by simp [gW], ?_, ?_, ?_⟩ <;> simp [gW]
theorem gW3 : GOk (gW 3) := by decide +kernel
theorem gW2 : GOk (gW 2) := by decide +kernel
def vW (o : Int) : Vw := ⟨[⟨0, 0⟩, ⟨0, 1⟩, ⟨1, 0⟩, ⟨1, 1⟩, ⟨2, 0⟩, ⟨2, 1⟩], [⟨2, 0, 1, 0, 0⟩, ⟨2, 1, 1, 0, 0⟩, ⟨2, 1, 1, 0, 5⟩, ⟨2, 0, 4, 0, 1⟩, ⟨1, 0, o, 1, 0⟩, ⟨1, 1, 1, 5, 0⟩], [-1, -1, -1, -1, 3, 2], [0, 0, 1, 1, -1, -1]⟩
theorem gW3v : viewG (gW 3) = vW 3 := by
 unfold viewG vW
 simp only [Vw.mk.injEq]
 decide +kernel
theorem gW2v : viewG (gW 2) = vW 2 := by
 unfold viewG vW
 simp only [Vw.mk.injEq]
 decide +kernel
theorem nGW (o : Int) : nG (gW o) = 6 := rfl
theorem races3 : racesV (rvG (gW 3)) = [] := by
 unfold rvG
 rw [gW3v, nGW]
 unfold hbF
 rw [swC_eq (by omega) (by decide +kernel)]
 decide +kernel
theorem races2 : racesV (rvG (gW 2)) = [⟨1, ⟨1, 0⟩, ⟨2, 1⟩⟩] := by
 unfold rvG
 rw [gW2v, nGW]
 unfold hbF
 rw [swC_eq (by omega) (by decide +kernel)]
 decide +kernel
theorem lives17_ok : Pure Try.prog γ false 8 [] (.b fun _ => true) := by
 have k1 := example17_ok (γ := γ) 3
 have k2 := example17_ok (γ := γ) 2
 have k3 := rall_yes (γ := γ) (gW 3) (rdW 3) gW3
 have k4 := rall_yes (γ := γ) (gW 2) (rdW 2) gW2
 have k5 := kraces_ok (γ := γ) [⟨1, ⟨1, 0⟩, ⟨2, 1⟩⟩] [⟨1, ⟨1, 0⟩, ⟨2, 1⟩⟩] (by simp)
 rw [races3] at k3
 rw [races2] at k4
 generalize gW 3 = g3 at *
 generalize gW 2 = g2 at *
 refine Pure.go (ty := ty) ty_eq mo Try.func8 rfl Try.ntmps8 Try.results8 Try.call8 (by simp) fun P C CQ D W F E hF => ?_
 cbv
 skip
 repeat' (first
  | (refine E.c (SCalls.of_le k5 (by cbv; simp [rcs, setAll, AV.nrm, nrms, nrm1]) ?_); cbv)
  |(refine E.c (SCalls.of_le (k4) ?_ ?_);(· (cbv;(try simp only [nc] at *);first|done|(simp;done)|(simp (disch:=(first|omega|(simp only [lnS,rcs_len,rcs_len];omega))) only [rdT,rdS,rcs_len,rcs_at,rcs_len,anT];first|done|omega|(refine ⟨?_,?_⟩<;>omega))|(simp (disch:=(first|omega|(simp only [lnS,rcs_len,rcs_len];omega))) [rdT,rdS,rcs_len,rcs_at,rcs_len];done)));cbv)
  |(refine E.c (SCalls.of_le (k3) ?_ ?_);(· (cbv;(try simp only [nc] at *);first|done|(simp;done)|(simp (disch:=(first|omega|(simp only [lnS,rcs_len,rcs_len];omega))) only [rdT,rdS,rcs_len,rcs_at,rcs_len,anT];first|done|omega|(refine ⟨?_,?_⟩<;>omega))|(simp (disch:=(first|omega|(simp only [lnS,rcs_len,rcs_len];omega))) [rdT,rdS,rcs_len,rcs_at,rcs_len];done)));cbv)
  |(refine E.c (SCalls.of_le (k2) ?_ ?_);(· (cbv;(try simp only [nc] at *);first|done|(simp;done)|(simp (disch:=(first|omega|(simp only [lnS,rcs_len,rcs_len];omega))) only [rdT,rdS,rcs_len,rcs_at,rcs_len,anT];first|done|omega|(refine ⟨?_,?_⟩<;>omega))|(simp (disch:=(first|omega|(simp only [lnS,rcs_len,rcs_len];omega))) [rdT,rdS,rcs_len,rcs_at,rcs_len];done)));cbv)
  |(refine E.c (SCalls.of_le (k1) ?_ ?_);(· (cbv;(try simp only [nc] at *);first|done|(simp;done)|(simp (disch:=(first|omega|(simp only [lnS,rcs_len,rcs_len];omega))) only [rdT,rdS,rcs_len,rcs_at,rcs_len,anT];first|done|omega|(refine ⟨?_,?_⟩<;>omega))|(simp (disch:=(first|omega|(simp only [lnS,rcs_len,rcs_len];omega))) [rdT,rdS,rcs_len,rcs_at,rcs_len];done)));cbv)
  |(refine ⟨fun _ h_s=>?_,fun _ h_s=>?_⟩<;>(cbv;(try simp only [nc] at *);try simp (disch:=(first|omega|(simp only [lnS,rcs_len,rcs_len];omega))) only [rdT,rdS,rcs_len,rcs_at,rcs_len,reduceCtorEq,trT] at h_s))
  |(refine hF ?_;intro _;clear hF)
  |(refine hF ?_;cbv;clear hF)
  |(refine ⟨fun _=>?_,?_⟩;(· ((try simp only [nc] at *);first|done|omega|exact ⟨by omega,rfl⟩|(simp (disch:=(first|omega|(simp only [lnS,rcs_len,rcs_len];omega))) only [rdT,rdS,rcs_len,rcs_at,rcs_len];first|done|omega|rfl|exact ⟨by omega,rfl⟩|(simp;done)|(simp;omega))|(intros;trivial)));(try (simp only [nc] at *));(try simp (disch:=(first|omega|(simp only [lnS,rcs_len,rcs_len];omega))) only [rdT,rdS,rcs_len,rcs_at,rcs_len]);(try cbv))
  | fail
 )
 all_goals (try simp only [nc] at *)
 all_goals (try simp (disch:=(first|omega|(simp only [lnS,rcs_len,rcs_len];omega))) only [rdT,rdS,rcs_len,rcs_at,rcs_len])
 all_goals simp_all
end Go.AL.Rl

namespace Go.AL.Rl
open Go Go.AL Go.Proofs
set_option maxRecDepth 100000
set_option maxHeartbeats 3200000
variable {γ : Nat → Option AV}

end Go.AL.Rl

namespace Go.AL.Rl
open Go Go.AL Go.Proofs
set_option maxRecDepth 100000
set_option maxHeartbeats 3200000
variable {γ : Nat → Option AV}

/-- an event behind a thread's others, from where it reads -/
def addS (g : Gr) (t : Nat) (e : Ev) (d : EId) : Gr := ⟨g.init, g.th.set t (g.th.getD t [] ++ [e]), g.fr.set t (g.fr.getD t [] ++ [d]), g.ord⟩
/-- where it stands among the writes -/
def addO (g : Gr) (t : Nat) (e : Ev) (p : Int) : List EId := (g.ord.getD e.loc.toNat []).take (p - 1).toNat ++ [⟨(t : Int) + 1, ((g.th.getD t []).length : Int)⟩] ++ (g.ord.getD e.loc.toNat []).drop (p - 1).toNat
def addG (g : Gr) (t : Nat) (e : Ev) (d : EId) (p : Int) : Gr := ⟨g.init, (addS g t e d).th, (addS g t e d).fr, if writesM e = true then g.ord.set e.loc.toNat (addO g t e p) else g.ord⟩
def addC (g : Gr) (t : Nat) (e : Ev) (d : EId) (p : Int) : Prop := fineM g.init.length e = true ∧ (if writesM e = true then 1 ≤ p ∧ p ≤ ((g.ord.getD e.loc.toNat []).length : Nat) + 1 else p = 0) ∧ GOk (addG g t e d p)
instance (g : Gr) (t : Nat) (e : Ev) (d : EId) (p : Int) : Decidable (addC g t e d p) := inferInstanceAs (Decidable (_ ∧ _))
end Go.AL.Rl

namespace Go.AL.Rl
open Go Go.AL Go.Proofs
set_option maxRecDepth 100000
set_option maxHeartbeats 3200000
variable {γ : Nat → Option AV}

end Go.AL.Rl

namespace Go.AL.Rl
open Go Go.AL Go.Proofs
set_option maxRecDepth 100000
set_option maxHeartbeats 1600000

structure Tail (V U : Vw) (n m : Nat) (f : Nat → Nat) (N : Nat) : Prop where
 cov : ∀ a < m, (∃ i < n, a = f i) ∨ a = N
 nim : ∀ i < n, f i ≠ N
 po : ∀ b < m, poM U N b = false
 rf : ∀ b < m, U.fr.getD b 0 ≠ (N : Nat)
 frn : ∀ i < n, V.fr.getD i 0 < 0 → U.fr.getD (f i) 0 < 0
 pln : ∀ i < n, 0 ≤ U.pl.getD (f i) 0 → 0 ≤ V.pl.getD i 0
 plu : ∀ i < n, ∀ j < n, nearM V i j = true → 0 ≤ V.pl.getD i 0 → V.pl.getD i 0 = V.pl.getD j 0 → i = j
 plh : ∀ i < n, ∀ j < n, nearM V i j = true → 0 ≤ V.pl.getD i 0 → 0 ≤ U.pl.getD (f j) 0 → 0 ≤ V.pl.getD j 0
section
variable {V U : Vw} {n m : Nat} {f : Nat → Nat} {N : Nat} (E : Emb V U n m f) (Y : Tail V U n m f N) (hV : Wf V n) (hU : Wf U m)
include E Y
include hV
include hU
end
end Go.AL.Rl

namespace Go.AL.Rl
open Go Go.AL Go.Proofs
set_option maxRecDepth 100000
set_option maxHeartbeats 1600000

section
variable {g : Gr} {t : Nat} {e : Ev} {d : EId} {p : Int} (hg : GOk g) (ht : t < g.th.length) (hh : GOk (addG g t e d p))
include ht
include hg
include hh
end
end Go.AL.Rl

namespace Go.AL.Rl
open Go Go.AL Go.Proofs
set_option maxRecDepth 100000
set_option maxHeartbeats 3200000
variable {γ : Nat → Option AV}

end Go.AL.Rl

namespace Go.AL.Rl
open Go Go.AL Go.Proofs
set_option maxRecDepth 100000
set_option maxHeartbeats 3200000
variable {γ : Nat → Option AV}

section
variable {g : Gr} {t : Nat} {e : Ev} {d : EId} {p : Int} (hg : GOk g) (ht : t < g.th.length) (hh : GOk (addG g t e d p)) {x y : Nat} (hx : x < nG g) (hy : y < nG g)
include hg ht hh hx hy
end
end Go.AL.Rl

namespace Go.AL.Rl
open Go Go.AL Go.Proofs
set_option maxRecDepth 100000
set_option maxHeartbeats 3200000

section
variable {g : Gr} {t : Nat} {e : Ev} {d : EId} {p : Int} (hg : GOk g) (ht : t < g.th.length) (hh : GOk (addG g t e d p))
include hg ht hh
end
end Go.AL.Rl

namespace Go.AL.Rl
open Go Go.AL Go.Proofs
set_option maxRecDepth 100000
set_option maxHeartbeats 3200000
variable {γ : Nat → Option AV}

theorem rvO_wf (g : Gr) : RWf (rvO g) := by
 unfold rvO
 split
 ·rename_i h; exact rvG_wf h
 ·exact ⟨rfl, Int.le_refl _, by simp [rv0], by simp [rv0]⟩
def hpH (g : Gr) (v : RV) (x : AV) (l D : Nat) (oR oD : Obj) (s : Tr) (t : Array Value) : List Blk :=
 [.box (aGr g), .box x, .box (aRV v), .obj D oD .nil #[], .obj l oR s t]
theorem rpB_nil {v : RV} {a : Nat} : ∀ b, (∀ b' < b, a < b' → oneM v a b' = false) → rpB v a b = []
 | 0, _ => rfl
 | b + 1, h => by
  rw [rpB, rpB_nil b fun b' hb' => h b' (by omega), if_neg]
  ·rfl
  ·rintro ⟨h1, h2⟩
   rw [h b (by omega) h1] at h2; cases h2
theorem rpA_nil {v : RV} {m : Nat} : ∀ a, (∀ a' < a, ∀ b < m, a' < b → oneM v a' b = false) → rpA v m a = []
 | 0, _ => rfl
 | a + 1, h => by
  rw [rpA, rpA_nil a fun a' ha' => h a' (by omega), rpB_nil m (h a (by omega))]; rfl
theorem rpB_has {v : RV} {a b' : Nat} (h1 : a < b') (h2 : oneM v a b' = true) : ∀ b, b' < b → (a, b') ∈ rpB v a b
 | 0, h => absurd h (by omega)
 | b + 1, h => by
  rw [rpB, List.mem_append]
  rcases Nat.lt_or_ge b' b with h3 | h3
  ·exact .inl (rpB_has h1 h2 b h3)
  ·have e : b' = b := by omega
   subst e
   rw [if_pos ⟨h1, h2⟩]; exact .inr (by simp)
theorem rpA_has {v : RV} {m a' b' : Nat} (h1 : a' < b') (hb : b' < m) (h2 : oneM v a' b' = true) : ∀ a, a' < a → (a', b') ∈ rpA v m a
 | 0, h => absurd h (by omega)
 | a + 1, h => by
  rw [rpA, List.mem_append]
  rcases Nat.lt_or_ge a' a with h3 | h3
  ·exact .inl (rpA_has h1 hb h2 a h3)
  ·have e : a' = a := by omega
   subst e
   exact .inr (rpB_has h1 h2 m hb)
theorem races_nil_iff {v : RV} : racesV v = [] ↔ ∀ a < v.ids.length, ∀ b < v.ids.length, a < b → oneM v a b = false := by
 unfold racesV
 rw [List.map_eq_nil_iff]
 constructor
 ·intro h a ha b hb hab
  refine Bool.eq_false_iff.2 fun ho => ?_
  have := rpA_has hab hb ho v.ids.length ha
  rw [h] at this; cases this
 ·exact fun h => rpA_nil _ h
theorem allS_ok (g : Gr) (v : RV) (hv : RWf v) (l D : Nat) (oR oX oD : Obj) (s : Tr) (t : Array Value) (hT : leT 5 s s)
  (hy : ∀ (a b : Nat), b < v.ids.length → a < b → oneM v a b = true → YCall Try.prog γ l [.i fun _ => (a : Int), .i fun _ => (b : Int)] (hpH g v .ff l D oR oD s t) (fun x h => x = .ff ∧ h = hpH g v .tt l D oX oD s t)) (R : List Blk)
  (hR0 : racesV v = [] → R = hpH g v .ff l D oR oD s t) (hR1 : racesV v ≠ [] → R = hpH g v .tt l D oX oD s t) :
  SCalls Try.prog γ 40 [.raw (.func (.yield l) #[] #[]), .vp (fun _ => aRV v) 0] (hpH g v .ff l D oR oD s t) (fun x h => x = .tup [] ∧ h = R) := by
 have h1 := hv.len
 have hsm : v.ids.length ≤ 64 := by have := hv.big; have := hv.small; have := hv.sh; omega
 have k1 := fun (a b : Nat) (ha : a < v.ids.length) (hb : b < v.ids.length) => rone_ok (γ := γ) v hv a b ha hb
 have hnil := races_nil_iff (v := v)
 have hT2 := hT
 cbv at hT2
 obtain ⟨N, hN⟩ : ∃ N, N = v.ids.length := ⟨_, rfl⟩
 rw [← hN] at hsm hy k1 hnil
 unfold aRV hpH at *
 generalize hI : v.ids = I at *
 generalize v.evs = Es at *
 generalize v.rows = Rw at *
 generalize v.sh = Sh at *
 generalize v.n = Vn at *
 refine SCalls.go (ty := ty) ty_eq mo Try.func40 rfl Try.ntmps40 Try.results40 Try.call40 (by simp) fun P C CQ D W F E hF => ?_
 cbv
 skip
 repeat' (first
  |(refine ⟨fun _ h_s=>?_,fun _ h_s=>?_⟩<;>(cbv;(try simp only [nc] at *);try simp (disch:=(first|omega|(simp only [lnS];omega))) only [rdT,rdS,hT2,reduceCtorEq,trT] at h_s))
  |(refine hF ?_;intro _;clear hF)
  |(refine hF ?_;cbv;clear hF)
  |(refine ⟨fun _=>?_,?_⟩;(· ((try simp only [nc] at *);first|done|omega|exact ⟨by omega,rfl⟩|(simp (disch:=(first|omega|(simp only [lnS];omega))) only [rdT,rdS,hT2];first|done|omega|rfl|exact ⟨by omega,rfl⟩|(simp;done)|(simp;omega))|(intros;trivial)));(try (simp only [nc] at *));(try simp (disch:=(first|omega|(simp only [lnS];omega))) only [rdT,rdS,hT2]);(try cbv))
  | fail
 )
 refine E.loopS (ι:=Nat) (fun a=>a≤N∧∀ a' < a,∀ b < N,a' < b → oneM v a' b = false) (fun a=>N - a) (fun a=>[(8,.i fun _=>((a : Nat) : Int))]) (fun a h=>h) 0 (fun _=>by first|rfl|simp) ?_ ?_ fun a ha I1 hI1=>?_
 ·exact ⟨Nat.zero_le _, fun a' h => absurd h (by omega)⟩
 ·cbv; simp [hT2]
 cbv
 obtain ⟨ha, hpa⟩ := ha
 repeat' (first
  |(refine ⟨fun _ h_s=>?_,fun _ h_s=>?_⟩<;>(cbv;(try simp only [nc] at *);try simp (disch:=(first|omega|(simp only [lnS];omega))) only [rdT,rdS,hT2,reduceCtorEq,trT] at h_s))
  |(refine hF ?_;intro _;clear hF)
  |(refine hF ?_;cbv;clear hF)
  |(refine ⟨fun _=>?_,?_⟩;(· ((try simp only [nc] at *);first|done|omega|exact ⟨by omega,rfl⟩|(simp (disch:=(first|omega|(simp only [lnS];omega))) only [rdT,rdS,hT2];first|done|omega|rfl|exact ⟨by omega,rfl⟩|(simp;done)|(simp;omega))|(intros;trivial)));(try (simp only [nc] at *));(try simp (disch:=(first|omega|(simp only [lnS];omega))) only [rdT,rdS,hT2]);(try cbv))
  | fail
 )
 ·refine E.loopS (ι:=Nat) (fun b=>(a + 1≤b∧b≤N)∧∀ b' < b,a < b' → oneM v a b' = false) (fun b=>N - b) (fun b=>[(4,.i fun _=>((b : Nat) : Int))]) (fun b h=>h) (a + 1) (fun _=>by first|rfl|simp) ?_ ?_ fun b hb I2 hI2=>?_
  ·exact ⟨by ((try simp only [nc] at *); omega), fun b' h1 h2 => absurd h1 (by omega)⟩
  ·cbv; simp [hT2]; exact w64_of (by omega) (by omega)
  cbv
  obtain ⟨hb, hpb⟩ := hb
  repeat' (first
   |(refine hI1 (a + 1) ?_ ?_ ?_;rotate_left 1;(· ((try simp only [nc] at *);omega));(cbv;clear hI1;(try clear hF);(try simp only [nc] at *);(try simp (disch:=(first|omega|(simp only [lnS];omega))) only [rdT,rdS,hT2,anT]));rotate_left 1;(try ((try simp only [nc] at *);omega)))
   |(refine hI2 (b + 1) ?_ ?_ ?_;rotate_left 1;(· ((try simp only [nc] at *);omega));(cbv;clear hI2;(try clear hF);(try simp only [nc] at *);(try simp (disch:=(first|omega|(simp only [lnS];omega))) only [rdT,rdS,hT2,anT]));rotate_left 1;(try ((try simp only [nc] at *);omega)))
   | (refine E.y (YCall.to (hy a b (by ((try simp only [nc] at *); omega)) (by ((try simp only [nc] at *); omega)) (by assumption)) (by cbv) (by cbv; simp) (by cbv; simp [hT2]) ?_); cbv)
   |(refine E.c (SCalls.of_le (k1 a b (by ((try simp only [nc] at *);omega)) (by ((try simp only [nc] at *);omega))) ?_ ?_);(· (cbv;(try simp only [nc] at *);first|done|(simp;done)|(simp (disch:=(first|omega|(simp only [lnS];omega))) only [rdT,rdS,hT2,anT];first|done|omega|(refine ⟨?_,?_⟩<;>omega))|(simp (disch:=(first|omega|(simp only [lnS];omega))) [rdT,rdS,hT2];done)));cbv)
   |(refine ⟨fun _ h_s=>?_,fun _ h_s=>?_⟩<;>(cbv;(try simp only [nc] at *);try simp (disch:=(first|omega|(simp only [lnS];omega))) only [rdT,rdS,hT2,reduceCtorEq,trT] at h_s))
   |(refine hF ?_;intro _;clear hF)
   |(refine hF ?_;cbv;clear hF)
   |(refine ⟨fun _=>?_,?_⟩;(· ((try simp only [nc] at *);first|done|omega|exact ⟨by omega,rfl⟩|(simp (disch:=(first|omega|(simp only [lnS];omega))) only [rdT,rdS,hT2];first|done|omega|rfl|exact ⟨by omega,rfl⟩|(simp;done)|(simp;omega))|(intros;trivial)));(try (simp only [nc] at *));(try simp (disch:=(first|omega|(simp only [lnS];omega))) only [rdT,rdS,hT2]);(try cbv))
   | fail
  )
  ·have ho : oneM v a b = true := by assumption
   refine ⟨rfl, (hR1 fun h => ?_).symm⟩
   rw [hnil.1 h a (by ((try simp only [nc] at *); omega)) b (by ((try simp only [nc] at *); omega)) (by ((try simp only [nc] at *); omega))] at ho
   cases ho
  ·have ho : oneM v a b = false := by assumption
   refine ⟨by ((try simp only [nc] at *); omega), fun b' h1 h2 => ?_⟩
   rcases Nat.lt_or_ge b' b with h3 | h3
   ·exact hpb b' h3 h2
   ·have e : b' = b := by omega
    rw [e]; exact ho
  ·push_cast; rfl
  ·refine ⟨by ((try simp only [nc] at *); omega), fun a' h1 b2 h2 h3 => ?_⟩
   rcases Nat.lt_or_ge a' a with h4 | h4
   ·exact hpa a' h4 b2 h2 h3
   ·have e : a' = a := by omega
    subst e
    exact hpb b2 (by ((try simp only [nc] at *); omega)) h3
  ·push_cast; rfl
 ·exact ⟨rfl, (hR0 (hnil.2 fun a' ha' b hb hab => hpa a' (by ((try simp only [nc] at *); omega)) b hb hab)).symm⟩

theorem rhas_race_ok (g : Gr) (hg : Rd g) : Pure Try.prog γ false 18 [aGr g] (.b fun _ => decide (racesV (rvO g) ≠ [])) := by
 have kl := rlook_ok (γ := γ) g hg
 have hw := rvO_wf g
 generalize rvO g = v at *
 have ka := vall_ok (γ := γ) v
 unfold aRV at kl ka
 by_cases hr : racesV v = []
 ·rw [decide_eq_false (fun h => h hr)]
  refine Pure.goK (ty := ty) ty_eq mo Try.func18 rfl Try.ntmps18 Try.results18 Try.call18 (by simp) 3 (by kernel_rfl) fun P C CQ D W C2 CQ2 D2 F RQ E E2 hF hR => ?_
  cbv
  repeat' (first
   |(refine E.c (SCalls.of_le (ka) ?_ ?_);(· (cbv;(try simp only [nc] at *);first|done|(simp;done)|(simp (disch:=(first|omega|(simp only [lnS];omega))) only [rdT,rdS,hT2,anT];first|done|omega|(refine ⟨?_,?_⟩<;>omega))|(simp (disch:=(first|omega|(simp only [lnS];omega))) [rdT,rdS,hT2];done)));cbv)
   |(refine E.c (SCalls.of_le (kl) ?_ ?_);(· (cbv;(try simp only [nc] at *);first|done|(simp;done)|(simp (disch:=(first|omega|(simp only [lnS];omega))) only [rdT,rdS,hT2,anT];first|done|omega|(refine ⟨?_,?_⟩<;>omega))|(simp (disch:=(first|omega|(simp only [lnS];omega))) [rdT,rdS,hT2];done)));cbv)
   |(refine ⟨fun _ h_s=>?_,fun _ h_s=>?_⟩<;>(cbv;(try simp only [nc] at *);try simp (disch:=(first|omega|(simp only [lnS];omega))) only [rdT,rdS,hT2,reduceCtorEq,trT] at h_s))
   |(refine hF ?_;intro _;clear hF)
   |(refine hF ?_;cbv;clear hF)
   |(refine ⟨fun _=>?_,?_⟩;(· ((try simp only [nc] at *);first|done|omega|exact ⟨by omega,rfl⟩|(simp (disch:=(first|omega|(simp only [lnS];omega))) only [rdT,rdS,hT2];first|done|omega|rfl|exact ⟨by omega,rfl⟩|(simp;done)|(simp;omega))|(intros;trivial)));(try (simp only [nc] at *));(try simp (disch:=(first|omega|(simp only [lnS];omega))) only [rdT,rdS,hT2]);(try cbv))
   | fail
  )
  refine hR ⟨_, _, _, Step.refl, rfl, by cbv, fun l D t oR oB oX oE oEX oD oD' hY => ?_⟩
  refine SCalls.mono (h := hpH g v .ff l D oR oD _ t) (allS_ok g v hw l D oR oX oD _ t ?a (fun a b hb hab ho => hY _ _ _ rfl rfl ?b) _ (fun _ => rfl) (fun h => absurd hr h)) fun _ h' hh' => .inl ?c
  case a => cbv; simp
  case c =>
   obtain ⟨_, hh'⟩ := hh'
   subst hh'
   cbv
   repeat' (first
    |(refine ⟨fun _ h_s=>?_,fun _ h_s=>?_⟩<;>(cbv;(try simp only [nc] at *);try simp (disch:=(first|omega|(simp only [lnS];omega))) only [rdT,rdS,hT2,reduceCtorEq,trT] at h_s))
    |(refine hF ?_;intro _;clear hF)
    |(refine hF ?_;cbv;clear hF)
    |(refine ⟨fun _=>?_,?_⟩;(· ((try simp only [nc] at *);first|done|omega|exact ⟨by omega,rfl⟩|(simp (disch:=(first|omega|(simp only [lnS];omega))) only [rdT,rdS,hT2];first|done|omega|rfl|exact ⟨by omega,rfl⟩|(simp;done)|(simp;omega))|(intros;trivial)));(try (simp only [nc] at *));(try simp (disch:=(first|omega|(simp only [lnS];omega))) only [rdT,rdS,hT2]);(try cbv))
    | fail
   )
   rfl
  case b => cbv
 ·rw [decide_eq_true hr]
  refine Pure.goK (ty := ty) ty_eq mo Try.func18 rfl Try.ntmps18 Try.results18 Try.call18 (by simp) 3 (by kernel_rfl) fun P C CQ D W C2 CQ2 D2 F RQ E E2 hF hR => ?_
  cbv
  repeat' (first
   |(refine E.c (SCalls.of_le (ka) ?_ ?_);(· (cbv;(try simp only [nc] at *);first|done|(simp;done)|(simp (disch:=(first|omega|(simp only [lnS];omega))) only [rdT,rdS,hT2,anT];first|done|omega|(refine ⟨?_,?_⟩<;>omega))|(simp (disch:=(first|omega|(simp only [lnS];omega))) [rdT,rdS,hT2];done)));cbv)
   |(refine E.c (SCalls.of_le (kl) ?_ ?_);(· (cbv;(try simp only [nc] at *);first|done|(simp;done)|(simp (disch:=(first|omega|(simp only [lnS];omega))) only [rdT,rdS,hT2,anT];first|done|omega|(refine ⟨?_,?_⟩<;>omega))|(simp (disch:=(first|omega|(simp only [lnS];omega))) [rdT,rdS,hT2];done)));cbv)
   |(refine ⟨fun _ h_s=>?_,fun _ h_s=>?_⟩<;>(cbv;(try simp only [nc] at *);try simp (disch:=(first|omega|(simp only [lnS];omega))) only [rdT,rdS,hT2,reduceCtorEq,trT] at h_s))
   |(refine hF ?_;intro _;clear hF)
   |(refine hF ?_;cbv;clear hF)
   |(refine ⟨fun _=>?_,?_⟩;(· ((try simp only [nc] at *);first|done|omega|exact ⟨by omega,rfl⟩|(simp (disch:=(first|omega|(simp only [lnS];omega))) only [rdT,rdS,hT2];first|done|omega|rfl|exact ⟨by omega,rfl⟩|(simp;done)|(simp;omega))|(intros;trivial)));(try (simp only [nc] at *));(try simp (disch:=(first|omega|(simp only [lnS];omega))) only [rdT,rdS,hT2]);(try cbv))
   | fail
  )
  refine hR ⟨_, _, _, Step.refl, rfl, by cbv, fun l D t oR oB oX oE oEX oD oD' hY => ?_⟩
  refine SCalls.mono (h := hpH g v .ff l D oR oD _ t) (allS_ok g v hw l D oR oX oD _ t ?a (fun a b hb hab ho => hY _ _ _ rfl rfl ?b) _ (fun h => absurd h hr) (fun _ => rfl)) fun _ h' hh' => .inr ?c
  case a => cbv; simp
  case c =>
   obtain ⟨_, hh'⟩ := hh'
   subst hh'
   cbv
   repeat' (first
    |(refine ⟨fun _ h_s=>?_,fun _ h_s=>?_⟩<;>(cbv;(try simp only [nc] at *);try simp (disch:=(first|omega|(simp only [lnS];omega))) only [rdT,rdS,hT2,reduceCtorEq,trT] at h_s))
    |(refine hF ?_;intro _;clear hF)
    |(refine hF ?_;cbv;clear hF)
    |(refine ⟨fun _=>?_,?_⟩;(· ((try simp only [nc] at *);first|done|omega|exact ⟨by omega,rfl⟩|(simp (disch:=(first|omega|(simp only [lnS];omega))) only [rdT,rdS,hT2];first|done|omega|rfl|exact ⟨by omega,rfl⟩|(simp;done)|(simp;omega))|(intros;trivial)));(try (simp only [nc] at *));(try simp (disch:=(first|omega|(simp only [lnS];omega))) only [rdT,rdS,hT2]);(try cbv))
    | fail
   )
   rfl
  case b => cbv
end Go.AL.Rl

namespace Go.AL.Rl
open Go Go.AL Go.Proofs
set_option maxRecDepth 100000
set_option maxHeartbeats 3200000
variable {γ : Nat → Option AV}

def plTo17 (v : RV) : Nat → List EId
 | 0 => []
 | a + 1 => plTo17 v a ++ (if rPl (rAt v a) = true then [v.ids.getD a id0] else [])
theorem plTo17_len (v : RV) : ∀ a, (plTo17 v a).length ≤ a
 | 0 => Nat.le_refl _
 | a + 1 => by
  have := plTo17_len v a
  rw [plTo17, List.length_append]
  split <;> simp <;> omega
theorem rplain_ok (g : Gr) (hg : Rd g) : Pure Try.prog γ false 19 [aGr g] (.vs 2 fun _ => ids (plTo17 (rvO g) (rvO g).ids.length)) := by
 have kl := rlook_ok (γ := γ) g hg
 have hw := rvO_wf g
 generalize rvO g = v at *
 have hsm : v.ids.length ≤ 64 := by have := hw.big; have := hw.small; have := hw.sh; omega
 have kp := fun a (ha : a < v.ids.length) => rpl_ok (γ := γ) v hw a ha
 have l1 := plTo17_len v
 have l2 := fun a => show plTo17 v (a + 1) = plTo17 v a ++ (if rPl (rAt v a) = true then [v.ids.getD a id0] else []) from rfl
 have l0 : plTo17 v 0 = [] := rfl
 obtain ⟨G, hG⟩ : ∃ G : List EId → Nat, ∀ l, G l = l.length := ⟨_, fun _ => rfl⟩
 have hG0 : G [] = 0 := by rw [hG]; rfl
 unfold aRV at kl kp
 refine Pure.go (ty := ty) ty_eq mo Try.func19 rfl Try.ntmps19 Try.results19 Try.call19 (by simp) fun P C CQ D W F E hF => ?_
 cbv
 repeat' (first
  |(refine E.c (SCalls.of_le (kl) ?_ ?_);(· (cbv;(try simp only [nc] at *);first|done|(simp;done)|(simp (disch:=(first|omega|(simp only [lnS];omega))) only [rdT,rdS,anT];first|done|omega|(refine ⟨?_,?_⟩<;>omega))|(simp (disch:=(first|omega|(simp only [lnS];omega))) [rdT,rdS];done)));cbv)
  |(refine ⟨fun _ h_s=>?_,fun _ h_s=>?_⟩<;>(cbv;(try simp only [nc] at *);try simp (disch:=(first|omega|(simp only [lnS];omega))) only [rdT,rdS,reduceCtorEq,trT] at h_s))
  |(refine hF ?_;intro _;clear hF)
  |(refine hF ?_;cbv;clear hF)
  |(refine ⟨fun _=>?_,?_⟩;(· ((try simp only [nc] at *);first|done|omega|exact ⟨by omega,rfl⟩|(simp (disch:=(first|omega|(simp only [lnS];omega))) only [rdT,rdS];first|done|omega|rfl|exact ⟨by omega,rfl⟩|(simp;done)|(simp;omega))|(intros;trivial)));(try (simp only [nc] at *));(try simp (disch:=(first|omega|(simp only [lnS];omega))) only [rdT,rdS]);(try cbv))
  | fail
 )
 refine E.w (AWP.ghostSlot 5 2 rfl (by omega) (E.loopSA (ι := Nat) (fun a => a ≤ v.ids.length) (fun a => v.ids.length - a) (fun a => [(16, .i fun _ => ((a : Nat) : Int)), (5, .sl 2 (G (plTo17 v a)) 2 (fun _ => 0) fun _ => (plTo17 v a).length)]) (fun a h => h.set 2 (.run (G (plTo17 v a)) 2 fun _ => ids (plTo17 v a))) 0 (fun _ => by first | rfl | simp) (Nat.zero_le _) ?_ fun a ha I hI => ?_))
 ·cbv; simp [l0, hG0, ids, LV.of]
 cbv
 have e1 := l1 a
 have e2 := l2 a
 skip
 repeat' (first
  |(refine hI (a + 1) ?_ ?_ ?_;rotate_left 1;(· ((try simp only [nc] at *);omega));(cbv;clear hI;(try clear hF);(try simp only [nc] at *);(try simp (disch:=(first|omega|(simp only [lnS];omega))) only [rdT,rdS,anT]));rotate_left 1;(try ((try simp only [nc] at *);omega)))
  |(refine E.c (SCalls.of_le (kp a (by ((try simp only [nc] at *);omega))) ?_ ?_);(· (cbv;(try simp only [nc] at *);first|done|(simp;done)|(simp (disch:=(first|omega|(simp only [lnS];omega))) only [rdT,rdS,anT];first|done|omega|(refine ⟨?_,?_⟩<;>omega))|(simp (disch:=(first|omega|(simp only [lnS];omega))) [rdT,rdS];done)));cbv)
  |(refine ⟨fun _ h_s=>?_,fun _ h_s=>?_⟩<;>(cbv;(try simp only [nc] at *);try simp (disch:=(first|omega|(simp only [lnS];omega))) only [rdT,rdS,reduceCtorEq,trT] at h_s))
  |(refine hF ?_;intro _;clear hF)
  |(refine hF ?_;cbv;clear hF)
  |(refine ⟨fun _=>?_,?_⟩;(· ((try simp only [nc] at *);first|done|omega|exact ⟨by omega,rfl⟩|(simp (disch:=(first|omega|(simp only [lnS];omega))) only [rdT,rdS];first|done|omega|rfl|exact ⟨by omega,rfl⟩|(simp;done)|(simp;omega))|(intros;trivial)|exact ⟨by first|trivial|rfl,by first|trivial|rfl|simp,by first|trivial|simp,by simp;omega,by simp;omega,by simp [AV.flat,AV.cells,AV.one]⟩));(try (simp only [nc] at *));(try simp (disch:=(first|omega|(simp only [lnS];omega))) only [rdT,rdS]);(try cbv))
  | fail
 )
 ·rw [e2, if_pos (by assumption)]
  simp [hG, ids, setAll, AV.nrm, nrms, nrm1, List.getD_eq_getElem?_getD, id0]
 ·have ho : rPl (rAt v a) = false := by assumption
  rw [e2, if_neg (by rw [ho]; simp), List.append_nil]
  exact ⟨⟨⟨rfl, rfl⟩, by push_cast; rfl⟩, rfl, rfl⟩
 ·have e : a = v.ids.length := by ((try simp only [nc] at *); omega)
  rw [← e]
  simp
  exact List.take_of_length_le (by simp)
end Go.AL.Rl

namespace Go.AL.Rl
open Go Go.AL Go.Proofs
set_option maxRecDepth 100000
set_option maxHeartbeats 3200000
variable {γ : Nat → Option AV}

theorem rbetween_ok (g : Gr) (hg : Rd g) (a b : EId) : Pure Try.prog γ false 14 [aGr g, aId a, aId b] (.b fun _ => btM (rvO g) a b) := by
 have kl := rlook_ok (γ := γ) g hg
 have hw := rvO_wf g
 generalize rvO g = v at *
 have hsm : (v.ids.length : Int) ≤ 9223372036854775807 := by have := hw.big; have := hw.small; have := hw.sh; omega
 have ka := index_ok (γ := γ) v.ids a hsm
 have kb := index_ok (γ := γ) v.ids b hsm
 have ko := rone_int (γ := γ) v hw (numI v.ids a) (numI v.ids b)
 have la := numI_lt v.ids a
 have lb := numI_lt v.ids b
 unfold btM
 generalize numI v.ids a = x at *
 generalize numI v.ids b = y at *
 unfold aRV at kl ko
 refine Pure.go (ty := ty) ty_eq mo Try.func14 rfl Try.ntmps14 Try.results14 Try.call14 (by simp) fun P C CQ D W F E hF => ?_
 cbv
 repeat' (first
  |(refine E.c (SCalls.of_le (ko (by ((try simp only [nc] at *);omega)) (by ((try simp only [nc] at *);omega))) ?_ ?_);(· (cbv;(try simp only [nc] at *);first|done|(simp;done)|(simp (disch:=(first|omega|(simp only [lnS];omega))) only [rdT,rdS,anT];first|done|omega|(refine ⟨?_,?_⟩<;>omega))|(simp (disch:=(first|omega|(simp only [lnS];omega))) [rdT,rdS];done)));cbv)
  |((first|refine E.c (SCalls.of_le (kb) ?_ ?_)|refine E.q (QCalls.of_le (kb) ?_ ?_));(· (cbv;(try simp only [nc] at *);first|done|(simp;done)|(simp (disch:=(first|omega|(simp only [lnS];omega))) only [rdT,rdS,anT];first|done|omega|(refine ⟨?_,?_⟩<;>omega))|(simp (disch:=(first|omega|(simp only [lnS];omega))) [rdT,rdS];done)));cbv)
  |((first|refine E.c (SCalls.of_le (ka) ?_ ?_)|refine E.q (QCalls.of_le (ka) ?_ ?_));(· (cbv;(try simp only [nc] at *);first|done|(simp;done)|(simp (disch:=(first|omega|(simp only [lnS];omega))) only [rdT,rdS,anT];first|done|omega|(refine ⟨?_,?_⟩<;>omega))|(simp (disch:=(first|omega|(simp only [lnS];omega))) [rdT,rdS];done)));cbv)
  |(refine E.c (SCalls.of_le (kl) ?_ ?_);(· (cbv;(try simp only [nc] at *);first|done|(simp;done)|(simp (disch:=(first|omega|(simp only [lnS];omega))) only [rdT,rdS,anT];first|done|omega|(refine ⟨?_,?_⟩<;>omega))|(simp (disch:=(first|omega|(simp only [lnS];omega))) [rdT,rdS];done)));cbv)
  |(refine ⟨fun _ h_s=>?_,fun _ h_s=>?_⟩<;>(cbv;(try simp only [nc] at *);try simp (disch:=(first|omega|(simp only [lnS];omega))) only [rdT,rdS,reduceCtorEq,trT] at h_s))
  |(refine hF ?_;intro _;clear hF)
  |(refine hF ?_;cbv;clear hF)
  |(refine ⟨fun _=>?_,?_⟩;(· ((try simp only [nc] at *);first|done|omega|exact ⟨by omega,rfl⟩|(simp (disch:=(first|omega|(simp only [lnS];omega))) only [rdT,rdS];first|done|omega|rfl|exact ⟨by omega,rfl⟩|(simp;done)|(simp;omega))|(intros;trivial)));(try (simp only [nc] at *));(try simp (disch:=(first|omega|(simp only [lnS];omega))) only [rdT,rdS]);(try cbv))
  |(refine E.d 7 (by decide +kernel) ?_;cbv;(fail_if_success guard_target =~ False))
  | fail
 )
 all_goals (try simp only [nc] at *)
 all_goals (try simp (disch:=(first|omega|(simp only [lnS];omega))) only [rdT,rdS])
 all_goals first
  | (simp_all; done)
  | (simp_all; intros; omega)
theorem rall_any (g : Gr) (hg : Rd g) : Pure Try.prog γ false 11 [aGr g] (.tup [.vs 5 fun _ => rcs (racesV (rvO g)), .i fun _ => if GOk g then 0 else 2]) := by
 by_cases h : GOk g
 ·have := rall_yes (γ := γ) g hg h
  unfold rvO
  simp only [if_pos h]
  exact this
 ·have kl := rlook_no (γ := γ) g hg h
  have e : racesV (rvO g) = [] := by unfold rvO; rw [if_neg h]; rfl
  simp only [if_neg h, e]
  unfold aRV rv0 at kl
  refine Pure.goK (ty := ty) ty_eq mo Try.func11 rfl Try.ntmps11 Try.results11 Try.call11 (by simp) 6 (by kernel_rfl) fun P C CQ D W C2 CQ2 D2 F RQ E E2 hF hR => ?_
  cbv
  repeat' (first
   |(refine E.c (SCalls.of_le (kl) ?_ ?_);(· (cbv;(try simp only [nc] at *);first|done|(simp;done)|(simp (disch:=(first|omega|(simp only [lnS];omega))) only [rdT,rdS,anT];first|done|omega|(refine ⟨?_,?_⟩<;>omega))|(simp (disch:=(first|omega|(simp only [lnS];omega))) [rdT,rdS];done)));cbv)
   |(refine ⟨fun _ h_s=>?_,fun _ h_s=>?_⟩<;>(cbv;(try simp only [nc] at *);try simp (disch:=(first|omega|(simp only [lnS];omega))) only [rdT,rdS,reduceCtorEq,trT] at h_s))
   |(refine hF ?_;intro _;clear hF)
   |(refine hF ?_;cbv;clear hF)
   |(refine ⟨fun _=>?_,?_⟩;(· ((try simp only [nc] at *);first|done|omega|exact ⟨by omega,rfl⟩|(simp (disch:=(first|omega|(simp only [lnS];omega))) only [rdT,rdS];first|done|omega|rfl|exact ⟨by omega,rfl⟩|(simp;done)|(simp;omega))|(intros;trivial)));(try (simp only [nc] at *));(try simp (disch:=(first|omega|(simp only [lnS];omega))) only [rdT,rdS]);(try cbv))
   |(refine E.d 19 (by decide +kernel) ?_;cbv;(fail_if_success guard_target =~ False))
   | fail
  )
end Go.AL.Rl

namespace Go.AL
open Go Go.RowKit

section
variable {P : Program} {γ : Nat → Option AV}
def isL (l : List Int) : LV := LV.of (l.map fun x => .i fun _ => x)
theorem RL_isL {S : Nat → Prop} {w : World} {zs : List Int} {evs : List Value} (h : RL S w (isL zs) evs) : evs = zs.map fun z => .int .i64 z := by
 rw [RL_iff] at h
 unfold isL at h
 rw [LV.l_of] at h
 induction zs generalizing evs with
 | nil => exact h
 | cons z zs ih =>
  obtain ⟨x, xs, rfl, h2, h3⟩ := h
  have h2 : x = .int .i64 z := h2
  rw [h2, ih h3]; rfl
theorem isL_RL {S : Nat → Prop} {w : World} (zs : List Int) : RL S w (isL zs) (zs.map fun z => .int .i64 z) := by
 rw [RL_iff]
 unfold isL
 rw [LV.l_of]
 induction zs with
 | nil => rfl
 | cons z zs ih => exact ⟨_, _, rfl, rfl, ih⟩
/-- a run's row is written anew, and memory has grown -/
theorem row_upd {B : Nat} {S : Nat → Prop} {ρ : List Loc} {h : List Blk} {w : World} (hh : HeapR B S γ ρ h w) {b g : Nat} {zs zs' : List Int} {loc : Loc} {K : Nat} (hb : h[b]? = some (.run g 1 fun _ => isL zs)) (hl : ρ[b]? = some loc) (hK : loc.k = some K)
  (hlen : zs'.length = zs.length) (q : Nat) (os : Array Obj) :
  HeapR B S γ (ρ.set b loc) (h.set b (.run g 1 fun _ => isL zs')) (Sort.grow (Sort.putRow (Value.int .i64) (Sort.ahead w q) K 0 zs'.toArray) os) ∧ Ext B S ρ w S (ρ.set b loc) (Sort.grow (Sort.putRow (Value.int .i64) (Sort.ahead w q) K 0 zs'.toArray) os) := by
 obtain ⟨p1, p2, p3, evs, p4, p5, p6⟩ := hh.blk b _ loc hb hl
 have e := RL_isL p4
 subst e
 obtain ⟨_, hKs, hBK⟩ := hh.own b loc K hl (.inl hK)
 rcases p6 with ⟨e, _⟩ | ⟨K', c, ty, e, hc, h1, h2, h3⟩
 ·rw [hK] at e; cases e
 rw [hK] at e; cases e
 have hold : ∀ k, k < w.heap.size → (Sort.grow (Sort.putRow (Value.int .i64) (Sort.ahead w q) K 0 zs'.toArray) os).heap[k]? = (Sort.putRow (Value.int .i64) w K 0 zs'.toArray).heap[k]? := fun k hk => by
  rw [Sort.heap_grow_old _ _ (by simpa using hk)]; rfl
 have hput : ∀ k, (Sort.putRow (Value.int .i64) w K 0 zs'.toArray).heap[k]? = if K = k then some (.cells (Sort.putCells (Value.int .i64) 0 zs'.toArray c) ty (0, 0)) else w.heap[k]? := fun k => by
  unfold Sort.putRow Sort.mapBlock
  simp only [Array.getElem?_modify]
  split
  ·rename_i e; subst e; rw [hc]; rfl
  ·rfl
 refine HeapR.upd hh hl loc.up_refl (fun K h => .inl h) ⟨rfl, rfl, rfl, by simp, fun a ha => ?_⟩ (fun k hk hne => ?_) ⟨p1, p2, p3, _, isL_RL zs', fun e he u hu => ?_, .inr ⟨K, Sort.putCells (Value.int .i64) 0 zs'.toArray c, ty, hK, ?_, ?_, ?_, fun i e he => ?_⟩⟩
 ·by_cases e : K = a.block
  ·simp only [World.frozen?, hold _ ha, hput, if_pos e]
   rw [← e, hc]
  ·simp only [World.frozen?, hold _ ha, hput, if_neg e]
 ·rw [hold k hk, hput, if_neg fun e => hne (by rw [hK, e])]
 ·rw [List.mem_map] at he
  obtain ⟨z, _, rfl⟩ := he
  have : u = .int .i64 z := by simpa [Value.cells] using hu
  subst this; rfl
 ·rw [hold K hKs, hput, if_pos rfl]
 ·simp [Sort.putCells, h1]
 ·rw [List.length_map] at h2 ⊢
  rw [hlen]; exact h2
 ·rw [List.getElem?_map] at he
  cases hz : zs'[i]? with
  | none => rw [hz] at he; cases he
  | some z =>
   rw [hz] at he
   cases he
   have hi := (List.getElem?_eq_some_iff.1 hz).1
   have hci : i < c.size := by rw [List.length_map] at h2; rw [p3] at h2; omega
   refine ⟨by rw [p3]; rfl, fun j x hj => ?_⟩
   have hx : j = 0 ∧ x = .int .i64 z := by
    rcases j with _ | j
    ·simp [Value.cells] at hj; exact ⟨rfl, hj.symm⟩
    ·simp [Value.cells] at hj
   obtain ⟨rfl, rfl⟩ := hx
   rw [p3, Nat.mul_one, Nat.add_zero]
   simp only [Sort.putCells, Array.getElem?_mapIdx, Array.getElem?_eq_getElem hci, Option.map_some]
   rw [if_pos ⟨Nat.zero_le _, by simpa using hi⟩]
   have : zs'.toArray[i - 0]! = z := by
    have := (List.getElem?_eq_some_iff.1 hz).2
    simp [hi, this]
   rw [this]
theorem row_holds {B : Nat} {S : Nat → Prop} {ρ : List Loc} {h : List Blk} {w : World} (hh : HeapR B S γ ρ h w) {b g : Nat} {zs : List Int} {loc : Loc} {K : Nat} (hb : h[b]? = some (.run g 1 fun _ => isL zs)) (hl : ρ[b]? = some loc) (hK : loc.k = some K) : Sort.Holds (Value.int .i64) w K 0 zs.toArray := by
 obtain ⟨p1, p2, p3, evs, p4, p5, p6⟩ := hh.blk b _ loc hb hl
 have e := RL_isL p4
 subst e
 rcases p6 with ⟨e, _⟩ | ⟨K', c, ty, e, hc, h1, h2, h3⟩
 ·rw [hK] at e; cases e
 rw [hK] at e; cases e
 intro j hj
 have hj : j < zs.length := by simpa using hj
 have h4 := (h3 j (.int .i64 zs[j]) (by simp [hj])).2 0 (.int .i64 zs[j]) rfl
 rw [p3, Nat.mul_one, Nat.add_zero] at h4
 constructor
 ·simp only [World.cell?, hc, Nat.zero_add]
  rw [h4]
  simp [hj]
 ·simp [World.frozen?, hc]
/-- the slice of a whole run -/
theorem run_slice {B : Nat} {S : Nat → Prop} {ρ : List Loc} {h : List Blk} {w : World} (hh : HeapR B S γ ρ h w) {b g : Nat} {zs : List Int} (hb : h[b]? = some (.run g 1 fun _ => isL zs)) {v : Value} {len : Unit → Nat} (hv : R S w (some ρ) (.sl b g 1 (fun _ => 0) len) v) :
  ∃ loc a cap, ρ[b]? = some loc ∧ v = .slice a (len ()) cap ∧ len () ≤ cap ∧ (cap = 0 ∨ ∃ K, loc.k = some K ∧ a = some ⟨K, 0, none⟩) := by
 obtain ⟨l, loc, a, cap, e, hl, h1, h2, h3, h4, h5, h6, h7⟩ := hv
 cases e
 obtain ⟨p1, p2, p3, _⟩ := hh.blk b _ loc hb hl
 refine ⟨loc, a, cap, hl, h4, h5, ?_⟩
 rcases h7 p2 with ⟨_, h8, _⟩ | ⟨K, h8, h9, _⟩
 ·exact .inl h8
 ·rcases h9 with h9 | h9
  ·exact .inl h9
  ·exact .inr ⟨K, h8, by rw [h9]; simp⟩
theorem sort_run {R0 : Go.Shelf.Ren} (L : Proofs.Lays.n189 P R0) (he : Enters P (R0.f 189)) {h : List Blk} {b g : Nat} {zs : List Int} (hb : h[b]? = some (.run g 1 fun _ => isL zs)) (hsz : zs.length < 4611686018427387904) {Q : AV → List Blk → Prop}
  (hQ : Q (.tup []) (h.set b (.run g 1 fun _ => isL (zs.mergeSort fun x y => decide (x ≤ y))))) : SCalls P γ (R0.f 189) [.sl b g 1 (fun _ => 0) fun _ => zs.length] h Q := by
 refine ⟨he, fun B S ρ w vals hh hargs => ?_⟩
 obtain ⟨v, _, rfl, hv, rfl⟩ := hargs
 obtain ⟨loc, a, cap, hl, rfl, hcap, hk⟩ := run_slice hh hb hv
 have hset : ρ.set b loc = ρ := by
  apply List.ext_getElem? ; intro i
  by_cases e : b = i
  ·subst e; rw [List.getElem?_set_self (List.getElem?_eq_some_iff.1 hl).1, hl]
  ·rw [List.getElem?_set_ne e]
 by_cases hz : zs.length = 0
 ·have hz : zs = [] := List.length_eq_zero_iff.1 hz
  subst hz
  have hs : h.set b (.run g 1 fun _ => isL []) = h := by
   apply List.ext_getElem? ; intro i
   by_cases e : b = i
   ·subst e; rw [List.getElem?_set_self (List.getElem?_eq_some_iff.1 hb).1, hb]
   ·rw [List.getElem?_set_ne e]
  have e : ([] : List Int).mergeSort (fun x y => decide (x ≤ y)) = [] := by simp
  rw [e, hs] at hQ
  refine (Proofs.Any.slices_Sort_int_none L a cap w).mono fun e w' ⟨h1, h2⟩ => ?_
  subst h2
  exact ⟨_, h, S, ρ, _, h1, hQ, ⟨[], rfl, rfl⟩, hh, Ext.refl _ _ _ _⟩
 ·rcases hk with hk | ⟨K, hK, rfl⟩
  ·omega
  obtain ⟨_, hKs, _⟩ := hh.own b loc K hl (.inl hK)
  refine (Proofs.Any.slices_Sort_int L K 0 cap zs w (row_holds hh hb hl hK) hKs hsz).mono fun e w' ⟨h1, q, os, h2⟩ => ?_
  subst h2
  have h3 := row_upd hh hb hl hK (zs' := zs.mergeSort fun x y => decide (x ≤ y)) (by simp) q os
  rw [hset] at h3
  exact ⟨_, _, S, ρ, _, h1, hQ, ⟨[], rfl, rfl⟩, h3.1, h3.2⟩
theorem compact_run {R0 : Go.Shelf.Ren} (L : Proofs.Lays2.n20 P R0) (he : Enters P (R0.f 20)) {h : List Blk} {b g n : Nat} {zs : List Int} (hn : n = zs.length) (hb : h[b]? = some (.run g 1 fun _ => isL zs)) (hsz : zs.length ≤ 9223372036854775807) (hle : (Lib.compact zs).length ≤ zs.length) {Q : AV → List Blk → Prop}
  (hQ : Q (.sl b g 1 (fun _ => 0) fun _ => (Lib.compact zs).length) (h.set b (.run g 1 fun _ => isL (Lib.compact zs ++ List.replicate (zs.length - (Lib.compact zs).length) 0)))) : SCalls P γ (R0.f 20) [.sl b g 1 (fun _ => 0) fun _ => n] h Q := by
 subst hn
 refine ⟨he, fun B S ρ w vals hh hargs => ?_⟩
 obtain ⟨v, _, rfl, hv, rfl⟩ := hargs
 have hv0 := hv
 obtain ⟨loc, a, cap, hl, rfl, hcap, hk⟩ := run_slice hh hb hv
 have hset : ρ.set b loc = ρ := by
  apply List.ext_getElem? ; intro i
  by_cases e : b = i
  ·subst e; rw [List.getElem?_set_self (List.getElem?_eq_some_iff.1 hl).1, hl]
  ·rw [List.getElem?_set_ne e]
 by_cases hz : zs.length = 0
 ·have hz : zs = [] := List.length_eq_zero_iff.1 hz
  subst hz
  have hs : h.set b (.run g 1 fun _ => isL []) = h := by
   apply List.ext_getElem? ; intro i
   by_cases e : b = i
   ·subst e; rw [List.getElem?_set_self (List.getElem?_eq_some_iff.1 hb).1, hb]
   ·rw [List.getElem?_set_ne e]
  have e : Lib.compact ([] : List Int) = [] := rfl
  rw [e] at hQ
  simp only [List.length_nil, Nat.sub_self, List.replicate_zero, List.append_nil] at hQ
  rw [hs] at hQ
  refine (Proofs.Any.slices_Compact_int_empty L a cap w).mono fun e w' ⟨h1, h2⟩ => ?_
  subst h2
  exact ⟨_, h, S, ρ, _, h1, hQ, hv0, hh, Ext.refl _ _ _ _⟩
 ·rcases hk with hk | ⟨K, hK, rfl⟩
  ·omega
  refine (Proofs.Any.slices_Compact_int L K 0 cap zs w (row_holds hh hb hl hK) hsz hcap).mono fun e w' ⟨h1, q, h2⟩ => ?_
  subst h2
  have h3 := row_upd hh hb hl hK (zs' := Lib.compact zs ++ List.replicate (zs.length - (Lib.compact zs).length) 0) (by rw [List.length_append, List.length_replicate]; omega) q #[]
  rw [hset, Sort.grow_empty] at h3
  refine ⟨_, _, S, ρ, _, h1, hQ, ?_, h3.1, h3.2⟩
  obtain ⟨l, loc', a', cap', e, k1, k2, k3, k4, k5, k6, k6', k7⟩ := hv0
  cases k5
  exact ⟨l, loc', _, cap, e, k1, k2, k3, k4, rfl, by show (Lib.compact zs).length ≤ cap; omega, k6', k7⟩
end
end Go.AL

namespace Go.Proofs
set_option maxRecDepth 100000
/-- the numbers of the library's contract here -/
def sort_ren : Go.Shelf.Ren := ⟨fun | 125 => 46 | 128 => 66 | 129 => 67 | 189 => 34 | 215 => 92 | 216 => 63 | 257 => 45 | 294 => 57 | 295 => 58 | 296 => 59 | 297 => 60 | 298 => 61 | 299 => 62 | 300 => 64 | 301 => 65 | 328 => 87 | 329 => 88 | 330 => 89 | 331 => 90 | 332 => 91 | 343 => 100 | n => n, fun | 0 => 0 | 3 => 3 | 4 => 4 | 5 => 5 | 9 => 9 | 28 => 50 | 46 => 90 | 51 => 108 | 53 => 98 | 131 => 105 | 182 => 100 | 183 => 101 | 218 => 124 | 222 => 128 | 228 => 131 | 229 => 132 | n => n, fun n => n⟩
theorem sort_lays : Lays.n189 Try.prog sort_ren where
 mixed := by kernel_rfl
 f125 := Try.func46.trans (congrArg some (by kernel_rfl))
 f128 := Try.func66.trans (congrArg some (by kernel_rfl))
 f129 := Try.func67.trans (congrArg some (by kernel_rfl))
 f189 := Try.func34.trans (congrArg some (by kernel_rfl))
 f215 := Try.func92.trans (congrArg some (by kernel_rfl))
 f216 := Try.func63.trans (congrArg some (by kernel_rfl))
 f257 := Try.func45.trans (congrArg some (by kernel_rfl))
 f294 := Try.func57.trans (congrArg some (by kernel_rfl))
 f295 := Try.func58.trans (congrArg some (by kernel_rfl))
 f296 := Try.func59.trans (congrArg some (by kernel_rfl))
 f297 := Try.func60.trans (congrArg some (by kernel_rfl))
 f298 := Try.func61.trans (congrArg some (by kernel_rfl))
 f299 := Try.func62.trans (congrArg some (by kernel_rfl))
 f300 := Try.func64.trans (congrArg some (by kernel_rfl))
 f301 := Try.func65.trans (congrArg some (by kernel_rfl))
 f328 := Try.func87.trans (congrArg some (by kernel_rfl))
 f329 := Try.func88.trans (congrArg some (by kernel_rfl))
 f330 := Try.func89.trans (congrArg some (by kernel_rfl))
 f331 := Try.func90.trans (congrArg some (by kernel_rfl))
 f332 := Try.func91.trans (congrArg some (by kernel_rfl))
 f343 := Try.func100.trans (congrArg some (by kernel_rfl))
 t0 := Try.underlying0
 a0 := Try.isAgg0
 z0 := Try.sizeOf0
 v0 := Try.zeroValue0
 t3 := Try.underlying3
 a3 := Try.isAgg3
 z3 := Try.sizeOf3
 v3 := Try.zeroValue3
 t4 := Try.underlying4
 a4 := Try.isAgg4
 z4 := Try.sizeOf4
 v4 := Try.zeroValue4
 t5 := Try.underlying5
 a5 := Try.isAgg5
 z5 := Try.sizeOf5
 v5 := Try.zeroValue5
 t9 := Try.underlying9
 a9 := Try.isAgg9
 z9 := Try.sizeOf9
 v9 := Try.zeroValue9
 t28 := Try.underlying50
 a28 := Try.isAgg50
 z28 := Try.sizeOf50
 v28 := Try.zeroValue50
 t46 := Try.underlying90
 a46 := Try.isAgg90
 z46 := Try.sizeOf90
 v46 := Try.zeroValue90
 t51 := Try.underlying108
 a51 := Try.isAgg108
 z51 := Try.sizeOf108
 v51 := Try.zeroValue108
 t53 := Try.underlying98
 a53 := Try.isAgg98
 z53 := Try.sizeOf98
 v53 := Try.zeroValue98
 t131 := Try.underlying105
 a131 := Try.isAgg105
 z131 := Try.sizeOf105
 v131 := Try.zeroValue105
 t182 := Try.underlying100
 a182 := Try.isAgg100
 z182 := Try.sizeOf100
 v182 := Try.zeroValue100
 t183 := Try.underlying101
 a183 := Try.isAgg101
 z183 := Try.sizeOf101
 v183 := Try.zeroValue101
 t218 := Try.underlying124
 a218 := Try.isAgg124
 z218 := Try.sizeOf124
 v218 := Try.zeroValue124
 t222 := Try.underlying128
 a222 := Try.isAgg128
 z222 := Try.sizeOf128
 v222 := Try.zeroValue128
 t228 := Try.underlying131
 a228 := Try.isAgg131
 z228 := Try.sizeOf131
 v228 := Try.zeroValue131
 t229 := Try.underlying132
 a229 := Try.isAgg132
 z229 := Try.sizeOf132
 v229 := Try.zeroValue132
/-- the numbers of the library's contract here -/
def comp_ren : Go.Shelf.Ren := ⟨fun | 20 => 35 | n => n, fun | 0 => 0 | 3 => 3 | 4 => 4 | 22 => 50 | n => n, fun n => n⟩
theorem comp_lays : Lays2.n20 Try.prog comp_ren where
 mixed := by kernel_rfl
 f20 := Try.func35.trans (congrArg some (by kernel_rfl))
 t0 := Try.underlying0
 a0 := Try.isAgg0
 z0 := Try.sizeOf0
 v0 := Try.zeroValue0
 t3 := Try.underlying3
 a3 := Try.isAgg3
 z3 := Try.sizeOf3
 v3 := Try.zeroValue3
 t4 := Try.underlying4
 a4 := Try.isAgg4
 z4 := Try.sizeOf4
 v4 := Try.zeroValue4
 t22 := Try.underlying50
 a22 := Try.isAgg50
 z22 := Try.sizeOf50
 v22 := Try.zeroValue50
 i3 := by kernel_rfl
end Go.Proofs

namespace Go.AL.Rl
open Go Go.AL Go.Proofs
set_option maxRecDepth 100000
set_option maxHeartbeats 3200000
variable {γ : Nat → Option AV}

def locP (v : RV) (p : Nat × Nat) : Int := (rAt v p.1).loc
def sortL (l : List Int) : List Int := l.mergeSort fun x y => decide (x ≤ y)
def locsV (v : RV) : List Int := Lib.compact (sortL ((racesV v).map (·.loc)))
/-- the heap of Locs while locations are put -/
def hpL (g : Gr) (v : RV) (n : Nat) (L : List Int) (l D : Nat) (oR oD : Obj) (s : Tr) (t : Array Value) : List Blk :=
 [.box (aGr g), .box (aRV v), .box (.sl 3 n 1 (fun _ => 0) fun _ => L.length), .run n 1 fun _ => is L, .obj D oD .nil #[], .obj l oR s t]
theorem allL_ok (g : Gr) (v : RV) (hv : RWf v) (hsm : v.ids.length ≤ 64) (l D : Nat) (oR oD : Obj) (s : Tr) (t : Array Value) (hT : leT 6 s s) (G : List (Nat × Nat) → Nat)
  (hy : ∀ (pre : List (Nat × Nat)) (a b : Nat), b < v.ids.length → a < b → oneM v a b = true → pre.length ≤ 4096 → YCall Try.prog γ l [.i fun _ => (a : Int), .i fun _ => (b : Int)] (hpL g v (G pre) (pre.map (locP v)) l D oR oD s t) (fun x h => x = .tt ∧ h = hpL g v (G (pre ++ [(a, b)])) ((pre ++ [(a, b)]).map (locP v)) l D oR oD s t)) :
  SCalls Try.prog γ 40 [.raw (.func (.yield l) #[] #[]), .vp (fun _ => aRV v) 0] (hpL g v (G []) [] l D oR oD s t) (Post (.tup []) (hpL g v (G (rpA v v.ids.length v.ids.length)) ((rpA v v.ids.length v.ids.length).map (locP v)) l D oR oD s t)) := by
 have h1 := hv.len
 have k1 := fun (a b : Nat) (ha : a < v.ids.length) (hb : b < v.ids.length) => rone_ok (γ := γ) v hv a b ha hb
 have lA := rpA_len v v.ids.length
 have lB := fun a => rpB_len v a v.ids.length
 obtain ⟨N, hN⟩ : ∃ N, N = v.ids.length := ⟨_, rfl⟩
 rw [← hN] at hsm hy k1 lA lB ⊢
 unfold aRV hpL at *
 generalize hI : v.ids = I at *
 generalize v.evs = Es at *
 generalize v.rows = Rw at *
 generalize v.sh = Sh at *
 generalize v.n = Vn at *
 have hT2 := hT
 cbv at hT2
 have hA0 : rpA v N 0 = [] := rfl
 have hAS := fun a => show rpA v N (a + 1) = rpA v N a ++ rpB v a N from rfl
 have hBS := fun a b => show rpB v a (b + 1) = rpB v a b ++ (if a < b ∧ oneM v a b = true then [(a, b)] else []) from rfl
 have hBl := rpB_low v
 have lAB : ∀ a b, a < N → b ≤ N → (rpA v N a ++ rpB v a b).length ≤ 4096 := fun a b ha hb => by
  have q1 := lA a
  have q2 := rpB_len v a b
  have q3 := Nat.mul_le_mul (show a ≤ 63 by omega) hsm
  rw [List.length_append]
  omega
 refine SCalls.go (ty := ty) ty_eq mo Try.func40 rfl Try.ntmps40 Try.results40 Try.call40 (by simp) fun P C CQ D W F E hF => ?_
 cbv
 skip
 repeat' (first
  |(refine ⟨fun _ h_s=>?_,fun _ h_s=>?_⟩<;>(cbv;(try simp only [nc] at *);try simp (disch:=(first|omega|(simp only [lnS];omega))) only [rdT,rdS,hT2,reduceCtorEq,trT] at h_s))
  |(refine hF ?_;intro _;clear hF)
  |(refine hF ?_;cbv;clear hF)
  |(refine ⟨fun _=>?_,?_⟩;(· ((try simp only [nc] at *);first|done|omega|exact ⟨by omega,rfl⟩|(simp (disch:=(first|omega|(simp only [lnS];omega))) only [rdT,rdS,hT2];first|done|omega|rfl|exact ⟨by omega,rfl⟩|(simp;done)|(simp;omega))|(intros;trivial)));(try (simp only [nc] at *));(try simp (disch:=(first|omega|(simp only [lnS];omega))) only [rdT,rdS,hT2]);(try cbv))
  | fail
 )
 refine E.loopS (ι:=Nat) (fun a=>a≤N) (fun a=>N - a) (fun a=>[(8,.i fun _=>((a : Nat) : Int))]) (fun a h=>(h.set 2 (.box (.sl 3 (G (rpA v N a)) 1 (fun _=>0) fun _=>((rpA v N a).map (locP v)).length))).set 3 (.run (G (rpA v N a)) 1 fun _=>is ((rpA v N a).map (locP v)))) 0 (fun _=>by first|rfl|simp) (Nat.zero_le _) ?_ fun a ha I1 hI1=>?_
 ·cbv; simp [hT2, hA0]
 cbv
 repeat' (first
  |(refine ⟨fun _ h_s=>?_,fun _ h_s=>?_⟩<;>(cbv;(try simp only [nc] at *);try simp (disch:=(first|omega|(simp only [lnS];omega))) only [rdT,rdS,hT2,reduceCtorEq,trT] at h_s))
  |(refine hF ?_;intro _;clear hF)
  |(refine hF ?_;cbv;clear hF)
  |(refine ⟨fun _=>?_,?_⟩;(· ((try simp only [nc] at *);first|done|omega|exact ⟨by omega,rfl⟩|(simp (disch:=(first|omega|(simp only [lnS];omega))) only [rdT,rdS,hT2];first|done|omega|rfl|exact ⟨by omega,rfl⟩|(simp;done)|(simp;omega))|(intros;trivial)));(try (simp only [nc] at *));(try simp (disch:=(first|omega|(simp only [lnS];omega))) only [rdT,rdS,hT2]);(try cbv))
  | fail
 )
 ·refine E.loopS (ι:=Nat) (fun b=>a + 1≤b∧b≤N) (fun b=>N - b) (fun b=>[(4,.i fun _=>((b : Nat) : Int))]) (fun b h=>(h.set 2 (.box (.sl 3 (G (rpA v N a ++ rpB v a b)) 1 (fun _=>0) fun _=>((rpA v N a ++ rpB v a b).map (locP v)).length))).set 3 (.run (G (rpA v N a ++ rpB v a b)) 1 fun _=>is ((rpA v N a ++ rpB v a b).map (locP v)))) (a + 1) (fun _=>by first|rfl|simp) ?_ ?_ fun b hb I2 hI2=>?_
  ·((try simp only [nc] at *); omega)
  ·cbv; simp [hT2, hBl]; exact w64_of (by omega) (by omega)
  cbv
  repeat' (first
   |(refine hI1 (a + 1) ?_ ?_ ?_;rotate_left 1;(· ((try simp only [nc] at *);omega));(cbv;clear hI1;(try clear hF);(try simp only [nc] at *);(try simp (disch:=(first|omega|(simp only [lnS];omega))) only [rdT,rdS,hT2,anT]));rotate_left 1;(try ((try simp only [nc] at *);omega)))
   |(refine hI2 (b + 1) ?_ ?_ ?_;rotate_left 1;(· ((try simp only [nc] at *);omega));(cbv;clear hI2;(try clear hF);(try simp only [nc] at *);(try simp (disch:=(first|omega|(simp only [lnS];omega))) only [rdT,rdS,hT2,anT]));rotate_left 1;(try ((try simp only [nc] at *);omega)))
   | (refine E.y (YCall.to (hy (rpA v N a ++ rpB v a b) a b (by ((try simp only [nc] at *); omega)) (by ((try simp only [nc] at *); omega)) (by assumption) (lAB a b (by ((try simp only [nc] at *); omega)) (by ((try simp only [nc] at *); omega)))) (by cbv) (by cbv; simp) (by cbv; simp [hT2]) ?_); cbv)
   |(refine E.c (SCalls.of_le (k1 a b (by ((try simp only [nc] at *);omega)) (by ((try simp only [nc] at *);omega))) ?_ ?_);(· (cbv;(try simp only [nc] at *);first|done|(simp;done)|(simp (disch:=(first|omega|(simp only [lnS];omega))) only [rdT,rdS,hT2,anT];first|done|omega|(refine ⟨?_,?_⟩<;>omega))|(simp (disch:=(first|omega|(simp only [lnS];omega))) [rdT,rdS,hT2];done)));cbv)
   |(refine ⟨fun _ h_s=>?_,fun _ h_s=>?_⟩<;>(cbv;(try simp only [nc] at *);try simp (disch:=(first|omega|(simp only [lnS];omega))) only [rdT,rdS,hT2,reduceCtorEq,trT] at h_s))
   |(refine hF ?_;intro _;clear hF)
   |(refine hF ?_;cbv;clear hF)
   |(refine ⟨fun _=>?_,?_⟩;(· ((try simp only [nc] at *);first|done|omega|exact ⟨by omega,rfl⟩|(simp (disch:=(first|omega|(simp only [lnS];omega))) only [rdT,rdS,hT2];first|done|omega|rfl|exact ⟨by omega,rfl⟩|(simp;done)|(simp;omega))|(intros;trivial)));(try (simp only [nc] at *));(try simp (disch:=(first|omega|(simp only [lnS];omega))) only [rdT,rdS,hT2]);(try cbv))
   | fail
  )
  ·have ho : oneM v a b = true := by assumption
   rw [hBS a b, if_pos ⟨by ((try simp only [nc] at *); omega), ho⟩, ← List.append_assoc]
   simp
  ·have ho : oneM v a b = false := by assumption
   rw [hBS a b, if_neg (by rw [ho]; simp), List.append_nil]
   simp
  ·have e : b = N := by ((try simp only [nc] at *); omega)
   subst e
   rw [hAS]
   simp
 ·have e : a = N := by ((try simp only [nc] at *); omega)
  subst e
  simp [hT2]
theorem allL_to (g : Gr) (v : RV) (hv : RWf v) (hsm : v.ids.length ≤ 64) (l D : Nat) (oR oD : Obj) (s : Tr) (t : Array Value) (hT : leT 6 s s) (G : List (Nat × Nat) → Nat)
  (hy : ∀ (pre : List (Nat × Nat)) (a b : Nat), b < v.ids.length → a < b → oneM v a b = true → pre.length ≤ 4096 → YCall Try.prog γ l [.i fun _ => (a : Int), .i fun _ => (b : Int)] (hpL g v (G pre) (pre.map (locP v)) l D oR oD s t) (fun x h => x = .tt ∧ h = hpL g v (G (pre ++ [(a, b)])) ((pre ++ [(a, b)]).map (locP v)) l D oR oD s t)) :
  SCalls Try.prog γ 40 [.raw (.func (.yield l) #[] #[]), .vp (fun _ => aRV v) 0] (hpL g v (G []) [] l D oR oD s t) (fun _ h => h = (hpL g v (G (rpA v v.ids.length v.ids.length)) ((rpA v v.ids.length v.ids.length).map (locP v)) l D oR oD s t)) := by
 have hT2 := hT
 cbv at hT2
 exact SCalls.to (allL_ok g v hv hsm l D oR oD s t hT G hy) rfl (Nat.le_refl _) (by cbv; simp) (by cbv; simp [hT2]) rfl
theorem sort_ok {h : List Blk} {b g : Nat} {zs : List Int} (hb : h[b]? = some (.run g 1 fun _ => is zs)) (hsz : zs.length ≤ 4096) {Q : AV → List Blk → Prop} (hQ : Q (.tup []) (h.set b (.run g 1 fun _ => is (sortL zs)))) :
  SCalls Try.prog γ 34 [.sl b g 1 (fun _ => 0) fun _ => zs.length] h Q := sort_run sort_lays Try.call34 hb (by omega) hQ
theorem compact_le (l : List Int) : (Lib.compact l).length ≤ l.length := by
 unfold Lib.compact Lib.compactUpTo
 rw [List.length_map]
 exact Nat.le_trans (List.length_filter_le _ _) (by simp)
theorem compact_ok {h : List Blk} {b g n : Nat} {zs : List Int} (hn : n = zs.length) (hb : h[b]? = some (.run g 1 fun _ => is zs)) (hsz : zs.length ≤ 4096) {Q : AV → List Blk → Prop}
  (hQ : Q (.sl b g 1 (fun _ => 0) fun _ => (Lib.compact zs).length) (h.set b (.run g 1 fun _ => is (Lib.compact zs ++ List.replicate (zs.length - (Lib.compact zs).length) 0)))) :
  SCalls Try.prog γ 35 [.sl b g 1 (fun _ => 0) fun _ => n] h Q := compact_run comp_lays Try.call35 hn hb (by omega) (compact_le zs) hQ
theorem racesV_len {v : RV} (hv : RWf v) : (racesV v).length ≤ 4096 := by
 have hl : v.ids.length ≤ 64 := by have := hv.big; have := hv.small; have := hv.sh; omega
 unfold racesV
 rw [List.length_map]
 exact Nat.le_trans (rpA_len _ _ _) (Nat.mul_le_mul hl hl)
end Go.AL.Rl

namespace Go.AL.Rl
open Go Go.AL Go.Proofs
set_option maxRecDepth 100000
set_option maxHeartbeats 3200000
variable {γ : Nat → Option AV}

theorem rlocs_ok (g : Gr) (hg : Rd g) : Pure Try.prog γ false 17 [aGr g] (.vs 1 fun _ => is (locsV (rvO g))) := by
 have kl := rlook_ok (γ := γ) g hg
 have hw := rvO_wf g
 generalize rvO g = v at *
 have hsm : v.ids.length ≤ 64 := by have := hw.big; have := hw.small; have := hw.sh; omega
 have ka := vall_ok (γ := γ) v
 have hrl := racesV_len hw
 unfold aRV at kl ka
 obtain ⟨rg, hrg⟩ : ∃ rg, rg = locsV v := ⟨_, rfl⟩
 rw [← hrg]
 refine Pure.goK (ty := ty) ty_eq mo Try.func17 rfl Try.ntmps17 Try.results17 Try.call17 (by simp) 4 (by kernel_rfl) fun P C CQ D W C2 CQ2 D2 F RQ E E2 hF hR => ?_
 cbv
 repeat' (first
  |(refine E.c (SCalls.of_le (ka) ?_ ?_);(· (cbv;(try simp only [nc] at *);first|done|(simp;done)|(simp (disch:=(first|omega|(simp only [lnS];omega))) only [rdT,rdS,anT];first|done|omega|(refine ⟨?_,?_⟩<;>omega))|(simp (disch:=(first|omega|(simp only [lnS];omega))) [rdT,rdS];done)));cbv)
  |(refine E.c (SCalls.of_le (kl) ?_ ?_);(· (cbv;(try simp only [nc] at *);first|done|(simp;done)|(simp (disch:=(first|omega|(simp only [lnS];omega))) only [rdT,rdS,anT];first|done|omega|(refine ⟨?_,?_⟩<;>omega))|(simp (disch:=(first|omega|(simp only [lnS];omega))) [rdT,rdS];done)));cbv)
  |(refine ⟨fun _ h_s=>?_,fun _ h_s=>?_⟩<;>(cbv;(try simp only [nc] at *);try simp (disch:=(first|omega|(simp only [lnS];omega))) only [rdT,rdS,reduceCtorEq,trT] at h_s))
  |(refine hF ?_;intro _;clear hF)
  |(refine hF ?_;cbv;clear hF)
  |(refine ⟨fun _=>?_,?_⟩;(· ((try simp only [nc] at *);first|done|omega|exact ⟨by omega,rfl⟩|(simp (disch:=(first|omega|(simp only [lnS];omega))) only [rdT,rdS];first|done|omega|rfl|exact ⟨by omega,rfl⟩|(simp;done)|(simp;omega))|(intros;trivial)));(try (simp only [nc] at *));(try simp (disch:=(first|omega|(simp only [lnS];omega))) only [rdT,rdS]);(try cbv))
  |(refine E.d 8 (by decide +kernel) ?_;cbv;(fail_if_success guard_target =~ False))
  | fail
 )
 obtain ⟨G, hG⟩ : ∃ G : List (Nat × Nat) → Nat, ∀ l, G l = l.length := ⟨_, fun _ => rfl⟩
 have hG0 : G [] = 0 := by rw [hG]; rfl
 have hGS : ∀ l x, G (l ++ [x]) = G l + 1 := fun l x => by rw [hG, hG]; simp
 refine hR ⟨_, _, _, Step.ghostBox 2 1 rfl, rfl, by cbv, fun l D t oR oB oX oE oEX oD oD' hY => ?_⟩
 refine SCalls.mono (h := hpL g v 0 [] l D oR oD _ t) (hG0 ▸ allL_to g v hw hsm l D oR oD _ t ?a G fun pre a b hb hab ho hp => hY _ _ _ rfl rfl ?b) fun _ h' hh' => .inl ?c
 case a => cbv; simp
 case c =>
  have e : (racesV v).map (·.loc) = (rpA v v.ids.length v.ids.length).map (locP v) := by unfold racesV; rw [List.map_map]; rfl
  unfold locsV at hrg
  rw [e] at hrg
  have hrl2 : ((rpA v v.ids.length v.ids.length).map (locP v)).length ≤ 4096 := by rw [← e, List.length_map]; exact hrl
  generalize rpA v v.ids.length v.ids.length = L at *
  generalize L.map (locP v) = M at *
  subst hh'
  have hs1 : (sortL M).length = M.length := by unfold sortL; simp
  have hs2 := compact_le (sortL M)
  cbv
  refine E2.c (sort_ok (b := 3) (zs := M) rfl hrl2 ?_)
  generalize sortL M = M2 at *
  cbv
  refine E2.c (compact_ok (b := 3) (zs := M2) hs1.symm rfl (by omega) ?_)
  generalize Lib.compact M2 = M3 at *
  subst hrg
  cbv
  repeat' (first
   |(refine ⟨fun _ h_s=>?_,fun _ h_s=>?_⟩<;>(cbv;(try simp only [nc] at *);try simp (disch:=(first|omega|(simp only [lnS];omega))) only [rdT,rdS,reduceCtorEq,trT] at h_s))
   |(refine hF ?_;intro _;clear hF)
   |(refine hF ?_;cbv;clear hF)
   |(refine ⟨fun _=>?_,?_⟩;(· ((try simp only [nc] at *);first|done|omega|exact ⟨by omega,rfl⟩|(simp (disch:=(first|omega|(simp only [lnS];omega))) only [rdT,rdS];first|done|omega|rfl|exact ⟨by omega,rfl⟩|(simp;done)|(simp;omega))|(intros;trivial)));(try (simp only [nc] at *));(try simp (disch:=(first|omega|(simp only [lnS];omega))) only [rdT,rdS]);(try cbv))
   |(refine E.d 8 (by decide +kernel) ?_;cbv;(fail_if_success guard_target =~ False))
   | fail
  )
  simp
  rw [← is_app]
  exact List.take_left' (by simp)
 case b =>
  have e1 := hw.len
  have e3 : pre.map (locP v) ++ [locP v (a, b)] = (pre ++ [(a, b)]).map (locP v) := by simp
  have e4 := hGS pre (a, b)
  have e5 : pre.length = (pre.map (locP v)).length := by simp
  have e6 : locP v (a, b) = (rAt v a).loc := rfl
  have e7 := hG pre
  rw [← e3, e4]
  rw [e5] at hp e7
  obtain ⟨P2, hP2⟩ : ∃ P2, P2 = pre.map (locP v) ++ [locP v (a, b)] := ⟨_, rfl⟩
  rw [← hP2]
  generalize pre.map (locP v) = Pr at *
  generalize G pre = gp at *
  cbv
  refine E2.d 8 (by decide +kernel) ?_
  cbv
  repeat' (first
   |(refine ⟨fun _ h_s=>?_,fun _ h_s=>?_⟩<;>(cbv;(try simp only [nc] at *);try simp (disch:=(first|omega|(simp only [lnS];omega))) only [rdT,rdS,reduceCtorEq,trT] at h_s))
   |(refine hF ?_;intro _;clear hF)
   |(refine hF ?_;cbv;clear hF)
   |(refine ⟨fun _=>?_,?_⟩;(· ((try simp only [nc] at *);first|done|omega|exact ⟨by omega,rfl⟩|(simp (disch:=(first|omega|(simp only [lnS];omega))) only [rdT,rdS];first|done|omega|rfl|exact ⟨by omega,rfl⟩|(simp;done)|(simp;omega))|(intros;trivial)));(try (simp only [nc] at *));(try simp (disch:=(first|omega|(simp only [lnS];omega))) only [rdT,rdS]);(try cbv))
   |(refine E.d 8 (by decide +kernel) ?_;cbv;(fail_if_success guard_target =~ False))
   | fail
  )
  refine ⟨fun _ => ⟨trivial, trivial, by simp, by simp; omega, by simp; omega, by simp [AV.flat, AV.cells, AV.one, setAll, AV.nrm, nrms, nrm1]⟩, ?_⟩
  simp [hP2, e6, is, setAll, AV.nrm, nrms, nrm1, rAt, ev0, id0]
end Go.AL.Rl

namespace Go.AL.Rl
open Go Go.AL Go.Proofs
set_option maxRecDepth 100000
set_option maxHeartbeats 1600000

end Go.AL.Rl

namespace Go.AL.Rl
open Go Go.AL Go.Proofs
set_option maxRecDepth 100000
set_option maxHeartbeats 3200000
variable {γ : Nat → Option AV}

theorem gW6 : GOk (gW 6) := by decide +kernel
theorem gW6v : viewG (gW 6) = vW 6 := by
 unfold viewG vW
 simp only [Vw.mk.injEq]
 decide +kernel
theorem races6 : racesV (rvG (gW 6)) = [] := by
 unfold rvG
 rw [gW6v, nGW]
 unfold hbF
 rw [swC_eq (by omega) (by decide +kernel)]
 decide +kernel
theorem bet2 : btM (rvG (gW 2)) ⟨2, 1⟩ ⟨1, 0⟩ = true := by
 unfold rvG
 rw [gW2v, nGW]
 unfold hbF
 rw [swC_eq (by omega) (by decide +kernel)]
 decide +kernel
theorem plain2 : plTo17 (rvG (gW 2)) (rvG (gW 2)).ids.length = [⟨1, 0⟩, ⟨2, 1⟩] := by
 unfold rvG
 decide +kernel
theorem locs2 : locsV (rvG (gW 2)) = [1] := by
 unfold locsV
 rw [races2]
 decide +kernel
theorem gE_no : ¬ GOk ⟨[1], [], [], []⟩ := fun h => by have := h.lord; simp at this
theorem rdE1 : Rd ⟨[1], [], [], []⟩ := by refine ⟨by simp, by simp, by simp, by simp, ?_, ?_, ?_⟩ <;> simp
theorem raceNames_ok : Pure Try.prog γ false 7 [] (.b fun _ => true) := by
 have kl := lives17_ok (γ := γ)
 have x2 := example17_ok (γ := γ) 2
 have x6 := example17_ok (γ := γ) 6
 have v2 : rvO (gW 2) = rvG (gW 2) := by unfold rvO; rw [if_pos gW2]
 have v6 : rvO (gW 6) = rvG (gW 6) := by unfold rvO; rw [if_pos gW6]
 have kA := rall_any (γ := γ) ⟨[1], [], [], []⟩ rdE1
 rw [if_neg gE_no] at kA
 have k1 := rhas_race_ok (γ := γ) (gW 2) (rdW 2)
 rw [v2, races2] at k1
 have k2 := rhas_race_ok (γ := γ) (gW 6) (rdW 6)
 rw [v6, races6] at k2
 have k3 := rbetween_ok (γ := γ) (gW 2) (rdW 2) ⟨2, 1⟩ ⟨1, 0⟩
 rw [v2, bet2] at k3
 have k4 := rlocs_ok (γ := γ) (gW 2) (rdW 2)
 rw [v2, locs2] at k4
 have k5 := rplain_ok (γ := γ) (gW 2) (rdW 2)
 rw [v2, plain2] at k5
 have k6 := ints_ok (γ := γ) [1] [1] (by simp)
 have k7 := kids_ok (γ := γ) [⟨1, 0⟩, ⟨2, 1⟩] [⟨1, 0⟩, ⟨2, 1⟩] (by simp)
 rw [decide_eq_true rfl] at k6 k7
 rw [decide_eq_true (by simp)] at k1
 rw [decide_eq_false (by simp)] at k2
 generalize gW 2 = g2 at *
 generalize gW 6 = g6 at *
 generalize racesV (rvO ⟨[1], [], [], []⟩) = L at *
 refine Pure.go (ty := ty) ty_eq mo Try.func7 rfl Try.ntmps7 Try.results7 Try.call7 (by simp) fun P C CQ D W F E hF => ?_
 cbv
 repeat' (first
  | (refine E.c (SCalls.of_le (k7) ?_ ?_); (· (cbv; simp [rls, ps, us, is, ids, evs, evss, idss, LV.of, setAll, AV.nrm]; done)); cbv)
  | (refine E.q (QCalls.of_le (k7) ?_ ?_); (· (cbv; simp [rls, ps, us, is, ids, evs, evss, idss, LV.of, setAll, AV.nrm]; done)); cbv)
  | (refine E.c (SCalls.of_bare (k6) rfl ?_ ?_); (· (cbv; simp [rls, ps, us, is, LV.of]; done)); cbv)
  | (refine E.c (SCalls.of_le (k6) ?_ ?_); (· (cbv; simp [rls, ps, us, is, LV.of]; done)); cbv)
  | (refine E.q (QCalls.of_le (k6) ?_ ?_); (· (cbv; simp [rls, ps, us, is, LV.of]; done)); cbv)
  |(refine E.c (SCalls.of_le (k5) ?_ ?_);(· (cbv;(try simp only [nc] at *);first|done|(simp;done)|(simp (disch:=(first|omega|(simp only [lnS];omega))) only [rdT,rdS,anT];first|done|omega|(refine ⟨?_,?_⟩<;>omega))|(simp (disch:=(first|omega|(simp only [lnS];omega))) [rdT,rdS];done)));cbv)
  |(refine E.c (SCalls.of_le (k4) ?_ ?_);(· (cbv;(try simp only [nc] at *);first|done|(simp;done)|(simp (disch:=(first|omega|(simp only [lnS];omega))) only [rdT,rdS,anT];first|done|omega|(refine ⟨?_,?_⟩<;>omega))|(simp (disch:=(first|omega|(simp only [lnS];omega))) [rdT,rdS];done)));cbv)
  |(refine E.c (SCalls.of_le (k3) ?_ ?_);(· (cbv;(try simp only [nc] at *);first|done|(simp;done)|(simp (disch:=(first|omega|(simp only [lnS];omega))) only [rdT,rdS,anT];first|done|omega|(refine ⟨?_,?_⟩<;>omega))|(simp (disch:=(first|omega|(simp only [lnS];omega))) [rdT,rdS];done)));cbv)
  |(refine E.c (SCalls.of_le (k2) ?_ ?_);(· (cbv;(try simp only [nc] at *);first|done|(simp;done)|(simp (disch:=(first|omega|(simp only [lnS];omega))) only [rdT,rdS,anT];first|done|omega|(refine ⟨?_,?_⟩<;>omega))|(simp (disch:=(first|omega|(simp only [lnS];omega))) [rdT,rdS];done)));cbv)
  |(refine E.c (SCalls.of_le (k1) ?_ ?_);(· (cbv;(try simp only [nc] at *);first|done|(simp;done)|(simp (disch:=(first|omega|(simp only [lnS];omega))) only [rdT,rdS,anT];first|done|omega|(refine ⟨?_,?_⟩<;>omega))|(simp (disch:=(first|omega|(simp only [lnS];omega))) [rdT,rdS];done)));cbv)
  | ((refine E.c (SCalls.of_le kA ?_ ?_); (· (cbv; simp [is, evss, idss, LV.of, LV.l, setAll, AV.nrm, nrms, nrm1]; done)); cbv))
  |(refine E.c (SCalls.of_le (x6) ?_ ?_);(· (cbv;(try simp only [nc] at *);first|done|(simp;done)|(simp (disch:=(first|omega|(simp only [lnS];omega))) only [rdT,rdS,anT];first|done|omega|(refine ⟨?_,?_⟩<;>omega))|(simp (disch:=(first|omega|(simp only [lnS];omega))) [rdT,rdS];done)));cbv)
  |(refine E.c (SCalls.of_le (x2) ?_ ?_);(· (cbv;(try simp only [nc] at *);first|done|(simp;done)|(simp (disch:=(first|omega|(simp only [lnS];omega))) only [rdT,rdS,anT];first|done|omega|(refine ⟨?_,?_⟩<;>omega))|(simp (disch:=(first|omega|(simp only [lnS];omega))) [rdT,rdS];done)));cbv)
  |(refine E.c (SCalls.of_le (kl) ?_ ?_);(· (cbv;(try simp only [nc] at *);first|done|(simp;done)|(simp (disch:=(first|omega|(simp only [lnS];omega))) only [rdT,rdS,anT];first|done|omega|(refine ⟨?_,?_⟩<;>omega))|(simp (disch:=(first|omega|(simp only [lnS];omega))) [rdT,rdS];done)));cbv)
  |(refine ⟨fun _ h_s=>?_,fun _ h_s=>?_⟩<;>(cbv;(try simp only [nc] at *);try simp (disch:=(first|omega|(simp only [lnS];omega))) only [rdT,rdS,reduceCtorEq,trT] at h_s))
  |(refine hF ?_;intro _;clear hF)
  |(refine hF ?_;cbv;clear hF)
  |(refine ⟨fun _=>?_,?_⟩;(· ((try simp only [nc] at *);first|done|omega|exact ⟨by omega,rfl⟩|(simp (disch:=(first|omega|(simp only [lnS];omega))) only [rdT,rdS];first|done|omega|rfl|exact ⟨by omega,rfl⟩|(simp;done)|(simp;omega))|(intros;trivial)));(try (simp only [nc] at *));(try simp (disch:=(first|omega|(simp only [lnS];omega))) only [rdT,rdS]);(try cbv))
  | fail
 )
 all_goals first
  | rfl
  | exact absurd trivial h_s
  | (exfalso; revert h_s; simp; done)
end Go.AL.Rl

namespace Go.AL
open Go Go.RowKit Go.ChangeShapes Go.WideShapes

section
variable {H : Type} {enc : TypeId × Value → H} {P : Program} {w : World} {spare : Nat → Bool} {held : Bool}

abbrev Old (w : World) : Nat → Prop := fun k => k < w.heap.size

/-- Whatever reads by the type 't' is told by an 'a'. -/
def Dec (P : Program) (t : TypeId) (α : Type) (en : α → List AV) (ok : α → Prop) : Prop :=
 ∀ {H : Type} (enc : TypeId × Value → H) (w : World) (spare : Nat → Bool) (held : Bool) (fuel : Nat) (cs : List Value) (x : DataW H × List MemPlace),
  DataW.trod enc P w 0 spare held fuel t cs = some x → ∃ a, ok a ∧ Rs (Old w) w none (en a) cs

theorem Dec.int {t : TypeId} (ht : P.underlying t = some (.int .i64)) : Dec P t Int (fun n => [.i fun _ => n]) fun n => -9223372036854775808 ≤ n ∧ n ≤ 9223372036854775807 := by
 intro H enc w spare held fuel cs x h
 obtain ⟨n, rfl, _, h2⟩ := DataW.trod_int ht h
 exact ⟨n, bounds_i64 h2, _, _, rfl, rfl, rfl⟩
theorem Dec.u64 {t : TypeId} (ht : P.underlying t = some (.int .u64)) : Dec P t (BitVec 64) (fun n => [.u fun _ => n]) fun _ => True := by
 intro H enc w spare held fuel cs x h
 obtain ⟨n, rfl, _, h2⟩ := DataW.trod_int ht h
 have := bounds_u64 h2
 refine ⟨BitVec.ofInt 64 n, trivial, _, _, rfl, ?_, rfl⟩
 simp only [R]
 congr 1
 simp only [BitVec.toNat_ofInt]
 omega
theorem Dec.bool {t : TypeId} (ht : P.underlying t = some .bool) : Dec P t Bool (fun b => [.b fun _ => b]) fun _ => True := by
 intro H enc w spare held fuel cs x h
 obtain ⟨b, rfl, _⟩ := DataW.trod_bool ht h
 exact ⟨b, trivial, _, _, rfl, rfl, rfl⟩

theorem cells?_get {w : World} {a : Addr} {n : Nat} {cs : List Value} (h : w.cells? 0 a n = some cs) : cs.length = n ∧ ∀ (i : Nat) (c : Value), cs[i]? = some c → w.cell? (a.add i) = some c := by
 simp only [World.cells?, Nat.zero_le, if_true] at h
 have hl : cs.length = n := by have := mapM_some_length h; simpa using this
 refine ⟨hl, fun i c hc => ?_⟩
 have hi : i < n := by have := (List.getElem?_eq_some_iff.1 hc).1; omega
 rw [mapM_some_get h i i (by simp [hi])]; exact hc

theorem list_of_all {α β : Type} {R' : α → β → Prop} : ∀ (l : List β), (∀ b ∈ l, ∃ a, R' a b) → ∃ r : List α, r.length = l.length ∧ ∀ (i : Nat) (a : α) (b : β), r[i]? = some a → l[i]? = some b → R' a b
 | [], _ => ⟨[], rfl, fun i a b h => by simp at h⟩
 | b :: l, h => by
  obtain ⟨a, ha⟩ := h b (by simp)
  obtain ⟨r, h1, h2⟩ := list_of_all l fun b hb => h b (by simp [hb])
  refine ⟨a :: r, by simp [h1], fun i a' b' ha' hb' => ?_⟩
  cases i with
  | zero => simp at ha' hb'; subst ha'; subst hb'; exact ha
  | succ i => exact h2 i a' b' (by simpa using ha') (by simpa using hb')

/-- the elements' values: 'mk' is '.agg' or the one cell -/
structure Elem (mk : List AV → AV) (k : Nat) : Prop where
 val : ∀ {S : Nat → Prop} {w : World} {l : List AV} {cs : List Value}, cs.length = k → l.all AV.one = true → Rs S w none l cs → ∃ v, v.cells.toList = cs ∧ R S w none (mk l) v
theorem Elem.agg (k : Nat) : Elem .agg k := ⟨fun {S w l cs} _ _ h => ⟨.agg cs.toArray, by simp [Value.cells], cs, rfl, h⟩⟩
theorem Elem.one : Elem (fun l => l.headD .any) 1 := ⟨fun {S w l cs} hl h1 h => by
 match cs, hl with
 | [c], _ =>
  match l, h with
  | x :: _, ⟨v, _, e, hx, hr⟩ =>
   cases e
   simp only [List.all_cons, Bool.and_eq_true] at h1
   exact ⟨c, by rw [cells_of_one (R_one hx h1.1)], hx⟩⟩

theorem Dec.slice {t e : TypeId} (ht : P.underlying t = some (.slice e)) {k : Nat} (hk : P.cellsOf e = k) (hk0 : 0 < k) {α : Type} {en : α → List AV} {ok : α → Prop} {mk : List AV → AV} (he : Dec P e α en ok) (hone : ∀ a, (en a).all AV.one = true) (hm : Elem mk k) :
  Dec P t (List α) (fun l => [.vs k fun _ => LV.of (l.map fun a => mk (en a))]) fun l => l.length ≤ maxLen ∧ ∀ a ∈ l, ok a := by
 subst hk
 intro H enc w spare held fuel cs x h
 rcases DataW.trod_slice ht h with ⟨rfl, _⟩ | ⟨a, len, cap, elems, rest, n, rfl, rfl, rfl, _, h2, h3, h4, h5, _⟩
 ·exact ⟨[], ⟨by simp, by simp⟩, _, _, rfl, ⟨none, 0, [], rfl, Nat.le_refl _, rfl, .inl rfl⟩, rfl⟩
 ·have key : ∀ i : Nat, i < len → ∃ (c : List Value) (a' : α), w.cells? 0 (a.add (i * P.cellsOf e)) (P.cellsOf e) = some c ∧ ok a' ∧ Rs (Old w) w none (en a') c := by
   intro i hi
   have := h5 i hi
   rw [List.getElem?_eq_getElem (by omega)] at this
   simp only [Option.bind_eq_some_iff] at this
   obtain ⟨c, hc, hd⟩ := this
   obtain ⟨a', ha, hr⟩ := he _ _ _ _ _ _ _ hd
   exact ⟨c, a', hc, ha, hr⟩
  have hlist := list_of_all (R' := fun (q : α × Value) (i : Nat) => ok q.1 ∧ q.2.cells.size = P.cellsOf e ∧ (∀ (j : Nat) (c : Value), q.2.cells[j]? = some c → w.cell? ((a.add (i * P.cellsOf e)).add j) = some c) ∧ R (Old w) w none (mk (en q.1)) q.2) (List.range len) fun i hi => by
   obtain ⟨c, a', hc, ha, hr⟩ := key i (by simpa using hi)
   obtain ⟨hl, hg⟩ := cells?_get hc
   obtain ⟨v, hv, hr'⟩ := hm.val hl (hone a') hr
   refine ⟨(a', v), ha, by rw [← Array.length_toList, hv]; exact hl, fun j c' hj => hg j c' ?_, hr'⟩
   rw [← hv]; simpa using hj
  obtain ⟨qs, hq1, hq2⟩ := hlist
  rw [List.length_range] at hq1
  have hq : ∀ (i : Nat) (q : α × Value), qs[i]? = some q → ok q.1 ∧ q.2.cells.size = P.cellsOf e ∧ (∀ (j : Nat) (c : Value), q.2.cells[j]? = some c → w.cell? ((a.add (i * P.cellsOf e)).add j) = some c) ∧ R (Old w) w none (mk (en q.1)) q.2 := fun i q hi =>
   hq2 i q i hi (by
    have := (List.getElem?_eq_some_iff.1 hi).1
    rw [List.getElem?_range (by omega)])
  refine ⟨qs.map (·.1), ⟨by simp; omega, fun a' ha' => ?_⟩, _, _, rfl, ⟨some a, cap, qs.map (·.2), by simp [hq1], by simp; omega, ?_, ?_⟩, rfl⟩
  ·obtain ⟨q, hqm, rfl⟩ := List.mem_map.1 ha'
   obtain ⟨i, hi, rfl⟩ := List.mem_iff_getElem.1 hqm
   exact (hq i _ (List.getElem?_eq_getElem hi)).1
  ·rw [RL_iff, LV.l_of, Rs_iff]
   refine ⟨by simp, fun i c v hc hv => ?_⟩
   simp only [List.map_map, List.getElem?_map, Option.map_eq_some_iff] at hc hv
   obtain ⟨q, hq', rfl⟩ := hc
   obtain ⟨q', hq'', rfl⟩ := hv
   rw [hq'] at hq''; cases hq''
   exact (hq i q hq').2.2.2
  ·cases hqs : qs with
   | nil => exact .inl rfl
   | cons q0 qr =>
    right
    have hlen : 0 < len := by rw [← hq1, hqs]; simp
    obtain ⟨_, hsz, hcell, _⟩ := hq 0 q0 (by rw [hqs]; rfl)
    have hc0 : ∃ c, q0.2.cells[0]? = some c := ⟨_, Array.getElem?_eq_getElem (by omega)⟩
    obtain ⟨c, hc⟩ := hc0
    have hw := hcell 0 c hc
    have ha0 : a.spot = none ∧ a.block < w.heap.size := by
     simp only [Nat.zero_mul, Addr.add, if_true] at hw
     unfold World.cell? at hw
     split at hw
     ·rename_i hb
      split at hw
      ·cases hw
      ·rename_i hs
       exact ⟨by simpa using hs, (Array.getElem?_eq_some_iff.1 hb).1⟩
     ·cases hw
    refine ⟨a, rfl, ha0.1, ha0.2, fun i ev hi => ?_⟩
    rw [← hqs] at hi
    simp only [List.getElem?_map, Option.map_eq_some_iff] at hi
    obtain ⟨q, hq', rfl⟩ := hi
    obtain ⟨_, h1, h2, _⟩ := hq i q hq'
    refine ⟨h1, fun j c hj => ?_⟩
    have := h2 j c hj
    have ea : (a.add (i * P.cellsOf e)).add j = ⟨a.block, a.off + (i * P.cellsOf e + j), none⟩ := by
     obtain ⟨b, o, s⟩ := a
     simp only at ha0
     obtain ⟨rfl, _⟩ := ha0
     simp only [Addr.add]
     by_cases h0 : i * P.cellsOf e = 0 <;> by_cases h1 : j = 0 <;> simp [h0, h1] <;> omega
    rw [← ea]; exact this

theorem trodAll_len {W : World} {b : Nat} : ∀ {ts : List TypeId} {vs : List Value} {ds : List (DataW H)} {p : List MemPlace}, DataW.TrodAll enc P W b spare held ts vs ds p → ds.length = ts.length
 | [], [], [], _, _ => rfl
 | _ :: _, _ :: _, _ :: _, _, ⟨_, _, _, h, _⟩ => by simp [trodAll_len h]
 | [], [], _ :: _, _, h => h.elim
 | [], _ :: _, _, _, h => h.elim
 | _ :: _, [], _, _, h => h.elim
 | _ :: _, _ :: _, [], _, h => h.elim
theorem trodAll_carry {W W' : World} (hq : ∀ k, k < W.heap.size → W'.heap[k]? = W.heap[k]?) : ∀ {ts : List TypeId} {vs : List Value} {ds : List (DataW H)} {p : List MemPlace},
  DataW.TrodAll enc P W 0 spare held ts vs ds p → (∀ p' ∈ p, p'.block < W.heap.size) → DataW.TrodAll enc P W' 0 spare held ts vs ds p
 | [], [], [], _, h, _ => h
 | _ :: _, _ :: _, _ :: _, _, ⟨p0, q0, ⟨n, h1⟩, h2, e⟩, lt => by
  subst e
  refine ⟨p0, q0, ⟨n, DataW.trod_carry _ _ _ _ h1 fun pl hpl => ?_⟩, trodAll_carry hq h2 fun p' hp => lt p' (List.mem_append_right _ hp), rfl⟩
  have hlt := lt pl (List.mem_append_left _ hpl)
  cases pl with
  | cell b off => exact World.cell?_of_block (hq b hlt)
  | map b => exact hq b hlt
 | [], [], _ :: _, _, h, _ => h.elim
 | [], _ :: _, _, _, h, _ => h.elim
 | _ :: _, [], _, _, h, _ => h.elim
 | _ :: _, _ :: _, [], _, h, _ => h.elim
theorem post_true {H : Type} {enc : TypeId × Value → H} {f : Func} {s : ChangeSpec} {W W' : World} {args : Array Value} {ds gs : List (DataW H)} {before : List MemPlace} {tb : TypeId}
  (hW : DataW.Whole enc P f.params.toList s.vars false W args.toList ds gs before) (hv : s.vars = []) (hres : f.resultTypes = #[tb]) (htb : P.underlying tb = some .bool)
  (hs : ∀ ds' : List (DataW H), ds'.length = f.params.size → s.fn H ds' = { results := [.lit (.bool true)], args := ds' })
  (hl : laidOutB P = true) (hm : mapsRowed P = true) (hz : ((List.range P.types.size).all fun t => match P.underlying t with | some (.slice e) => decide (0 < P.cellsOf e) | _ => true) = true) (hT : ∀ t ∈ f.params.toList, t < P.types.size)
  (hq : ∀ k, k < W.heap.size → W'.heap[k]? = W.heap[k]?) (fr : Fr W W') : s.post enc P f false true false false W args (.bool true) W' := by
 have hW' := hW
 obtain ⟨p, q, hA, hV, rfl, hfz, hnd⟩ := hW
 rw [hv] at hV
 obtain ⟨rfl, rfl⟩ := trodVars_none hV
 have hlen : ds.length = f.params.size := by have := trodAll_len hA; simpa using this
 have hsd := hs (ds ++ []) (by simpa using hlen)
 have hall : ∀ (b : Nat) (sp : Nat → Bool) (hd : Bool), DataW.TrodAll enc P W' b sp hd [tb] [.bool true] [.lit (.bool true)] [] := fun b sp hd => ⟨[], [], ⟨1, by simp [DataW.trod, htb, Value.cells]⟩, rfl, rfl⟩
 have carry : DataW.TrodAll enc P W' 0 (fun _ => true) true f.params.toList args.toList ds p := trodAll_carry hq hA fun p' hp => hW'.lt p' (by simpa using hp)
 have hargs : ∀ sp : Nat → Bool, (∀ x ∈ p, sp x.block = true) → DataW.TrodAll enc P W' 0 sp true f.params.toList args.toList (s.fn H (ds ++ [])).args p := fun sp hsp => by
  rw [hsd]
  simp only [List.append_nil]
  exact carry.respare (kids_rows hl hm) (fun t e ht hu => slices_full_of P hz t e ht hu) hT hsp
 have hvars : ∀ sp : Nat → Bool, DataW.TrodVars enc P W' sp s.vars (s.fn H (ds ++ [])).vars [] := fun sp => by rw [hsd, hv]; rfl
 have hlt : ∀ x ∈ p, x.block < W.heap.size := fun x hx => hW'.lt x (by simpa using hx)
 have hkept : W.keptBut W' (· ∈ p) := by
  refine ⟨fr.os, fr.output, fun i hi => ?_⟩
  rw [hq i hi]
  cases h : W.heap[i]? with
  | none => trivial
  | some o => cases o <;> simp
 have hres' : ∀ (b : Nat) (sp : Nat → Bool) (hd : Bool), DataW.TrodAll enc P W' b sp hd f.resultTypes.toList ((Value.bool true).resultList f.resultTypes.size) (s.fn H (ds ++ [])).results [] := fun b sp hd => by rw [hsd, hres]; exact hall b sp hd
 have h2 := hargs (fun _ => true) fun _ _ => rfl
 have hW3 : DataW.Whole enc P f.params.toList s.vars false W args.toList ds [] p := by simpa using hW'
 refine ⟨ds, [], p, [], p, [], hW3, hres' _ _ _, hargs (fun b => decide (b < W.heap.size)) fun x hx => decide_eq_true (hlt x hx), hvars _, World.keptBut_mono (fun x hx => ⟨hx, .inr (.inl hx)⟩) hkept, fun _ => ?_⟩
 obtain ⟨_, _, _, _, _, z, n⟩ := hW3
 refine ⟨ok_one hres rfl (okWide_bool_mk htb _), _, _, p, ⟨p, [], trodAll_append h2 (hres' _ _ _), hvars (fun _ => true), (List.append_nil p).symm, fun b off hp => (fr.frozen ⟨b, off, none⟩ (hlt _ hp)).trans (z b off hp), fun h => absurd h (by simp)⟩, fun x hx _ => by simpa using hx⟩

def Arg (P : Program) (t : TypeId) (α : Type) (en : α → AV) (ok : α → Prop) : Prop :=
 ∀ {H : Type} (enc : TypeId × Value → H) (W : World) (base : Nat) (v : Value) (d : DataW H) (p : List MemPlace), Value.okWide P W .any base t v → DataW.Trod enc P W 0 (fun _ => true) true t v d p → ∃ a, ok a ∧ R (Old W) W none (en a) v
theorem Arg.agg {t : TypeId} {a : Array Field} (ht : P.underlying t = some (.struct a)) {α : Type} {en : α → List AV} {ok : α → Prop} (h : Dec P t α en ok) : Arg P t α (fun a => .agg (en a)) ok := by
 intro H enc W base v d p hok ⟨n, hn⟩
 simp only [Value.okWide, ht] at hok
 obtain ⟨cs, rfl, _⟩ := hok
 obtain ⟨x, h1, h2⟩ := h _ _ _ _ _ _ _ hn
 exact ⟨x, h1, cs.toList, by simp, by simpa [Value.cells] using h2⟩
theorem Arg.one {t : TypeId} {k : TypeDesc} (ht : P.underlying t = some k) (hk : match k with | .int _ | .bool | .slice _ => True | _ => False) {α : Type} {en : α → AV} {ok : α → Prop} (h : Dec P t α (fun a => [en a]) ok) : Arg P t α en ok := by
 intro H enc W base v d p hok ⟨n, hn⟩
 obtain ⟨x, h1, y, ys, h2, h3, h4⟩ := h _ _ _ _ _ _ _ hn
 have h4 : ys = [] := h4
 subst h4
 have hv : v = y := by
  cases v
  case agg cs => cases k <;> first | exact hk.elim | simp [Value.okWide, ht, Cell.okWide, Cell.ok] at hok
  all_goals (simp [Value.cells] at h2; exact h2)
 subst hv
 exact ⟨x, h1, h3⟩

/-- A LAW, from its contract. -/
theorem law_true {γ : Nat → Option AV} {f : FuncId} {fn : Func} {s : ChangeSpec} {W : World} {args : Array Value} {ds gs : List (DataW H)} {before : List MemPlace} {tb : TypeId} {avs : List AV} (hp : Pure P γ false f avs (.b fun _ => true)) (hr : Rs (Old W) W none avs args.toList)
  (hγ : ∀ g x, γ g = some x → R (Old W) W none (.vp (fun _ => x) 0) (.pointer (some ⟨g, 0, none⟩)))
  (hW : DataW.Whole enc P fn.params.toList s.vars false W args.toList ds gs before) (hv : s.vars = []) (hres : fn.resultTypes = #[tb]) (htb : P.underlying tb = some .bool)
  (hs : ∀ ds' : List (DataW H), ds'.length = fn.params.size → s.fn H ds' = { results := [.lit (.bool true)], args := ds' })
  (hl : laidOutB P = true) (hm : mapsRowed P = true) (hz : ((List.range P.types.size).all fun t => match P.underlying t with | some (.slice e) => decide (0 < P.cellsOf e) | _ => true) = true) (hT : ∀ t ∈ fn.params.toList, t < P.types.size) :
  Calls P f args W fun e W' => ∃ v, e = .returned v ∧ s.post enc P fn false true false false W args v W' := by
 have := hp.2 (Old W) W args.toList (fun k hk => hk) hγ hr
 refine (this.mono fun e w' ⟨v', S', h1, h2, h3⟩ => ?_)
 have h2 : v' = .bool true := h2
 subst h2
 exact ⟨_, h1, post_true hW hv hres htb hs hl hm hz hT h3.same h3.fr⟩
end
end Go.AL

namespace Go.AL
open Go Go.RowKit Go.ChangeShapes Go.WideShapes
section
variable {P : Program}
end
end Go.AL

namespace Go.AL.Rl
open Go Go.AL Go.Proofs Go.RowKit Go.ChangeShapes Go.WideShapes Go.ChangeAt Go.Proofs.Ytjoggeafcdfidaa
set_option maxRecDepth 100000

theorem laidOut : laidOutB Try.prog = true := by kernel_rfl
theorem mapsOk : mapsRowed Try.prog = true := by kernel_rfl
theorem slicesOk : ((List.range Try.prog.types.size).all fun t => match Try.prog.underlying t with | some (.slice e) => decide (0 < Try.prog.cellsOf e) | _ => true) = true := by kernel_rfl
theorem own : ownKnob Try.prog.godebug = none := by kernel_rfl
def γ0 : Nat → Option AV := fun _ => none
theorem gok0 {W : World} : ∀ g x, γ0 g = some x → R (Old W) W none (.vp (fun _ => x) 0) (.pointer (some ⟨g, 0, none⟩)) := fun g x h => by cases h
end Go.AL.Rl

namespace Go.AL.Rl
open Go Go.AL Go.Proofs
set_option maxRecDepth 100000
open Go.RowKit Go.ChangeShapes Go.WideShapes Go.ChangeAt Go.Proofs.Ytjoggeafcdfidaa
namespace RaceNames
theorem contract (H : Type) (enc : TypeId × Value → H) (W : World) (base : Nat) (args : Array Value) (ds gs : List (DataW H)) (before : List MemPlace)
  (hval : ∀ (j : Nat) t v, Try.f7.params[j]? = some t → args[j]? = some v → Value.okWide Try.prog W .any base t v)
  (hW : DataW.Whole enc Try.prog Try.f7.params.toList Rows.raceNamesSpec.vars false W args.toList ds gs before) (hL : laidMet Try.prog Rows.raceNamesRow.laid W) :
  Calls Try.prog 7 args W fun e W' => ∃ v, e = .returned v ∧ Rows.raceNamesSpec.post enc Try.prog Try.f7 false true false false W args v W' := by
 have hW' := hW
 obtain ⟨p, q, hA, hV, rfl, hfz, hnd⟩ := hW
 rw [Try.params7] at hA hval
 obtain ⟨hargs, rfl, rfl⟩ := trodAll_nil hA
 obtain rfl : args = #[] := by cases args; simp_all
 exact law_true (raceNames_ok (γ := γ0)) rfl gok0 hW' rfl (tb := 4) (by kernel_rfl) Try.underlying4
  (fun ds' h => by match ds', h with | [], _ => rfl) laidOut mapsOk slicesOk (by rw [Try.params7]; decide +kernel)
theorem laid_met (os : Os) : laidMet Try.prog Rows.raceNamesRow.laid ((World.holding Try.prog os ⟨#[], #[], []⟩).forCall (fun _ _ => 0) ⟨#[], #[], []⟩).memory :=
 laidMet_of_run' 8 (by kernel_rfl) (by kernel_rfl)
theorem reads (os : Os) {H : Type} (enc : TypeId × Value → H) : ∃ places, DataW.whole enc Try.prog ((World.holding Try.prog os ⟨#[], #[], []⟩).forCall (fun _ _ => 0) ⟨#[], #[], []⟩).memory Try.f7.params.toList Rows.raceNamesSpec.vars false (#[] : Array Value).toList 8 = some ([], [], places) :=
 ⟨[], by kernel_rfl⟩
theorem lifted (os : Os) (started : os.Started) (H : Type) (enc : TypeId × Value → H) (F : Stop.Interp) :
  ReturnsInHanded {} Try.checked os 7 .any ((OpenSpec.ofChange Rows.raceNamesSpec).preRow enc Try.prog Try.f7 Rows.raceNamesRow.domain false Rows.raceNamesRow.laid) (((OpenSpec.ofChange Rows.raceNamesSpec).at F).post enc Try.prog Try.f7 false true false false) := by
 obtain ⟨places, hx⟩ := reads os enc
 refine returnsInHanded_of_row (C := Try.checked) (s := OpenSpec.ofChange Rows.raceNamesSpec) own started (by kernel_rfl) Try.func7
  (witness_row_at (enc := enc) (C := Try.checked) false (World.holding Try.prog os ⟨#[], #[], []⟩) #[] rfl (by kernel_rfl) (by kernel_rfl) (by kernel_rfl)
   (OpenSpec.preRow_of_cond 8 hx (by kernel_rfl) (fun k hk => by cases hk) (by kernel_rfl) (laid_met os))) ?_
 intro W base args ds gs before hval hW _ _ _ hL _ _
 exact contract H enc W base args ds gs before hval hW hL
theorem said : Rows.RaceNamesSaid :=
 OpenClaim.holds_of_cond 7 Try.f7 rfl rfl rfl rfl rfl rfl rfl ⟨rfl, rfl, rfl, rfl, rfl⟩ rfl rfl rfl rfl rfl (by kernel_rfl) Try.func7 (by kernel_rfl)
  (of_decide_eq_true (by kernel_rfl)) (by unfold Func.isWrapper; first | (rw [if_pos (by decide +kernel)]; kernel_rfl) | (rw [if_neg (by decide +kernel)]; exact ⟨rfl, rfl⟩))
  (fun os started H enc _ F => by rw [OpenClaim.pre_eq_preRow]; exact lifted os started H enc F)
end RaceNames
end Go.AL.Rl
