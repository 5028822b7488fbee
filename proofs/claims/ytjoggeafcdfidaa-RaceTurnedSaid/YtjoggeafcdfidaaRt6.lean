import Derived.Test.YtjoggeafcdfidaaRt5
import Derived.Shelf.Sort.Plain
import Derived.Shelf.Slices.CompactI
import Derived.Shelf.Slices.In.SortNone
set_option linter.unusedVariables false
set_option linter.unusedSimpArgs false
namespace Go.AL.Rl
open Go Go.AL Go.Proofs
set_option maxRecDepth 100000
set_option maxHeartbeats 3200000
variable {γ : Nat → Option AV}

def rpB (v : RV) (a : Nat) : Nat → List (Nat × Nat)
 | 0 => []
 | b + 1 => rpB v a b ++ (if a < b ∧ oneM v a b = true then [(a, b)] else [])
def rpA (v : RV) (m : Nat) : Nat → List (Nat × Nat)
 | 0 => []
 | a + 1 => rpA v m a ++ rpB v a m
theorem rpB_low (v : RV) (a : Nat) : ∀ b, b ≤ a + 1 → rpB v a b = []
 | 0, _ => rfl
 | b + 1, h => by
  rw [rpB, rpB_low v a b (by omega), if_neg (by omega)]; rfl
theorem rpB_len (v : RV) (a : Nat) : ∀ b, (rpB v a b).length ≤ b
 | 0 => by simp [rpB]
 | b + 1 => by
  rw [rpB, List.length_append]
  have := rpB_len v a b
  split <;> simp <;> omega
theorem rpA_len (v : RV) (m : Nat) : ∀ a, (rpA v m a).length ≤ a * m
 | 0 => by simp [rpA]
 | a + 1 => by
  rw [rpA, List.length_append, Nat.succ_mul]
  have := rpA_len v m a
  have := rpB_len v a m
  omega
structure Rc where
 loc : Int
 a : EId
 b : EId
deriving DecidableEq
abbrev aRc (r : Rc) : AV := .agg [.i fun _ => r.loc, .i fun _ => r.a.t, .i fun _ => r.a.i, .i fun _ => r.b.t, .i fun _ => r.b.i]
def rcs (l : List Rc) : LV := LV.of (l.map aRc)
@[simp] theorem rcs_len (l : List Rc) : (rcs l).l.length = l.length := by simp [rcs]
abbrev rc0 : Rc := ⟨0, id0, id0⟩
theorem rcs_at (l : List Rc) (i : Nat) (h : i < l.length) : (rcs l).l.getD i .any = aRc (l.getD i rc0) := by simp [rcs, h, List.getD_eq_getElem?_getD]
def rcOf (v : RV) (p : Nat × Nat) : Rc := ⟨(rAt v p.1).loc, v.ids.getD p.1 id0, v.ids.getD p.2 id0⟩
/-- the heap of All while races are put -/
def hpA (g : Gr) (v : RV) (n : Nat) (L : List Rc) (l D : Nat) (oR oD : Obj) (s : Tr) (t : Array Value) : List Blk :=
 [.box (aGr g), .box (aRV v), .box (.sl 3 n 5 (fun _ => 0) fun _ => L.length), .run n 5 fun _ => rcs L, .obj D oD .nil #[], .obj l oR s t]
theorem YCall.mono {P : Program} {l : Nat} {args : List AV} {h : List Blk} {Q Q' : AV → List Blk → Prop} (hy : YCall P γ l args h Q) (hq : ∀ v h, Q v h → Q' v h) : YCall P γ l args h Q' := fun B S ρ w vals h1 h2 => by
 obtain ⟨f, tm, asg, bd, k1, k2⟩ := hy B S ρ w vals h1 h2
 exact ⟨f, tm, asg, bd, k1, fun n => (k2 n).mono fun e w' ⟨v, h', S', ρ', v', q1, q2, q3⟩ => ⟨v, h', S', ρ', v', q1, hq _ _ q2, q3⟩⟩
theorem YCall.to {P : Program} {l : Nat} {args args' : List AV} {h h' h2 : List Blk} {x : AV} {Q : AV → List Blk → Prop} (hy : YCall P γ l args' h' fun v h => v = x ∧ h = h2) (hn : h'.length = h.length) (ha : leVs h.length args' args) (hh : leH h.length h' h) (hq : Q x h2) : YCall P γ l args h Q := fun B S ρ w vals hr hv => by
 have h1 := hr.le hh hn
 have h2 := Rs_le _ _ _ ha hv
 have e : ρ.take h.length = ρ := List.take_of_length_le (by rw [hr.len]; exact Nat.le_refl _)
 rw [e] at h1 h2
 obtain ⟨f, tm, asg, bd, k1, k2⟩ := hy B S ρ w vals h1 h2
 exact ⟨f, tm, asg, bd, k1, fun n => (k2 n).mono fun e w' ⟨v, h', S', ρ', v', q1, ⟨q2, q3⟩, q4⟩ => ⟨v, h', S', ρ', v', q1, by rw [q2, q3]; exact hq, q4⟩⟩
theorem allA_ok (g : Gr) (v : RV) (hv : RWf v) (hsm : v.ids.length ≤ 64) (l D : Nat) (oR oD : Obj) (s : Tr) (t : Array Value) (hT : leT 6 s s) (G : List (Nat × Nat) → Nat)
  (hy : ∀ (pre : List (Nat × Nat)) (a b : Nat), b < v.ids.length → a < b → oneM v a b = true → pre.length ≤ 4096 → YCall Try.prog γ l [.i fun _ => (a : Int), .i fun _ => (b : Int)] (hpA g v (G pre) (pre.map (rcOf v)) l D oR oD s t) (fun x h => x = .tt ∧ h = hpA g v (G (pre ++ [(a, b)])) ((pre ++ [(a, b)]).map (rcOf v)) l D oR oD s t)) :
  SCalls Try.prog γ 40 [.raw (.func (.yield l) #[] #[]), .vp (fun _ => aRV v) 0] (hpA g v (G []) [] l D oR oD s t) (Post (.tup []) (hpA g v (G (rpA v v.ids.length v.ids.length)) ((rpA v v.ids.length v.ids.length).map (rcOf v)) l D oR oD s t)) := by
 have h1 := hv.len
 have k1 := fun (a b : Nat) (ha : a < v.ids.length) (hb : b < v.ids.length) => rone_ok (γ := γ) v hv a b ha hb
 have lA := rpA_len v v.ids.length
 have lB := fun a => rpB_len v a v.ids.length
 obtain ⟨N, hN⟩ : ∃ N, N = v.ids.length := ⟨_, rfl⟩
 rw [← hN] at hsm hy k1 lA lB ⊢
 unfold aRV hpA at *
 generalize hI : v.ids = I at *
 generalize v.evs = Es at *
 generalize v.rows = Rw at *
 generalize v.sh = Sh at *
 generalize v.n = Vn at *
 have hT2 := hT
 cbv at hT2
 have hA0 : rpA v N 0 = [] := rfl
 have hAS := fun a => show rpA v N (a + 1) = rpA v N a ++ rpB v a N from rfl
 have hBS := fun a b => show rpB v a (b + 1) = rpB v a b ++ (if a < b ∧ oneM v a b = true then [(a, b)] else []) from rfl
 have hBl := rpB_low v
 have lAB : ∀ a b, a < N → b ≤ N → (rpA v N a ++ rpB v a b).length ≤ 4096 := fun a b ha hb => by
  have q1 := lA a
  have q2 := rpB_len v a b
  have q3 := Nat.mul_le_mul (show a ≤ 63 by omega) hsm
  rw [List.length_append]
  omega
 refine SCalls.go (ty := ty) ty_eq mo Try.func40 rfl Try.ntmps40 Try.results40 Try.call40 (by simp) fun P C CQ D W F E hF => ?_
 cbv
 skip
 repeat' (first
  |(refine ⟨fun _ h_s=>?_,fun _ h_s=>?_⟩<;>(cbv;(try simp only [nc] at *);try simp (disch:=(first|omega|(simp only [lnS];omega))) only [rdT,rdS,hT2,reduceCtorEq,trT] at h_s))
  |(refine hF ?_;intro _;clear hF)
  |(refine hF ?_;cbv;clear hF)
  |(refine ⟨fun _=>?_,?_⟩;(· ((try simp only [nc] at *);first|done|omega|exact ⟨by omega,rfl⟩|(simp (disch:=(first|omega|(simp only [lnS];omega))) only [rdT,rdS,hT2];first|done|omega|rfl|exact ⟨by omega,rfl⟩|(simp;done)|(simp;omega))|(intros;trivial)));(try (simp only [nc] at *));(try simp (disch:=(first|omega|(simp only [lnS];omega))) only [rdT,rdS,hT2]);(try cbv))
  | fail
 )
 refine E.loopS (ι:=Nat) (fun a=>a≤N) (fun a=>N - a) (fun a=>[(8,.i fun _=>((a : Nat) : Int))]) (fun a h=>(h.set 2 (.box (.sl 3 (G (rpA v N a)) 5 (fun _=>0) fun _=>((rpA v N a).map (rcOf v)).length))).set 3 (.run (G (rpA v N a)) 5 fun _=>rcs ((rpA v N a).map (rcOf v)))) 0 (fun _=>by first|rfl|simp) (Nat.zero_le _) ?_ fun a ha I1 hI1=>?_
 ·cbv; simp [hT2, hA0]
 cbv
 repeat' (first
  |(refine ⟨fun _ h_s=>?_,fun _ h_s=>?_⟩<;>(cbv;(try simp only [nc] at *);try simp (disch:=(first|omega|(simp only [lnS];omega))) only [rdT,rdS,hT2,reduceCtorEq,trT] at h_s))
  |(refine hF ?_;intro _;clear hF)
  |(refine hF ?_;cbv;clear hF)
  |(refine ⟨fun _=>?_,?_⟩;(· ((try simp only [nc] at *);first|done|omega|exact ⟨by omega,rfl⟩|(simp (disch:=(first|omega|(simp only [lnS];omega))) only [rdT,rdS,hT2];first|done|omega|rfl|exact ⟨by omega,rfl⟩|(simp;done)|(simp;omega))|(intros;trivial)));(try (simp only [nc] at *));(try simp (disch:=(first|omega|(simp only [lnS];omega))) only [rdT,rdS,hT2]);(try cbv))
  | fail
 )
 ·refine E.loopS (ι:=Nat) (fun b=>a + 1≤b∧b≤N) (fun b=>N - b) (fun b=>[(4,.i fun _=>((b : Nat) : Int))]) (fun b h=>(h.set 2 (.box (.sl 3 (G (rpA v N a ++ rpB v a b)) 5 (fun _=>0) fun _=>((rpA v N a ++ rpB v a b).map (rcOf v)).length))).set 3 (.run (G (rpA v N a ++ rpB v a b)) 5 fun _=>rcs ((rpA v N a ++ rpB v a b).map (rcOf v)))) (a + 1) (fun _=>by first|rfl|simp) ?_ ?_ fun b hb I2 hI2=>?_
  ·((try simp only [nc] at *); omega)
  ·cbv; simp [hT2, hBl]; exact w64_of (by omega) (by omega)
  cbv
  repeat' (first
   |(refine hI1 (a + 1) ?_ ?_ ?_;rotate_left 1;(· ((try simp only [nc] at *);omega));(cbv;clear hI1;(try clear hF);(try simp only [nc] at *);(try simp (disch:=(first|omega|(simp only [lnS];omega))) only [rdT,rdS,hT2,anT]));rotate_left 1;(try ((try simp only [nc] at *);omega)))
   |(refine hI2 (b + 1) ?_ ?_ ?_;rotate_left 1;(· ((try simp only [nc] at *);omega));(cbv;clear hI2;(try clear hF);(try simp only [nc] at *);(try simp (disch:=(first|omega|(simp only [lnS];omega))) only [rdT,rdS,hT2,anT]));rotate_left 1;(try ((try simp only [nc] at *);omega)))
   | (refine E.y (YCall.to (hy (rpA v N a ++ rpB v a b) a b (by ((try simp only [nc] at *); omega)) (by ((try simp only [nc] at *); omega)) (by assumption) (lAB a b (by ((try simp only [nc] at *); omega)) (by ((try simp only [nc] at *); omega)))) (by cbv) (by cbv; simp) (by cbv; simp [hT2]) ?_); cbv)
   |(refine E.c (SCalls.of_le (k1 a b (by ((try simp only [nc] at *);omega)) (by ((try simp only [nc] at *);omega))) ?_ ?_);(· (cbv;(try simp only [nc] at *);first|done|(simp;done)|(simp (disch:=(first|omega|(simp only [lnS];omega))) only [rdT,rdS,hT2,anT];first|done|omega|(refine ⟨?_,?_⟩<;>omega))|(simp (disch:=(first|omega|(simp only [lnS];omega))) [rdT,rdS,hT2];done)));cbv)
   |(refine ⟨fun _ h_s=>?_,fun _ h_s=>?_⟩<;>(cbv;(try simp only [nc] at *);try simp (disch:=(first|omega|(simp only [lnS];omega))) only [rdT,rdS,hT2,reduceCtorEq,trT] at h_s))
   |(refine hF ?_;intro _;clear hF)
   |(refine hF ?_;cbv;clear hF)
   |(refine ⟨fun _=>?_,?_⟩;(· ((try simp only [nc] at *);first|done|omega|exact ⟨by omega,rfl⟩|(simp (disch:=(first|omega|(simp only [lnS];omega))) only [rdT,rdS,hT2];first|done|omega|rfl|exact ⟨by omega,rfl⟩|(simp;done)|(simp;omega))|(intros;trivial)));(try (simp only [nc] at *));(try simp (disch:=(first|omega|(simp only [lnS];omega))) only [rdT,rdS,hT2]);(try cbv))
   | fail
  )
  ·have ho : oneM v a b = true := by assumption
   rw [hBS a b, if_pos ⟨by ((try simp only [nc] at *); omega), ho⟩, ← List.append_assoc]
   simp
  ·have ho : oneM v a b = false := by assumption
   rw [hBS a b, if_neg (by rw [ho]; simp), List.append_nil]
   simp
  ·have e : b = N := by ((try simp only [nc] at *); omega)
   subst e
   rw [hAS]
   simp
 ·have e : a = N := by ((try simp only [nc] at *); omega)
  subst e
  simp [hT2]
theorem allA_to (g : Gr) (v : RV) (hv : RWf v) (hsm : v.ids.length ≤ 64) (l D : Nat) (oR oD : Obj) (s : Tr) (t : Array Value) (hT : leT 6 s s) (G : List (Nat × Nat) → Nat)
  (hy : ∀ (pre : List (Nat × Nat)) (a b : Nat), b < v.ids.length → a < b → oneM v a b = true → pre.length ≤ 4096 → YCall Try.prog γ l [.i fun _ => (a : Int), .i fun _ => (b : Int)] (hpA g v (G pre) (pre.map (rcOf v)) l D oR oD s t) (fun x h => x = .tt ∧ h = hpA g v (G (pre ++ [(a, b)])) ((pre ++ [(a, b)]).map (rcOf v)) l D oR oD s t)) :
  SCalls Try.prog γ 40 [.raw (.func (.yield l) #[] #[]), .vp (fun _ => aRV v) 0] (hpA g v (G []) [] l D oR oD s t) (fun _ h => h = (hpA g v (G (rpA v v.ids.length v.ids.length)) ((rpA v v.ids.length v.ids.length).map (rcOf v)) l D oR oD s t)) := by
 have hT2 := hT
 cbv at hT2
 exact SCalls.to (allA_ok g v hv hsm l D oR oD s t hT G hy) rfl (Nat.le_refl _) (by cbv; simp) (by cbv; simp [hT2]) rfl
end Go.AL.Rl

namespace Go.AL.Rl
open Go Go.AL Go.Proofs
set_option maxRecDepth 100000
set_option maxHeartbeats 1600000

end Go.AL.Rl

namespace Go.AL.Rl
open Go Go.AL Go.Proofs
set_option maxRecDepth 100000
set_option maxHeartbeats 1600000
variable {γ : Nat → Option AV}

def numI (l : List EId) (d : EId) : Int := match l.findIdx? (fun x => decide (x = d)) with | some k => (k : Nat) | none => -1
theorem numI_at {l : List EId} {d : EId} {k : Nat} (hk : k < l.length) (h : l.getD k id0 = d) (hb : ∀ j < k, l.getD j id0 ≠ d) : numI l d = k := by
 have e : l.findIdx? (fun x => decide (x = d)) = some k := by
  rw [List.findIdx?_eq_some_iff_getElem]
  refine ⟨hk, by simpa [hk] using h, fun j hj => ?_⟩
  have := hb j hj
  have hj' : j < l.length := by omega
  simpa [hj'] using this
 unfold numI; rw [e]
theorem numI_no {l : List EId} {d : EId} (hb : ∀ j < l.length, l.getD j id0 ≠ d) : numI l d = -1 := by
 have e : l.findIdx? (fun x => decide (x = d)) = none := by
  rw [List.findIdx?_eq_none_iff]
  intro x hx
  obtain ⟨j, hj, rfl⟩ := List.getElem_of_mem hx
  have := hb j hj
  simpa [hj] using this
 unfold numI; rw [e]
theorem numI_lt (l : List EId) (d : EId) : -1 ≤ numI l d ∧ numI l d < l.length := by
 unfold numI
 cases h : l.findIdx? (fun x => decide (x = d)) with
 | none => simp; omega
 | some k =>
  have := (List.findIdx?_eq_some_iff_getElem.1 h).1
  simp only; omega
theorem index_ok (l : List EId) (d : EId) (hl : (l.length : Int) ≤ 9223372036854775807) : Pure Try.prog γ false 32 [.vs 2 fun _ => ids l, aId d] (.i fun _ => numI l d) := by
 refine Pure.go (ty := ty) ty_eq mo Try.func32 rfl Try.ntmps32 Try.results32 Try.call32 (by simp) fun P C CQ D W F E hF => ?_
 cbv
 repeat' (first
  |(refine ⟨fun _ h_s=>?_,fun _ h_s=>?_⟩<;>(cbv;(try simp only [nc] at *);try simp (disch:=(first|omega|(simp only [lnS];omega))) only [rdT,rdS,reduceCtorEq,trT] at h_s))
  |(refine hF ?_;intro _;clear hF)
  |(refine hF ?_;cbv;clear hF)
  |(refine ⟨fun _=>?_,?_⟩;(· ((try simp only [nc] at *);first|done|omega|exact ⟨by omega,rfl⟩|(simp (disch:=(first|omega|(simp only [lnS];omega))) only [rdT,rdS];first|done|omega|rfl|exact ⟨by omega,rfl⟩|(simp;done)|(simp;omega))|(intros;trivial)));(try (simp only [nc] at *));(try simp (disch:=(first|omega|(simp only [lnS];omega))) only [rdT,rdS]);(try cbv))
  |(refine E.d 5 (by decide +kernel) ?_;cbv;(fail_if_success guard_target =~ False))
  | fail
 )
 refine E.loopS (ι:=Nat) (fun i=>i≤l.length∧(∀ k < i,l.getD k id0 ≠ d)) (fun i=>l.length - i) (fun i=>[(8,.i fun _=>((i : Nat) : Int))]) (fun i h=>h) 0 (fun _=>by first|rfl|simp) ⟨Nat.zero_le _,?_⟩ ?_ fun i hi I hI=>?_
 ·intro k hk; omega
 ·cbv; simp
 cbv
 obtain ⟨hi, hp⟩ := hi
 repeat' (first
  |(refine hI (i + 1) ?_ ?_ ?_;rotate_left 1;(· ((try simp only [nc] at *);omega));(cbv;clear hI;(try clear hF);(try simp only [nc] at *);(try simp (disch:=(first|omega|(simp only [lnS];omega))) only [rdT,rdS,anT]));rotate_left 1;(try ((try simp only [nc] at *);omega)))
  |(refine ⟨fun _ h_s=>?_,fun _ h_s=>?_⟩<;>(cbv;(try simp only [nc] at *);try simp (disch:=(first|omega|(simp only [lnS];omega))) only [rdT,rdS,reduceCtorEq,trT] at h_s))
  |(refine hF ?_;intro _;clear hF)
  |(refine hF ?_;cbv;clear hF)
  |(refine ⟨fun _=>?_,?_⟩;(· ((try simp only [nc] at *);first|done|omega|exact ⟨by omega,rfl⟩|(simp (disch:=(first|omega|(simp only [lnS];omega))) only [rdT,rdS];first|done|omega|rfl|exact ⟨by omega,rfl⟩|(simp;done)|(simp;omega))|(intros;trivial)));(try (simp only [nc] at *));(try simp (disch:=(first|omega|(simp only [lnS];omega))) only [rdT,rdS]);(try cbv))
  |(refine E.d 5 (by decide +kernel) ?_;cbv;(fail_if_success guard_target =~ False))
  | fail
 )
 ·simp only [Bool.and_true, Bool.and_eq_true, decide_eq_true_eq] at h_s
  have he : l.getD i id0 = d := (EId.ext' h_s.1 h_s.2).symm
  exact (numI_at (by ((try simp only [nc] at *); omega)) he hp).symm
 ·refine ⟨by ((try simp only [nc] at *); omega), fun k hk => ?_⟩
  rcases Nat.lt_or_ge k i with h1 | h1
  ·exact hp k h1
  ·obtain rfl : k = i := by omega
   intro e
   rw [← e] at h_s
   simp at h_s
 ·push_cast; rfl
 ·have e : i = l.length := by ((try simp only [nc] at *); omega)
  subst e
  exact (numI_no hp).symm
end Go.AL.Rl

namespace Go.AL.Rl
open Go Go.AL Go.Proofs
set_option maxRecDepth 100000
set_option maxHeartbeats 3200000
variable {γ : Nat → Option AV}

end Go.AL.Rl

namespace Go.AL.Rl
open Go Go.AL Go.Proofs
set_option maxRecDepth 100000
set_option maxHeartbeats 3200000
variable {γ : Nat → Option AV}

end Go.AL.Rl

namespace Go.AL.Rl
open Go Go.AL Go.Proofs
set_option maxRecDepth 100000
set_option maxHeartbeats 3200000
variable {γ : Nat → Option AV}

end Go.AL.Rl

namespace Go.AL.Rl
open Go Go.AL Go.Proofs
set_option maxRecDepth 100000
set_option maxHeartbeats 3200000
variable {γ : Nat → Option AV}

end Go.AL.Rl

namespace Go.AL.Rl
open Go Go.AL Go.Proofs
set_option maxRecDepth 100000
set_option maxHeartbeats 3200000
variable {γ : Nat → Option AV}

structure Mk where
 id : EId
 w : Bool
theorem Mk.ext' {a b : Mk} (h1 : a.id = b.id) (h2 : a.w = b.w) : a = b := by cases a; cases b; simp_all
instance : DecidableEq Mk := fun a b => decidable_of_iff (a.id = b.id ∧ a.w = b.w) ⟨fun h => Mk.ext' h.1 h.2, fun h => by subst h; exact ⟨rfl, rfl⟩⟩
abbrev mk0 : Mk := ⟨⟨0, 0⟩, false⟩
abbrev aMk (m : Mk) : AV := .agg [.i fun _ => m.id.t, .i fun _ => m.id.i, .b fun _ => m.w]
def mks (l : List Mk) : LV := LV.of (l.map aMk)
@[simp] theorem mks_len (l : List Mk) : (mks l).l.length = l.length := by simp [mks]
structure Sta where
 g : Gr
 ms : List Mk
 half : Int
def needM (d : EId) (k : Int) : List Mk := (if k = 2 then [] else [⟨d, false⟩]) ++ if k = 2 ∨ k = 3 then [⟨d, true⟩] else []
end Go.AL.Rl

namespace Go.AL.Rl
open Go Go.AL Go.Proofs
set_option maxRecDepth 100000
set_option maxHeartbeats 1600000

end Go.AL.Rl

namespace Go.AL
open Go Go.RowKit
section
variable {P : Program} {γ : Nat → Option AV} {C : EC} {CQ : List Blk → QC} {T : Nat → TI} {D : Array Oper → (St → Prop) → St → Prop} {W : Code → (Exit → St → Prop) → St → Prop}
theorem inBlk_mono {id : Nat} {Q Q' : Exit → St → Prop} (h : ∀ e A, Q e A → Q' e A) : ∀ e A, inBlk id Q e A → inBlk id Q' e A := by
 intro e A
 cases e with
 | exit id' => simp only [inBlk]; split <;> exact h _ _
 | _ => exact h _ _
/-- the last part of a block, and what stands behind it -/
theorem Env.blk (E : Env P γ C CQ T D W) {n id : Nat} {l r : List Code} {Q : Exit → St → Prop} {A : St} (h : vcl T γ C D W l (inBlk id (thenE (fun A => vcl T γ C D W r Q A) Q)) A) : AWPl P γ n l (inBlk id (thenE (fun A => AWPl P γ n r Q A) Q)) A :=
 (E.bl h).mono (inBlk_mono fun e A h' => by
  cases e with
  | normal => exact E.bl h'
  | _ => exact h')
end
end Go.AL
namespace Go.AL.Rl
open Go Go.AL Go.Proofs
set_option maxRecDepth 100000
set_option maxHeartbeats 3200000
variable {γ : Nat → Option AV}

abbrev gz : Gr := ⟨[], [], [], []⟩
end Go.AL.Rl

namespace Go.AL.Rl
open Go Go.AL Go.Proofs
set_option maxRecDepth 100000
set_option maxHeartbeats 3200000
variable {γ : Nat → Option AV}

/-- the last place of a mark among the first ones -/
def lastK (ms : List Mk) (d : Mk) : Nat → Option Nat
 | 0 => none
 | n + 1 => if ms.getD n mk0 = d then some n else lastK ms d n
def plK (ms : List Mk) (d : Mk) : Int := match lastK ms d ms.length with | some k => (k : Nat) | none => -1
/-- the last place, as long as they go up -/
def scanK (p : Mk → Int) (l : List Mk) : Option Int := l.foldl (fun s d => s.bind fun x => if x < p d then some (p d) else none) (some (-1))
def needE (t : Nat) (l : List Ev) (i : Nat) : List Mk := (List.range i).flatMap fun (j : Nat) => needM ⟨(t : Int) + 1, (j : Int)⟩ (l.getD j ev0).kind
def cntN (g : Gr) (t : Nat) : Nat := ((List.range t).map fun k => (needE k (g.th.getD k []) (g.th.getD k []).length).length).sum
def markedM (g : Gr) (ms : List Mk) : Bool := decide (∀ t < g.th.length, (scanK (plK ms) (needE t (g.th.getD t []) (g.th.getD t []).length)).isSome = true) && decide (cntN g g.th.length = ms.length)
end Go.AL.Rl

namespace Go.AL.Rl
open Go Go.AL Go.Proofs
set_option maxRecDepth 100000
set_option maxHeartbeats 3200000
variable {γ : Nat → Option AV}

end Go.AL.Rl

namespace Go.AL.Rl
open Go Go.AL Go.Proofs
set_option maxRecDepth 100000
set_option maxHeartbeats 3200000
variable {γ : Nat → Option AV}

end Go.AL.Rl

namespace Go.AL.Rl
open Go Go.AL Go.Proofs
set_option maxRecDepth 100000
set_option maxHeartbeats 3200000
variable {γ : Nat → Option AV}

def halfOk (s : Sta) : Bool := decide (0 ≤ s.half) && decide (s.half ≤ s.g.th.length) && (decide (s.half = 0) || (decide ((s.g.th.getD (s.half - 1).toNat []).length ≠ 0) && decide (((s.g.th.getD (s.half - 1).toNat []).getD ((s.g.th.getD (s.half - 1).toNat []).length - 1) ev0).kind = 1)))
def SOk (s : Sta) : Prop := GOk s.g ∧ markedM s.g s.ms = true ∧ halfOk s = true
instance (s : Sta) : Decidable (SOk s) := inferInstanceAs (Decidable (_ ∧ _))
end Go.AL.Rl

namespace Go.AL.Rl
open Go Go.AL Go.Proofs
set_option maxRecDepth 100000
set_option maxHeartbeats 3200000
variable {γ : Nat → Option AV}

abbrev sz : Sta := ⟨gz, [], 0⟩
end Go.AL.Rl

namespace Go.AL.Rl
open Go Go.AL Go.Proofs
set_option maxRecDepth 100000
set_option maxHeartbeats 3200000
variable {γ : Nat → Option AV}

end Go.AL.Rl

namespace Go.AL.Rl
open Go Go.AL Go.Proofs
set_option maxRecDepth 100000
set_option maxHeartbeats 3200000
variable {γ : Nat → Option AV}

end Go.AL.Rl

namespace Go.AL.Rl
open Go Go.AL Go.Proofs
set_option maxRecDepth 100000
set_option maxHeartbeats 3200000

def evT (g : Gr) (d : EId) : Prop := 1 ≤ d.t ∧ d.t ≤ g.th.length ∧ 0 ≤ d.i ∧ d.i < (g.th.getD (d.t - 1).toNat []).length
def ahead (g : Gr) (a d : EId) : Prop := (a.t = d.t ∧ a.i < d.i) ∨ (readsM ((eventM g d).getD ev0) = true ∧ srcOf g d = a)
def Dn (g : Gr) (l : List EId) : Prop := ∀ d ∈ l, ∀ a, evT g a → ahead g a d → a ∈ l
/-- what is closed: events of threads, none twice, with all ahead of them -/
def ClG (g : Gr) (l : List EId) : Prop := l.Nodup ∧ (∀ d ∈ l, evT g d) ∧ Dn g l
end Go.AL.Rl

namespace Go.AL.Rl
open Go Go.AL Go.Proofs
set_option maxRecDepth 100000
set_option maxHeartbeats 3200000

section
variable {g : Gr} {l : List EId} (hg : GOk g) (hC : ClG g l)
include hg hC
omit hg hC in
omit hg hC in
omit hg hC in
omit hg hC in
omit hg hC in
omit hg hC in
end
end Go.AL.Rl

namespace Go.AL.Rl
open Go Go.AL Go.Proofs
set_option maxRecDepth 100000
set_option maxHeartbeats 3200000

section
variable {g : Gr} {l : List EId} (hg : GOk g) (hC : ClG g l)
include hg hC
end
theorem Sta.ext' {a b : Sta} (h1 : a.g = b.g) (h2 : a.ms = b.ms) (h3 : a.half = b.half) : a = b := by cases a; cases b; simp_all
end Go.AL.Rl

namespace Go.AL.Rl
open Go Go.AL Go.Proofs
set_option maxRecDepth 100000
set_option maxHeartbeats 1600000
variable {γ : Nat → Option AV}

structure Ft where
 a : Int
 b : Int
 br : Bool
structure Bk where
 rule : Int
 a : Int
 b : Int
 br : Bool
end Go.AL.Rl

namespace Go.AL.Rl
open Go Go.AL Go.Proofs
set_option maxRecDepth 100000
set_option maxHeartbeats 1600000

def flC (c : Nat → Bool) (f : Nat → List (Int × Int)) (k : Nat) : List (Int × Int) := (List.range k).flatMap fun i => if c i = true then f i else []
def crM (V : Vw) (w r : Nat) : Bool := relM (V.ev.getD r ev0) && (decide (r = w) || fenceM (V.ev.getD r ev0) && poM V r w)
def caM (V : Vw) (b a : Nat) : Bool := acqM (V.ev.getD a ev0) && (decide (a = b) || fenceM (V.ev.getD a ev0) && poM V b a)
def lA (V : Vw) (b r a : Nat) : List (Int × Int) := flC (caM V b) (fun a => [((r : Int), (a : Int))]) a
def lR (V : Vw) (n w b r : Nat) : List (Int × Int) := flC (crM V w) (fun r => lA V b r n) r
noncomputable def lB (V : Vw) (n w b : Nat) : List (Int × Int) := flC (rdrM V (seqM V n w)) (fun b => lR V n w b n) b
theorem rowT_bit (V : Vw) (n r a : Nat) : ∀ w, (rowT V n w r).getLsbD a = true ↔ ∃ v < w, swR V v r = true ∧ (tgtM V n v).getLsbD a = true
 | 0 => by simp [rowT]
 | w + 1 => by
  have ih := rowT_bit V n r a w
  unfold rowT
  constructor
  ·intro h
   split at h
   ·rw [BitVec.getLsbD_or, Bool.or_eq_true] at h
    rcases h with h | h
    ·obtain ⟨v, hv, h1, h2⟩ := ih.1 h; exact ⟨v, by omega, h1, h2⟩
    ·exact ⟨w, by omega, by assumption, h⟩
   ·obtain ⟨v, hv, h1, h2⟩ := ih.1 h; exact ⟨v, by omega, h1, h2⟩
  ·rintro ⟨v, hv, h1, h2⟩
   by_cases hvw : v = w
   ·subst hvw
    rw [if_pos h1, BitVec.getLsbD_or, h2, Bool.or_true]
   ·have h3 := ih.2 ⟨v, by omega, h1, h2⟩
    split
    ·rw [BitVec.getLsbD_or, h3]; rfl
    ·exact h3
theorem ne0_bit (x : BitVec 64) : x ≠ 0#64 ↔ ∃ j, x.getLsbD j = true := by
 constructor
 ·intro h
  refine Classical.byContradiction fun hc => h (BitVec.eq_of_getLsbD_eq fun i hi => ?_)
  cases hx : x.getLsbD i with
  | true => exact absurd ⟨i, hx⟩ hc
  | false => simp
 ·rintro ⟨j, hj⟩ h
  subst h; simp at hj
theorem tgt_bit (V : Vw) (n w a : Nat) (hn : n ≤ 62) : (tgtM V n w).getLsbD a = true ↔ a < n ∧ ∃ b < n, rdrM V (seqM V n w) b = true ∧ caM V b a = true := by
 unfold tgtM
 rw [mask_bit _ _ (by omega)]
 simp only [Bool.and_eq_true, decide_eq_true_eq, behM, Bool.or_eq_true, ne0_bit, BitVec.getLsbD_and, mask_bit _ _ (show n ≤ 64 by omega), caM]
 constructor
 ·rintro ⟨h1, h2, ⟨h3, h4⟩ | ⟨h3, j, ⟨h4, h5⟩, h6, h7⟩⟩
  ·exact ⟨h1, a, h3, h4, h2, .inl rfl⟩
  ·exact ⟨h1, j, h4, h5, h2, .inr ⟨h3, h7⟩⟩
 ·rintro ⟨h1, b, h2, h3, h4, h5 | ⟨h5, h6⟩⟩
  ·subst h5; exact ⟨h1, h4, .inl ⟨h2, h3⟩⟩
  ·exact ⟨h1, h4, .inr ⟨h5, b, ⟨h2, h3⟩, h2, h6⟩⟩
end Go.AL.Rl

namespace Go.AL.Rl
open Go Go.AL Go.Proofs
set_option maxRecDepth 100000
set_option maxHeartbeats 3200000

structure Emb (V U : Vw) (n m : Nat) (f : Nat → Nat) : Prop where
 lt : ∀ i < n, f i < m
 inj : ∀ i < n, ∀ j < n, f i = f j → i = j
 ids : ∀ i < n, U.ids.getD (f i) id0 = V.ids.getD i id0
 ev : ∀ i < n, U.ev.getD (f i) ev0 = V.ev.getD i ev0
 fr : ∀ i < n, ∀ j < n, V.fr.getD i 0 = (j : Nat) → U.fr.getD (f i) 0 = (f j : Nat)
 pl : ∀ i < n, ∀ j < n, nearM V i j = true → 0 ≤ V.pl.getD i 0 → V.pl.getD i 0 < V.pl.getD j 0 → 0 ≤ U.pl.getD (f i) 0 ∧ U.pl.getD (f i) 0 < U.pl.getD (f j) 0
 upd : ∀ i < n, (V.ev.getD i ev0).kind = 3 → U.pl.getD (f i) 0 = U.pl.getD (U.fr.getD (f i) 0).toNat 0 + 1 → V.pl.getD i 0 = V.pl.getD (V.fr.getD i 0).toNat 0 + 1
theorem sw_iffE {V : Vw} {n : Nat} (hn : n ≤ 62) {r a : Nat} : bit (swF V n) r a = true ↔ r < n ∧ a < n ∧ ∃ w < n, swR V w r = true ∧ ∃ b < n, rdrM V (seqM V n w) b = true ∧ caM V b a = true := by
 unfold swF
 rw [bit_rel (by omega)]
 simp only [Bool.and_eq_true, decide_eq_true_eq]
 refine and_congr_right fun hr => and_congr_right fun ha => ?_
 have e : bit (swRows V n) r a = (rowT V n n r).getLsbD a := by unfold bit swRows; rw [tab_get n _ r hr]
 rw [e, rowT_bit]
 constructor
 ·rintro ⟨w, hw, h1, h2⟩
  rw [tgt_bit V n w a hn] at h2
  exact ⟨w, hw, h1, h2.2⟩
 ·rintro ⟨w, hw, h1, h2⟩
  exact ⟨w, hw, h1, (tgt_bit V n w a hn).2 ⟨ha, h2⟩⟩
theorem hb_fits (V : Vw) {n : Nat} (h : n ≤ 62) : Fits n (hbF V n) := fits_plus (fits_or2 (fits_poF V h) (fits_swF V h))
section
variable {V U : Vw} {n m : Nat} {f : Nat → Nat} (E : Emb V U n m f) (hV : Wf V n) (hU : Wf U m)
include E
include hV
include hU
omit E hV hU in
theorem e_plus {A B : List (BitVec 64)} (hB : Fits m B) (h : ∀ i j, bit A i j = true → bit B (f i) (f j) = true) {i j : Nat} (hb : bit (plusM n A) i j = true) : bit (plusM m B) (f i) (f j) = true :=
 plus_least (fun i j => bit (plusM m B) (f i) (f j) = true) (fun i j h1 => plus_edge (h i j h1)) (fun i k j h1 h2 => plus_trans hB h1 h2) hb
omit E hV in
end
end Go.AL.Rl

namespace Go.AL
open Go Go.RowKit
section
variable {P : Program} {γ : Nat → Option AV}

theorem HeapR.grow {B : Nat} {S : Nat → Prop} {ρ : List Loc} {h : List Blk} {w : World} (hh : HeapR B S γ ρ h w) (K : Nat) (hK : K < w.heap.size) (hB : B ≤ K) (hno : ∀ (b : Nat) (loc : Loc), ρ[b]? = some loc → ¬ loc.has K) :
  HeapR B (fun k => S k ∨ k = K) γ ρ h w ∧ Ext B S ρ w (fun k => S k ∨ k = K) ρ w := by
 refine ⟨⟨hh.len, fun b blk loc h1 h2 => (hh.blk b blk loc h1 h2).mono (fun k hk => .inl hk) (fun _ _ => rfl) (LocsUp.refl ρ) fun _ _ => rfl, fun b loc k h1 h2 => ?_, hh.inj, fun k hk => ?_, fun g x hg => ?_, hh.bsz, hh.sok⟩,
  Fr.refl w, fun _ _ => rfl, fun k hk => .inl hk, fun _ _ => rfl, LocsUp.refl ρ, fun k hk => ?_⟩
 ·obtain ⟨k1, k2, k3⟩ := hh.own b loc k h1 h2
  refine ⟨fun hs => ?_, k2, k3⟩
  rcases hs with hs | hs
  ·exact k1 hs
  ·exact hno b loc h1 (by rw [← hs]; exact h2)
 ·rcases hk with hk | hk
  ·exact hh.sle k hk
  ·rw [hk]; exact hK
 ·exact R.mono (S := S) (fun k hk => .inl hk) (fun _ _ => rfl) (ρ := none) (ρ' := none) trivial _ _ (hh.gok g x hg)
 ·rcases hk with hk | hk
  ·exact .inl hk
  ·rw [hk]; exact .inr hB
end
end Go.AL

namespace Go.AL
open Go Go.RowKit
section
variable {P : Program} {γ : Nat → Option AV} {τ : Nat → TI} {C : EC}

end
section
variable {P : Program} {γ : Nat → Option AV}
end
end Go.AL

namespace Go.AL
open Go Go.RowKit
section
variable {P : Program} {γ : Nat → Option AV}

theorem AWPr.step {n : Nat} {c : Code} {Q : Exit → St → Prop} {A A' : St} (hs : Step γ A A') (h : AWPr P γ n c Q A') : AWPr P γ n c Q A := fun B S ρ a w h0 => by
 obtain ⟨S', ρ', h1, h2⟩ := hs B S ρ a w h0
 exact wp_mono (h B S' ρ' a w h1) fun e a' w' ⟨S'', ρ'', A'', q1, q2, q3⟩ => ⟨S'', ρ'', A'', q1, q2, h2.takeL.transR q3⟩
theorem AWPl.step {n : Nat} {l : List Code} {Q : Exit → St → Prop} {A A' : St} (hs : Step γ A A') (hl : l.isEmpty = false) (h : AWPl P γ n l Q A') : AWPl P γ n l Q A := by
 cases l with
 | nil => cases hl
 | cons c r => exact AWPr.step hs h
section
variable {C : EC} {CQ : List Blk → QC} {T : Nat → TI} {D : Array Oper → (St → Prop) → St → Prop} {W : Code → (Exit → St → Prop) → St → Prop}
/-- to stop behind the first 'k' items -/
theorem Env.at (E : Env P γ C CQ T D W) {n : Nat} {l : List Code} {Q : Exit → St → Prop} {A : St} (k : Nat)
  (h : ∀ I : St → Prop, (∀ {A'}, AWPl P γ n (l.drop k) Q A' → I A') → vcl T γ C D W (l.take k) (thenE I Q) A) : AWPl P γ n l Q A := by
 rw [← List.take_append_drop k l]
 exact AWPl.app ((E.bl (h (fun A' => AWPl P γ n (l.drop k) Q A') fun hl => hl)).mono fun e A' h => by cases e <;> exact h)
end

theorem Step.heap {A : St} {h' : List Blk} (hr : ∀ B S ρ w, HeapR B S γ ρ A.h w → ∃ S' ρ', HeapR B S' γ ρ' h' w ∧ Ext B S ρ w S' ρ' w) : Step γ A ⟨A.n, A.s, h'⟩ := fun B S ρ a w hs => by
 obtain ⟨S', ρ', h1, h2⟩ := hr B S ρ w hs.heap
 exact ⟨S', ρ', hs.ext h2 h1, h2⟩

theorem HeapR.adopt {B : Nat} {S : Nat → Prop} {ρ : List Loc} {h : List Blk} {w : World} (hh : HeapR B S γ ρ h w) (loc : Loc) (blk : Blk) (hsub : loc.sub = [])
  (hk : ∀ K, loc.k = some K → ¬ S K ∧ K < w.heap.size ∧ B ≤ K ∧ ∀ (b : Nat) (l : Loc), ρ[b]? = some l → ¬ l.has K) (hb : BlkR S w (ρ ++ [loc]) loc blk) :
  HeapR B S γ (ρ ++ [loc]) (h ++ [blk]) w ∧ Ext B S ρ w S (ρ ++ [loc]) w := by
 have hup := LocsUp.append ρ [loc]
 have key : ∀ (b : Nat) (lc : Loc), (ρ ++ [loc])[b]? = some lc → (b < ρ.length ∧ ρ[b]? = some lc) ∨ (b = ρ.length ∧ lc = loc) := by
  intro b lc h1
  by_cases hlt : b < ρ.length
  ·rw [List.getElem?_append_left hlt] at h1; exact .inl ⟨hlt, h1⟩
  ·rw [List.getElem?_append_right (by omega)] at h1
   have e1 : b - ρ.length = 0 := by
    have := (List.getElem?_eq_some_iff.1 h1).1; simp at this; omega
   rw [e1] at h1; simp at h1; exact .inr ⟨by omega, h1.symm⟩
 refine ⟨⟨by simp [hh.len], fun b bk lc h1 h2 => ?_, fun b lc K h1 h2 => ?_, fun b b' lc lc' K h1 h2 h3 h4 => ?_, hh.sle, hh.gok, hh.bsz, fun b lc h1 => ?_⟩, Fr.refl w, fun _ _ => rfl, fun _ h => h, fun _ _ => rfl, hup, fun _ h => .inl h⟩
 ·rcases key b lc h2 with ⟨a1, a2⟩ | ⟨a1, rfl⟩
  ·rw [List.getElem?_append_left (by rw [← hh.len]; exact a1)] at h1
   exact (hh.blk b bk lc h1 a2).mono (fun _ h => h) (fun _ _ => rfl) hup fun _ _ => rfl
  ·rw [a1, hh.len] at h1
   simp at h1; subst h1; exact hb
 ·rcases key b lc h1 with ⟨a1, a2⟩ | ⟨a1, rfl⟩
  ·exact hh.own b lc K a2 h2
  ·obtain ⟨k1, k2, k3, _⟩ := hk K (Loc.has_nil hsub h2)
   exact ⟨k1, k2, k3⟩
 ·rcases key b lc h1 with ⟨a1, a2⟩ | ⟨a1, rfl⟩
  ·rcases key b' lc' h2 with ⟨c1, c2⟩ | ⟨c1, rfl⟩
   ·exact hh.inj b b' lc lc' K a2 c2 h3 h4
   ·exact absurd h3 ((hk K (Loc.has_nil hsub h4)).2.2.2 b lc a2)
  ·rcases key b' lc' h2 with ⟨c1, c2⟩ | ⟨c1, rfl⟩
   ·exact absurd h4 ((hk K (Loc.has_nil hsub h3)).2.2.2 b' lc' c2)
   ·omega
 ·rcases key b lc h1 with ⟨a1, a2⟩ | ⟨a1, rfl⟩
  ·exact hh.sok b lc a2
  ·exact .nil hsub
/-- what was one block's is the other's -/
theorem HeapR.move {B : Nat} {S : Nat → Prop} {ρ : List Loc} {h : List Blk} {w : World} (hh : HeapR B S γ ρ h w) {b b2 : Nat} {loc loc2 loc' loc2' : Loc} {blk' : Blk} (hne : b ≠ b2) (hb : ρ[b]? = some loc) (hb2 : ρ[b2]? = some loc2)
  (hup : loc.up loc') (hup2 : loc2.up loc2') (hk : ∀ K, loc'.has K → loc.has K ∨ loc2.has K) (hk2 : ∀ K, ¬ loc2'.has K) (hsok : loc'.SubOk) (hsub2 : loc2'.sub = [])
  (hblk : BlkR S w ((ρ.set b loc').set b2 loc2') loc' blk') : HeapR B S γ ((ρ.set b loc').set b2 loc2') ((h.set b blk').set b2 .any) w ∧ Ext B S ρ w S ((ρ.set b loc').set b2 loc2') w := by
 have hblt : b < ρ.length := (List.getElem?_eq_some_iff.1 hb).1
 have hblt2 : b2 < ρ.length := (List.getElem?_eq_some_iff.1 hb2).1
 have key : ∀ (i : Nat) (l : Loc), ((ρ.set b loc').set b2 loc2')[i]? = some l → (i = b ∧ l = loc') ∨ (i = b2 ∧ l = loc2') ∨ (i ≠ b ∧ i ≠ b2 ∧ ρ[i]? = some l) := by
  intro i l hl
  by_cases e2 : b2 = i
  ·subst e2; simp [hblt2] at hl; exact .inr (.inl ⟨rfl, hl.symm⟩)
  ·rw [List.getElem?_set_ne e2] at hl
   by_cases e : b = i
   ·subst e; simp [hblt] at hl; exact .inl ⟨rfl, hl.symm⟩
   ·rw [List.getElem?_set_ne e] at hl; exact .inr (.inr ⟨fun h => e h.symm, fun h => e2 h.symm, hl⟩)
 have hlocs : LocsUp ρ ((ρ.set b loc').set b2 loc2') := by
  intro i l hl
  by_cases e2 : b2 = i
  ·subst e2; rw [hb2] at hl; cases hl
   exact ⟨loc2', by simp [hblt2], hup2⟩
  ·by_cases e : b = i
   ·subst e; rw [hb] at hl; cases hl
    exact ⟨loc', by rw [List.getElem?_set_ne e2]; simp [hblt], hup⟩
   ·exact ⟨l, by rw [List.getElem?_set_ne e2, List.getElem?_set_ne e]; exact hl, l.up_refl⟩
 refine ⟨⟨by simp [hh.len], fun i bk l h1 h2 => ?_, fun i l K h1 h2 => ?_, fun i j l l' K h1 h2 h3 h4 => ?_, hh.sle, hh.gok, hh.bsz, fun i l h1 => ?_⟩, Fr.refl w, fun _ _ => rfl, fun _ h => h, fun _ _ => rfl, hlocs, fun _ h => .inl h⟩
 ·rcases key i l h2 with ⟨rfl, rfl⟩ | ⟨rfl, rfl⟩ | ⟨n1, n2, h2⟩
  ·rw [List.getElem?_set_ne (fun e => hne e.symm)] at h1
   have : i < h.length := by rw [← hh.len]; exact hblt
   simp [this] at h1; subst h1; exact hblk
  ·have : i < (h.set b blk').length := by rw [List.length_set, ← hh.len]; exact hblt2
   rw [List.getElem?_set_self this] at h1; cases h1; trivial
  ·rw [List.getElem?_set_ne (fun e => n2 e.symm), List.getElem?_set_ne (fun e => n1 e.symm)] at h1
   exact (hh.blk i bk l h1 h2).mono (fun _ h => h) (fun _ _ => rfl) hlocs fun _ _ => rfl
 ·rcases key i l h1 with ⟨rfl, rfl⟩ | ⟨rfl, rfl⟩ | ⟨n1, n2, h1⟩
  ·rcases hk K h2 with e | e
   ·exact hh.own i loc K hb e
   ·exact hh.own b2 loc2 K hb2 e
  ·exact absurd h2 (hk2 K)
  ·exact hh.own i l K h1 h2
 ·have none2 : ∀ (i : Nat) (l : Loc), i ≠ b → i ≠ b2 → ρ[i]? = some l → l.has K → ¬ loc'.has K := fun i l n1 n2 g1 g2 g3 => by
   rcases hk K g3 with e | e
   ·exact n1 (hh.inj i b l loc K g1 hb g2 e)
   ·exact n2 (hh.inj i b2 l loc2 K g1 hb2 g2 e)
  rcases key i l h1 with ⟨rfl, rfl⟩ | ⟨rfl, rfl⟩ | ⟨n1, n2, g1⟩
  ·rcases key j l' h2 with ⟨rfl, rfl⟩ | ⟨rfl, rfl⟩ | ⟨m1, m2, g2⟩
   ·rfl
   ·exact absurd h4 (hk2 K)
   ·exact absurd h3 (none2 j l' m1 m2 g2 h4)
  ·exact absurd h3 (hk2 K)
  ·rcases key j l' h2 with ⟨rfl, rfl⟩ | ⟨rfl, rfl⟩ | ⟨m1, m2, g2⟩
   ·exact absurd h4 (none2 i l n1 n2 g1 h3)
   ·exact absurd h4 (hk2 K)
   ·exact hh.inj i j l l' K g1 g2 h3 h4
 ·rcases key i l h1 with ⟨rfl, rfl⟩ | ⟨rfl, rfl⟩ | ⟨_, _, g1⟩
  ·exact hsok
  ·exact .nil hsub2
  ·exact hh.sok i l g1
theorem Loc.SubOk.set {l l' : Loc} (h : l.SubOk) {i : Nat} (hs : l'.sub = l.sub.set i none) (hk : l'.k = l.k) : l'.SubOk where
 out := fun K hK => by
  rw [hs] at hK
  rw [hk]
  rcases List.mem_or_eq_of_mem_set hK with hK | hK
  ·exact h.out K hK
  ·cases hK
 one := fun a c K ha hc => by
  have key : ∀ a, l'.sub[a]? = some (some K) → l.sub[a]? = some (some K) := fun a ha => by
   rw [hs, List.getElem?_set] at ha
   split at ha
   ·split at ha <;> cases ha
   ·exact ha
  exact h.one a c K (key a ha) (key c hc)
theorem Loc.has_set {l l' : Loc} {i K : Nat} (hs : l'.sub = l.sub.set i none) (hk : l'.k = l.k) (h : l'.has K) : l.has K := by
 rcases h with h | h
 ·exact .inl (by rw [← hk]; exact h)
 ·rw [hs] at h
  rcases List.mem_or_eq_of_mem_set h with h | h
  ·exact .inr h
  ·cases h
theorem HeapR.drop {B : Nat} {S : Nat → Prop} {ρ : List Loc} {h : List Blk} {w : World} (hh : HeapR B S γ ρ h w) {b g q : Nat} {ess : Unit → List LV} (hb : h[b]? = some (.nest g q ess none)) (i : Unit → Nat) {loc : Loc} (hl : ρ[b]? = some loc) :
  HeapR B S γ (ρ.set b { loc with sub := loc.sub.set (i ()) none }) (h.set b (.nest g q ess (some (i, .any)))) w ∧ Ext B S ρ w S (ρ.set b { loc with sub := loc.sub.set (i ()) none }) w := by
 obtain ⟨d1, d2, d3, evs, d4, d5, d6, d7⟩ := hh.blk b _ loc hb hl
 refine hh.updS (loc' := { loc with sub := loc.sub.set (i ()) none }) hl (.inl ⟨_, rfl⟩) (fun K hK => .inl (Loc.has_set (l := loc) (l' := { loc with sub := loc.sub.set (i ()) none }) rfl rfl hK)) (Fr.refl w) (fun _ _ _ => rfl) ⟨d1, d2, d3, evs, d4, d5, by simp [d6], fun p es v s g1 g2 g3 => ?_⟩ ((hh.sok b loc hl).set rfl rfl)
 have hpl : p < loc.sub.length := by have := (List.getElem?_eq_some_iff.1 g2).1; omega
 have hold : InR S w q es v loc.sub[p] := d7 p es v _ g1 g2 (List.getElem?_eq_getElem hpl)
 have g3 : (loc.sub.set (i ()) none)[p]? = some s := g3
 rw [List.getElem?_set] at g3
 split at g3
 ·rename_i e
  rw [if_pos (by omega)] at g3
  cases g3
  obtain ⟨a, cap, ievs, rfl, _⟩ := hold
  exact .inl ⟨e.symm, rfl, trivial, rfl⟩
 ·rename_i e
  rw [List.getElem?_eq_getElem hpl] at g3
  cases g3
  exact .inr ⟨fun h => e h.symm, hold⟩
theorem Step.drop {A : St} (b : Nat) {g q : Nat} {ess : Unit → List LV} (hb : A.h[b]? = some (.nest g q ess none)) (i : Unit → Nat) : Step γ A ⟨A.n, A.s, A.h.set b (.nest g q ess (some (i, .any)))⟩ :=
 Step.heap fun B S ρ w hh => by
  have hlt : b < ρ.length := by rw [hh.len]; exact (List.getElem?_eq_some_iff.1 hb).1
  have := hh.drop hb i (List.getElem?_eq_getElem hlt)
  exact ⟨_, _, this.1, this.2⟩
theorem Step.take {A : St} (b : Nat) {g q : Nat} {ess : Unit → List LV} (hb : A.h[b]? = some (.nest g q ess none)) (i : Unit → Nat) (hi : ∀ _ : Unit, i () < (ess ()).length) :
  Step γ A ⟨A.n, A.s, (A.h.set b (.nest g q ess (some (i, .sl A.h.length 0 q (fun _ => 0) fun _ => ((ess ()).getD (i ()) .nil).l.length)))) ++ [.run 0 q fun _ => (ess ()).getD (i ()) .nil]⟩ :=
 Step.heap fun B S ρ w hh => by
  have hlt : b < ρ.length := by rw [hh.len]; exact (List.getElem?_eq_some_iff.1 hb).1
  obtain ⟨loc, hl⟩ : ∃ loc, ρ[b]? = some loc := ⟨_, List.getElem?_eq_getElem hlt⟩
  obtain ⟨d1, d2, d3, evs, d4, d5, d6, d7⟩ := hh.blk b _ loc hb hl
  have hi := hi ()
  obtain ⟨p1, p2⟩ := hh.drop hb i hl
  have hie : (ess ())[i ()]? = some ((ess ()).getD (i ()) .nil) := by rw [List.getD_eq_getElem?_getD, List.getElem?_eq_getElem hi]; rfl
  have hve : evs[i ()]? = some evs[i ()] := List.getElem?_eq_getElem (by omega)
  have hse : loc.sub[i ()]? = some loc.sub[i ()] := List.getElem?_eq_getElem (by omega)
  have hin : InR S w q ((ess ()).getD (i ()) .nil) evs[i ()] loc.sub[i ()] := d7 _ _ _ _ hie hve hse
  generalize hes : (ess ()).getD (i ()) .nil = es at hin hie
  generalize hv : evs[i ()]'(by omega) = v at hin hve
  generalize hs : loc.sub[i ()]'(by omega) = s at hin hse
  obtain ⟨a, cap, ievs, rfl, c2, c3, c4, c5, c6⟩ := hin
  have hil : ievs.length = es.l.length := Rs_len ((RL_iff _ _ _ _).1 c4)
  -- the run that comes
  obtain ⟨l2, hl2, hbl, hr⟩ : ∃ l2 : Loc, (l2.sub = [] ∧ l2.k = s ∧ l2.box = false ∧ l2.g = 0 ∧ l2.e = q) ∧ (∀ ρ2, BlkR S w ρ2 l2 (.run 0 q fun _ => es)) ∧
    (∀ ρ2 : List Loc, R S w (some (ρ2 ++ [l2])) (.sl ρ2.length 0 q (fun _ => 0) fun _ => es.l.length) (.slice a ievs.length cap)) := by
   rcases c6 with ⟨rfl, c6⟩ | ⟨K, c, ty, rfl, r2, r3, r4, r5⟩
   ·have : ievs = [] := List.eq_nil_of_length_eq_zero (by omega)
    subst this
    exact ⟨⟨false, 0, none, q, 0, []⟩, ⟨rfl, rfl, rfl, rfl, rfl⟩, fun ρ2 => ⟨rfl, rfl, rfl, [], c4, fun e he => (by cases he), .inl ⟨rfl, rfl⟩⟩,
     fun ρ2 => ⟨_, _, a, cap, rfl, getElem?_concat _ _, rfl, rfl, Nat.le_refl _, by rw [← hil], by rw [← hil]; exact c2, c3, fun _ => .inl ⟨rfl, c6, rfl⟩⟩⟩
   ·exact ⟨⟨false, 0, some K, q, c.size, []⟩, ⟨rfl, rfl, rfl, rfl, rfl⟩, fun ρ2 => ⟨rfl, rfl, rfl, ievs, c4, c5, .inr ⟨K, c, ty, rfl, r4, rfl, Nat.le_trans (Nat.mul_le_mul_right _ c2) r3, r5⟩⟩,
     fun ρ2 => ⟨_, _, a, cap, rfl, getElem?_concat _ _, rfl, rfl, Nat.le_refl _, by rw [← hil], by rw [← hil]; exact c2, c3, fun _ => .inr ⟨K, rfl, by simpa using r2, by simpa using r3⟩⟩⟩
  obtain ⟨m1, m2, m3, m4, m5⟩ := hl2
  obtain ⟨q1, q2⟩ := p1.adopt l2 (.run 0 q fun _ => es) m1 (fun K hK => by
   rw [m2] at hK
   obtain ⟨k1, k2, k3⟩ := hh.own b loc K hl (.inr (by rw [← hK, ← hs]; exact List.getElem_mem _))
   refine ⟨k1, k2, k3, fun b' l' hb' hK' => ?_⟩
   by_cases e : b = b'
   ·subst e
    rw [List.getElem?_set_self hlt] at hb'; cases hb'
    rcases hK' with hK' | hK'
    ·exact (hh.sok b loc hl).out K (by rw [← hK]; exact List.mem_of_getElem? hse) hK'
    ·obtain ⟨j, hj, hj2⟩ := List.getElem_of_mem hK'
     have hj3 : (loc.sub.set (i ()) none)[j]? = some (some K) := by rw [← hj2]; exact List.getElem?_eq_getElem hj
     rw [List.getElem?_set] at hj3
     split at hj3
     ·split at hj3 <;> cases hj3
     ·rename_i ne
      exact ne ((hh.sok b loc hl).one j (i ()) K hj3 (by rw [hse, hK])).symm
   ·rw [List.getElem?_set_ne e] at hb'
    exact e (hh.inj b b' loc l' K hl hb' (.inr (by rw [← hK]; exact List.mem_of_getElem? hse)) hK')) (hbl _)
  have hρ : (ρ.set b { loc with sub := loc.sub.set (i ()) none }).length = A.h.length := by rw [List.length_set, hh.len]
  have hT := q1.retell b (.nest g q ess (some (i, .sl A.h.length 0 q (fun _ => 0) fun _ => ((ess ()).getD (i ()) .nil).l.length))) fun loc3 h3 => by
   rw [List.getElem?_append_left (by rw [List.length_set]; exact hlt), List.getElem?_set_self hlt] at h3
   cases h3
   refine ⟨d1, d2, d3, evs, d4, d5, by simp [d6], fun p es' v' s' g1 g2 g3 => ?_⟩
   have hpl : p < loc.sub.length := by have := (List.getElem?_eq_some_iff.1 g2).1; omega
   have hold : InR S w q es' v' loc.sub[p] := d7 p es' v' _ g1 g2 (List.getElem?_eq_getElem hpl)
   have g3 : (loc.sub.set (i ()) none)[p]? = some s' := g3
   rw [List.getElem?_set] at g3
   split at g3
   ·rename_i e
    rw [if_pos (by omega)] at g3
    cases g3
    rw [← e, hve] at g2
    cases g2
    refine .inl ⟨e.symm, rfl, ?_, rfl⟩
    have := hr (ρ.set b { loc with sub := loc.sub.set (i ()) none })
    rw [hρ] at this
    simp only [hes]
    exact this
   ·rename_i e
    rw [List.getElem?_eq_getElem hpl] at g3
    cases g3
    exact .inr ⟨fun h => e h.symm, hold⟩
  refine ⟨S, _, ?_, p2.trans q2⟩
  rw [List.set_append_left _ _ (by rw [List.length_set]; exact (List.getElem?_eq_some_iff.1 hb).1), List.set_set] at hT
  simp only [hes] at hT
  exact hT
end
end Go.AL

namespace Go.AL
open Go Go.RowKit
section
variable {P : Program} {γ : Nat → Option AV}

theorem Step.put {A : St} (b b2 : Nat) {g q g2 g3 : Nat} {ess : Unit → List LV} {i off len : Unit → Nat} {es : Unit → LV} (hb : A.h[b]? = some (.nest g q ess (some (i, .sl b2 g2 q off len)))) (hb2 : A.h[b2]? = some (.run g3 q es))
  (hc : ∀ _ : Unit, g3 = g2 ∧ off () = 0 ∧ len () = (es ()).l.length) :
  Step γ A ⟨A.n, A.s, (A.h.set b (.nest g q (fun _ => (ess ()).set (i ()) (es ())) none)).set b2 .any⟩ :=
 Step.heap fun B S ρ w hh => by
  obtain ⟨rfl, c0, c1⟩ := hc ()
  have hne : b ≠ b2 := fun e => by subst e; rw [hb] at hb2; cases hb2
  have hlt : b < ρ.length := by rw [hh.len]; exact (List.getElem?_eq_some_iff.1 hb).1
  have hlt2 : b2 < ρ.length := by rw [hh.len]; exact (List.getElem?_eq_some_iff.1 hb2).1
  obtain ⟨loc, hl⟩ : ∃ loc, ρ[b]? = some loc := ⟨_, List.getElem?_eq_getElem hlt⟩
  obtain ⟨loc2, hl2⟩ : ∃ loc, ρ[b2]? = some loc := ⟨_, List.getElem?_eq_getElem hlt2⟩
  obtain ⟨d1, d2, d3, evs, d4, d5, d6, d7⟩ := hh.blk b _ loc hb hl
  obtain ⟨f1, f2, f3, ievs, f4, f5, f6⟩ := hh.blk b2 _ loc2 hb2 hl2
  have hil : ievs.length = (es ()).l.length := Rs_len ((RL_iff _ _ _ _).1 f4)
  have hk2 : ∀ K, some K ∈ (loc.sub.set (i ()) loc2.k) → some K ∈ loc.sub ∨ loc2.k = some K := fun K hK => by
   rcases List.mem_or_eq_of_mem_set hK with hK | hK
   ·exact .inl hK
   ·exact .inr hK.symm
  have hsi : ∀ s, loc.sub[i ()]? = some s → s = none := fun s hs => by
   have hil' : i () < loc.sub.length := (List.getElem?_eq_some_iff.1 hs).1
   rcases d7 (i ()) _ _ s (List.getElem?_eq_getElem (by omega)) (List.getElem?_eq_getElem (by omega)) hs with ⟨_, h, _⟩ | ⟨h, _⟩
   ·exact h
   ·exact absurd rfl h
  have hsub : ∀ K, loc2.k = some K → ¬ some K ∈ loc.sub ∧ loc.k ≠ some K := fun K hK => ⟨fun h => hne (hh.inj b b2 loc loc2 K hl hl2 (.inr h) (.inl hK)), fun h => hne (hh.inj b b2 loc loc2 K hl hl2 (.inl h) (.inl hK))⟩
  have hm := hh.move (loc' := { loc with sub := loc.sub.set (i ()) loc2.k }) (loc2' := { loc2 with g := g3 + 1, k := none, size := 0, sub := [] }) (blk' := .nest g q (fun _ => (ess ()).set (i ()) (es ())) none) hne hl hl2 (.inl ⟨_, rfl⟩)
   (.inr (.inl ⟨f1, f1, by show loc2.g < g3 + 1; omega, rfl⟩))
   (fun K hK => by
    rcases hK with hK | hK
    ·exact .inl (.inl hK)
    ·rcases hk2 K hK with h | h
     ·exact .inl (.inr h)
     ·exact .inr (.inl h))
   (fun K hK => by rcases hK with hK | hK <;> first | (cases hK; done) | exact absurd hK (by simp))
   ⟨fun K hK hk => by
    rcases hk2 K hK with h | h
    ·exact (hh.sok b loc hl).out K h hk
    ·exact (hsub K h).2 hk, fun x y K hx hy => by
    have key : ∀ x, (loc.sub.set (i ()) loc2.k)[x]? = some (some K) → (x = i () ∧ loc2.k = some K) ∨ (x ≠ i () ∧ loc.sub[x]? = some (some K)) := fun x hx => by
     rw [List.getElem?_set] at hx
     split at hx
     ·rename_i e
      split at hx
      ·left; exact ⟨e.symm, by simpa using hx⟩
      ·cases hx
     ·rename_i e; exact .inr ⟨fun h => e h.symm, hx⟩
    rcases key x hx with ⟨x1, x2⟩ | ⟨x1, x2⟩ <;> rcases key y hy with ⟨y1, y2⟩ | ⟨y1, y2⟩
    ·omega
    ·exact absurd (List.mem_of_getElem? y2) (hsub K x2).1
    ·exact absurd (List.mem_of_getElem? x2) (hsub K y2).1
    ·exact (hh.sok b loc hl).one x y K x2 y2⟩ rfl
   ⟨d1, d2, d3, evs, d4, by simp [d5], by simp [d6], fun p es' v s g1 g2 g4 => by
    have hpl : p < evs.length := (List.getElem?_eq_some_iff.1 g2).1
    by_cases hp : p = i ()
    ·subst hp
     have g1 : ((ess ()).set (i ()) (es ()))[i ()]? = some es' := g1
     rw [List.getElem?_set_self (by omega)] at g1
     cases g1
     have g4 : (loc.sub.set (i ()) loc2.k)[i ()]? = some s := g4
     rw [List.getElem?_set_self (by omega)] at g4
     cases g4
     rcases d7 (i ()) _ _ _ (List.getElem?_eq_getElem (by omega)) g2 (List.getElem?_eq_getElem (by omega)) with ⟨_, _, hr, _⟩ | ⟨h, _⟩
     ·obtain ⟨l, lc, a, cap, e0, q1, q2, q3, q4, rfl, q6, q7, q8⟩ := hr
      cases e0
      rw [hl2] at q1; cases q1
      refine ⟨a, cap, ievs, by rw [c1, hil], by omega, q7, f4, f5, ?_⟩
      rcases q8 f2 with ⟨r1, r2, _⟩ | ⟨K, r1, r2, r3⟩
      ·exact .inl ⟨r1, r2⟩
      ·rcases f6 with ⟨e1, _⟩ | ⟨K', c, ty, e1, e2, e3, e4, e5⟩
       ·rw [r1] at e1; cases e1
       ·rw [r1] at e1; cases e1
        rw [c0, Nat.zero_mul] at r2
        rw [c0, Nat.zero_add, f3] at r3
        rw [f3] at e5
        exact .inr ⟨K, c, ty, r1, r2, by omega, e2, e5⟩
     ·exact absurd rfl h
    ·have g1 : ((ess ()).set (i ()) (es ()))[p]? = some es' := g1
     rw [List.getElem?_set_ne (fun e => hp e.symm)] at g1
     have g4 : (loc.sub.set (i ()) loc2.k)[p]? = some s := g4
     rw [List.getElem?_set_ne (fun e => hp e.symm)] at g4
     rcases d7 p es' v s g1 g2 g4 with ⟨h, _⟩ | ⟨_, h⟩
     ·exact absurd h hp
     ·exact h⟩
  exact ⟨S, _, hm.1, hm.2⟩

theorem Step.takeE {A : St} (b : Nat) {g q : Nat} {ess : Unit → List LV} (hb : A.h[b]? = some (.nest g q ess none)) (i : Unit → Nat) (es : Unit → LV) (len : Unit → Nat) (hi : ∀ _ : Unit, i () < (ess ()).length)
  (he : ∀ _ : Unit, (ess ()).getD (i ()) .nil = es () ∧ (es ()).l.length = len ()) : Step γ A ⟨A.n, A.s, (A.h.set b (.nest g q ess (some (i, .sl A.h.length 0 q (fun _ => 0) len)))) ++ [.run 0 q es]⟩ := by
 have h := Step.take (γ := γ) b hb i hi
 have e1 : (fun _ : Unit => (ess ()).getD (i ()) .nil) = es := funext fun _ => (he ()).1
 have e2 : (fun _ : Unit => ((ess ()).getD (i ()) .nil).l.length) = len := funext fun _ => by rw [(he ()).1]; exact (he ()).2
 rw [e1, e2] at h
 exact h
theorem Step.putE {A : St} (b b2 : Nat) {g q g2 g3 : Nat} {ess : Unit → List LV} {i off len : Unit → Nat} {es : Unit → LV} (ess' : Unit → List LV) (hb : A.h[b]? = some (.nest g q ess (some (i, .sl b2 g2 q off len)))) (hb2 : A.h[b2]? = some (.run g3 q es))
  (hc : ∀ _ : Unit, (g3 = g2 ∧ off () = 0 ∧ len () = (es ()).l.length) ∧ (ess ()).set (i ()) (es ()) = ess' ()) :
  Step γ A ⟨A.n, A.s, (A.h.set b (.nest g q ess' none)).set b2 .any⟩ := by
 have h := Step.put (γ := γ) b b2 hb hb2 fun _ => (hc ()).1
 have e1 : (fun _ : Unit => (ess ()).set (i ()) (es ())) = ess' := funext fun _ => (hc ()).2
 rw [e1] at h
 exact h

/-- an own run of which nothing is told: a nest that is filled from its front on -/
theorem Step.unrun {A : St} (b q : Nat) {g : Nat} {es : Unit → LV} (hb : A.h[b]? = some (.run g 1 es)) : Step γ A ⟨A.n, A.s, A.h.set b (.nest g q (fun _ => []) none)⟩ :=
 Step.heap fun B S ρ w hh => by
  have hlt : b < ρ.length := by rw [hh.len]; exact (List.getElem?_eq_some_iff.1 hb).1
  obtain ⟨loc, hl⟩ : ∃ loc, ρ[b]? = some loc := ⟨_, List.getElem?_eq_getElem hlt⟩
  obtain ⟨f1, f2, f3, ievs, f4, f5, f6⟩ := hh.blk b _ loc hb hl
  have := hh.updS (loc' := { loc with sub := [] }) (blk' := .nest g q (fun _ => []) none) (w' := w) hl (.inl ⟨_, rfl⟩) (fun K hK => .inl (.inl (Loc.has_nil (l := { loc with sub := [] }) rfl hK))) (Fr.refl w) (fun _ _ _ => rfl)
   ⟨f1, f2, f3, [], by
    rcases f6 with ⟨e1, _⟩ | ⟨K', c, ty, e1, e2, e3, e4, e5⟩
    ·exact .inl ⟨e1, rfl⟩
    ·exact .inr ⟨K', c, ty, e1, e2, e3, Nat.zero_le _, fun i e h => by simp at h⟩, rfl, rfl, fun p es v s g1 => by simp at g1⟩ (.nil rfl)
  exact ⟨S, _, this.1, this.2⟩

end
end Go.AL

namespace Go.AL
open Go Go.RowKit

section
variable {P : Program} {γ : Nat → Option AV} {τ : Nat → TI} {C : EC} {CQ : List Blk → QC}

def AWPx (P : Program) (γ : Nat → Option AV) (ro : Option Nat) (ds : List Deferred) (c : Code) (Q : Exit → St → Prop) (A : St) : Prop :=
 ∀ B S ρ a w n, Sim B S γ ρ A a w → c.wpIn (RF ro) n P (fun e a' w' => ∃ a0 S' ρ' A', a' = df ds a0 ∧ Q e A' ∧ Sim B S' γ ρ' A' a0 w' ∧ Ext B S ρ w S' ρ' w') (df ds a) w

variable {ro : Option Nat} {ds : List Deferred}
theorem AWPx.mono {c : Code} {Q Q' : Exit → St → Prop} {A : St} (h : AWPx P γ ro ds c Q A) (hq : ∀ e A, Q e A → Q' e A) : AWPx P γ ro ds c Q' A :=
 fun B S ρ a w n hs => wpIn_mono (h B S ρ a w n hs) fun e a' w' ⟨a0, S', ρ', A', h0, h1, h2, h3⟩ => ⟨a0, S', ρ', A', h0, hq _ _ h1, h2, h3⟩
theorem AWPx.skip {Q : Exit → St → Prop} {A : St} (h : Q .normal A) : AWPx P γ ro ds .skip Q A := fun B S ρ a w n hs => wpIn_skip ⟨a, S, ρ, A, rfl, h, hs, Ext.refl _ _ _ _⟩
theorem AWPx.exit {id : Nat} {Q : Exit → St → Prop} {A : St} (h : Q (.exit id) A) : AWPx P γ ro ds (.exit id) Q A := fun B S ρ a w n hs => wpIn_exit ⟨a, S, ρ, A, rfl, h, hs, Ext.refl _ _ _ _⟩
theorem AWPx.ret {Q : Exit → St → Prop} {A : St} (h : Q .ret A) : AWPx P γ ro ds .ret Q A := fun B S ρ a w n hs => wpIn_ret ⟨a, S, ρ, A, rfl, h, hs, Ext.refl _ _ _ _⟩
theorem AWPx.seq {x y : Code} {Q : Exit → St → Prop} {A : St} (h : AWPx P γ ro ds x (thenE (fun A => AWPx P γ ro ds y Q A) Q) A) : AWPx P γ ro ds (.seq x y) Q A := by
 intro B S ρ a w n hs
 refine wpIn_seq (wpIn_mono (h B S ρ a w n hs) fun e a' w' ⟨a0, S', ρ', A', h0, h1, h2, h3⟩ => ?_)
 cases e with
 | normal => subst h0; exact wpIn_mono (h1 B S' ρ' a0 w' n h2) fun e a'' w'' ⟨a1, S'', ρ'', A'', k0, k1, k2, k3⟩ => ⟨a1, S'', ρ'', A'', k0, k1, k2, h3.trans k3⟩
 | _ => exact ⟨a0, S', ρ', A', h0, h1, h2, h3⟩
theorem AWPx.cond {c : Operand} {x y : Code} {Q : Exit → St → Prop} {A : St} (h : br (A.ev γ c) (fun _ => AWPx P γ ro ds x Q A) (fun _ => AWPx P γ ro ds y Q A)) : AWPx P γ ro ds (.cond c x y) Q A := by
 intro B S ρ a w n hs
 obtain ⟨b, h1, h2⟩ := br_val h
 refine wpIn_cond (t := b) (by rw [df_eval]; exact h1 S w (some ρ) _ (hs.ev c)) ?_
 cases b
 ·exact h2 B S ρ a w n hs
 ·exact h2 B S ρ a w n hs
theorem AWPx.block {id : Nat} {c : Code} {Q : Exit → St → Prop} {A : St} (h : AWPx P γ ro ds c (inBlk id Q) A) : AWPx P γ ro ds (.block id c) Q A := by
 intro B S ρ a w n hs
 refine wpIn_block (wpIn_mono (h B S ρ a w n hs) fun e a' w' ⟨a0, S', ρ', A', h0, h1, h2, h3⟩ => ?_)
 cases e with
 | exit id' =>
  simp only [inBlk] at h1
  simp only [Exit.inBlock]
  split
  ·rename_i e; rw [if_pos e] at h1; exact ⟨a0, S', ρ', A', h0, h1, h2, h3⟩
  ·rename_i e; rw [if_neg e] at h1; exact ⟨a0, S', ρ', A', h0, h1, h2, h3⟩
 | _ => exact ⟨a0, S', ρ', A', h0, h1, h2, h3⟩

/-- what lies behind a region, told of its last state -/
def regQ (γ : Nat → Option AV) (B : Nat) (S : Nat → Prop) (ρ : List Loc) (w : World) (K : St → Prop) : Exit → Act → World → Prop := fun e a' w' => e = .normal ∧ ∃ S' ρ' A', K A' ∧ Sim B S' γ ρ' A' a' w' ∧ Ext B S ρ w S' ρ' w'

theorem AWPx.region {id : Nat} {ops : Array Oper} {Q : Exit → St → Prop} {A : St} (hd : ops.toList.all (fun o => !isDef o) = true) (hτ : ∀ t, τ t = tiOf P t) (hC : ∀ f args h Q, C f args h Q → PC P γ f args h Q) (hv : vops τ γ C ops.toList ops.toList A (Q .normal)) : AWPx P γ ro ds (.region id ops false) Q A := by
 intro B S ρ a w n hs
 refine wpIn_region_list (list_bridge (Q := regQ γ B S ρ w (Q .normal)) (fun e a w h => h.1) ?_ _ a w hd ?_)
 ·rintro a' w' ⟨_, S', ρ', A', h1, h2, h3⟩
  exact ⟨a', S', ρ', A', rfl, h1, h2, h3⟩
 ·exact vops_sound hτ hC _ A B S ρ a w hs hv fun S' ρ' A' _ _ h1 h2 h3 => ⟨rfl, S', ρ', A', h1, h2, h3⟩

theorem AWPx.draw {id : Nat} {ops : Array Oper} {Q : Exit → St → Prop} {A : St} (hd : ops.toList.all (fun o => !isDef o) = true) (hτ : ∀ t, τ t = tiOf P t) (hC : ∀ f args h Q, C f args h Q → PC P γ f args h Q) (hCQ : ∀ h f args k, CQ h f args k → QCalls P γ h f args k) (hm : P.follows .mixedOrders = true)
  (n0 : Nat) (hB : drawB ops n0 = true) (hv : vhd τ γ CQ ops (ops.toList.take n0) A fun A => vops τ γ C ops.toList (ops.toList.drop n0) A (Q .normal)) : AWPx P γ ro ds (.region id ops true) Q A := by
 intro B S ρ a w n hs
 refine wpIn_region_any hm (any_bridge (Q := regQ γ B S ρ w (Q .normal)) hd (fun e a w h => h.1) ?_ _ _ a _ (any_region_A n0 hB hs (vhd_sound hτ hCQ _ _ hv) fun S' A' a' w' hv' hs' hx => ?_))
 ·rintro a' w' ⟨_, S', ρ', A', h1, h2, h3⟩
  exact ⟨a', S', ρ', A', rfl, h1, h2, h3⟩
 ·exact vops_sound hτ hC _ A' B S' ρ a' w' hs' hv' fun S'' ρ'' A'' a'' w'' h1 h2 h3 => ⟨rfl, S'', ρ'', A'', h1, h2, hx.trans h3⟩

/-- no deferred call is put down -/
def noDef : Code → Bool
 | .seq x y => noDef x && noDef y
 | .cond _ x y => noDef x && noDef y
 | .block _ c => noDef c
 | .region _ ops _ => ops.toList.all fun o => !isDef o
 | .skip | .exit _ | .ret => true
 | _ => false

theorem vcx_sound {D : Array Oper → (St → Prop) → St → Prop} (hτ : ∀ t, τ t = tiOf P t) (hC : ∀ f args h Q, C f args h Q → PC P γ f args h Q)
  (hD : ∀ id ops K (Q : Exit → St → Prop) A, ops.toList.all (fun o => !isDef o) = true → (∀ A, K A → Q .normal A) → D ops K A → AWPx P γ ro ds (.region id ops true) Q A) :
  ∀ (c : Code) (Q : Exit → St → Prop) (A : St), noDef c = true → vc τ γ C D (fun _ _ _ => False) c Q A → AWPx P γ ro ds c Q A
 | .skip, Q, A, _, h => AWPx.skip h
 | .seq x y, Q, A, hd, h => by
  simp only [noDef, Bool.and_eq_true] at hd
  refine AWPx.seq ((vcx_sound hτ hC hD x _ _ hd.1 h).mono fun e A' h' => ?_)
  cases e with
  | normal => exact vcx_sound hτ hC hD y _ _ hd.2 h'
  | _ => exact h'
 | .cond c x y, Q, A, hd, h => by
  simp only [noDef, Bool.and_eq_true] at hd
  refine AWPx.cond ?_
  simp only [vc] at h
  generalize A.ev γ c = v at *
  cases v
  all_goals first | exact h.elim | skip
  all_goals simp only [br] at h ⊢
  all_goals first | exact vcx_sound hτ hC hD x _ _ hd.1 h | exact vcx_sound hτ hC hD y _ _ hd.2 h | skip
  exact ⟨fun u hu => vcx_sound hτ hC hD x _ _ hd.1 (h.1 u hu), fun u hu => vcx_sound hτ hC hD y _ _ hd.2 (h.2 u hu)⟩
 | .block id c, Q, A, hd, h => AWPx.block (vcx_sound hτ hC hD c _ _ hd h)
 | .exit id, Q, A, _, h => AWPx.exit h
 | .ret, Q, A, _, h => AWPx.ret h
 | .region id ops false, Q, A, hd, h => AWPx.region hd hτ hC h
 | .region id ops true, Q, A, hd, h => hD id ops _ Q A hd (fun _ h => h) h
 | .loop c, Q, A, _, h => h.elim
 | .scope c, Q, A, hd, h => by simp [noDef] at hd
 | .goto _, _, _, _, h => h.elim
 | .label _, Q, A, hd, h => by simp [noDef] at hd
 | .refuse _, _, _, _, h => h.elim
 | .rangeFunc .., _, _, _, h => h.elim

/-- what a walk of straight code may lean on -/
structure EnvX (P : Program) (γ : Nat → Option AV) (C : EC) (CQ : List Blk → QC) (T : Nat → TI) (D : Array Oper → (St → Prop) → St → Prop) : Prop where
 c : ∀ {f args h Q}, SCalls P γ f args h Q → C (.inl f) args h Q
 q : ∀ {h f args k}, QCalls P γ h f args k → CQ h f args k
 d : ∀ n {ops K A}, drawB ops n = true → vhd T γ CQ ops (ops.toList.take n) A (fun A => vops T γ C ops.toList (ops.toList.drop n) A K) → D ops K A

def Dx (P : Program) (γ : Nat → Option AV) (ops : Array Oper) (K : St → Prop) (A : St) : Prop := ops.toList.all (fun o => !isDef o) = true → ∀ ro ds id, AWPx P γ ro ds (.region id ops true) (thenE K fun _ _ => False) A
theorem EnvX.top {ty : Program → Nat → TI} (hτ : ∀ t, ty P t = tiOf P t) (hm : P.follows .mixedOrders = true) : EnvX P γ (PC P γ) (fun h f args k => QCalls P γ h f args k) (ty P) (Dx P γ) where
 c := fun h => h
 q := fun h => h
 d := fun n {ops K A} h1 h2 hd ro ds id => AWPx.draw (Q := thenE K fun _ _ => False) hd hτ (fun _ _ _ _ h => h) (fun _ _ _ _ h => h) hm n h1 h2
theorem EnvX.to {ty : Program → Nat → TI} (hτ : ∀ t, ty P t = tiOf P t) (hm : P.follows .mixedOrders = true) {c : Code} {Q : Exit → St → Prop} {A : St} (hd : noDef c = true) (h : vc (ty P) γ (PC P γ) (Dx P γ) (fun _ _ _ => False) c Q A) : AWPx P γ ro ds c Q A :=
 vcx_sound hτ (fun _ _ _ _ h => h) (fun id ops K Q A hd hK h => (h hd ro ds id).mono fun e A' he => by
  cases e with
  | normal => exact hK A' he
  | _ => exact he.elim) c Q A hd h
end
end Go.AL

namespace Go.AL
open Go Go.RowKit

section
variable {P : Program} {γ : Nat → Option AV}

def noCells (o : Obj) : Prop := ∀ c t f, o ≠ .cells c t f

theorem HeapR.addObj {B : Nat} {S : Nat → Prop} {ρ : List Loc} {h : List Blk} {w : World} (hh : HeapR B S γ ρ h w) (loc : Loc) (K : Nat) (hk : loc.k = some K) (hsub : loc.sub = []) (hS : ¬ S K) (hK : K < w.heap.size) (hB : B ≤ K)
  (hn : ∀ (b : Nat) (lc : Loc), ρ[b]? = some lc → ¬ lc.has K) (blk : Blk) (hb : BlkR S w (ρ ++ [loc]) loc blk) : HeapR B S γ (ρ ++ [loc]) (h ++ [blk]) w := by
 have hup := LocsUp.append ρ [loc]
 have key : ∀ (b : Nat) (lc : Loc), (ρ ++ [loc])[b]? = some lc → (b < ρ.length ∧ ρ[b]? = some lc) ∨ (b = ρ.length ∧ lc = loc) := by
  intro b lc h1
  by_cases hlt : b < ρ.length
  ·rw [List.getElem?_append_left hlt] at h1; exact .inl ⟨hlt, h1⟩
  ·rw [List.getElem?_append_right (by omega)] at h1
   have e1 : b - ρ.length = 0 := by
    have := (List.getElem?_eq_some_iff.1 h1).1; simp at this; omega
   rw [e1] at h1; simp at h1; exact .inr ⟨by omega, h1.symm⟩
 refine ⟨by simp [hh.len], fun b bk lc h1 h2 => ?_, fun b lc K h1 h2 => ?_, fun b b' lc lc' K' h1 h2 h3 h4 => ?_, hh.sle, hh.gok, hh.bsz, fun b lc h1 => ?_⟩
 ·rcases key b lc h2 with ⟨a1, a2⟩ | ⟨a1, rfl⟩
  ·rw [List.getElem?_append_left (by rw [← hh.len]; exact a1)] at h1
   exact (hh.blk b bk lc h1 a2).mono (fun _ h => h) (fun _ _ => rfl) hup fun _ _ => rfl
  ·rw [a1, hh.len] at h1
   simp at h1; subst h1; exact hb
 ·rcases key b lc h1 with ⟨a1, a2⟩ | ⟨a1, rfl⟩
  ·exact hh.own b lc K a2 h2
  ·have h2 := Loc.has_nil hsub h2; rw [hk] at h2; cases h2; exact ⟨hS, hK, hB⟩
 ·rcases key b lc h1 with ⟨a1, a2⟩ | ⟨a1, rfl⟩
  ·rcases key b' lc' h2 with ⟨c1, c2⟩ | ⟨c1, rfl⟩
   ·exact hh.inj b b' lc lc' K' a2 c2 h3 h4
   ·have h4 := Loc.has_nil hsub h4; rw [hk] at h4; cases h4; exact absurd h3 (hn b lc a2)
  ·have h3 := Loc.has_nil hsub h3; rw [hk] at h3; cases h3
   rcases key b' lc' h2 with ⟨c1, c2⟩ | ⟨c1, rfl⟩
   ·exact absurd h4 (hn b' lc' c2)
   ·omega
 ·rcases key b lc h1 with ⟨a1, a2⟩ | ⟨a1, rfl⟩
  ·exact hh.sok b lc a2
  ·exact .nil hsub

/-- a new object -/
theorem HeapR.allocObj {B : Nat} {S : Nat → Prop} {ρ : List Loc} {h : List Blk} {w : World} (hh : HeapR B S γ ρ h w) (o : Obj) (ho : noCells o) (s : Tr) (t : Array Value) (hs : ∀ n, R S w (some ρ) (s.get n) (t.getD n Go.undef)) :
  ∃ ρ', HeapR B S γ ρ' (h ++ [.obj w.heap.size o s t]) (w.alloc o) ∧ Ext B S ρ w S ρ' (w.alloc o) := by
 have hq : ExtQ S w S (w.alloc o) := ⟨Fr.alloc w o fun c t lo hi e => absurd e (ho c t (lo, hi)), fun k hk => Below.heap_alloc w _ k hk, fun _ h => h, fun _ h => .inl h⟩
 have hsz : (w.alloc o).heap.size = w.heap.size + 1 := World.size_alloc ..
 refine ⟨ρ ++ [⟨true, 0, some w.heap.size, 0, 0, []⟩], (hh.q hq).addObj _ w.heap.size rfl rfl (fun hk => by have := hh.sle _ hk; omega) (by omega) hh.bsz (fun b lc h1 h2 => by have := (hh.own b lc _ h1 h2).2.1; omega) _
  ⟨rfl, rfl, World.alloc_heap_new w o, fun n => ?_⟩, ?_⟩
 ·exact R.mono (fun _ h => h) (fun k hk => hq.same k (hh.sle k hk)) (ρ := some ρ) (ρ' := some (ρ ++ [_])) (LocsUp.append ρ _) _ _ (hs n)
 ·exact (hh.ext hq).trans ⟨Fr.refl _, fun _ _ => rfl, fun _ h => h, fun _ _ => rfl, LocsUp.append ρ _, fun _ h => .inl h⟩

/-- an object is turned into another -/
theorem HeapR.putObj {B : Nat} {S : Nat → Prop} {ρ : List Loc} {h : List Blk} {w : World} (hh : HeapR B S γ ρ h w) {b K : Nat} {o : Obj} (o' : Obj) {s : Tr} {t : Array Value} (hb : h[b]? = some (.obj K o s t)) (ho : noCells o) (ho' : noCells o') :
  w.heap[K]? = some o ∧ HeapR B S γ ρ (h.set b (.obj K o' s t)) (w.putObj K o') ∧ Ext B S ρ w S ρ (w.putObj K o') ∧ ∀ n, R S w (some ρ) (s.get n) (t.getD n Go.undef) := by
 have hblt : b < ρ.length := by rw [hh.len]; exact (List.getElem?_eq_some_iff.1 hb).1
 obtain ⟨loc, hloc⟩ : ∃ loc, ρ[b]? = some loc := ⟨_, List.getElem?_eq_getElem hblt⟩
 obtain ⟨k1, k2, k3, k4⟩ := hh.blk b _ loc hb hloc
 obtain ⟨m1, m2, m3⟩ := hh.own b loc K hloc (.inl k2)
 have same : SameOn S w (w.putObj K o') := fun k hk => World.putObj_heap_other (fun e => m1 (e ▸ hk))
 have fro : ∀ a, (w.putObj K o').frozen? a = w.frozen? a := fun a => by
  by_cases e : a.block = K
  ·simp only [World.frozen?, e, World.putObj_heap_same m2, k3]
   cases o' <;> first | exact absurd rfl (ho' _ _ _) | (cases o <;> first | exact absurd rfl (ho _ _ _) | rfl)
  ·simp only [World.frozen?, World.putObj_heap_other e]
 have fr : Fr w (w.putObj K o') := ⟨rfl, rfl, rfl, by simp, fun a _ => fro a⟩
 refine ⟨k3, ⟨by simp [hh.len], fun b' bk lc h1 h2 => ?_, fun b' lc K' h1 h2 => by have := hh.own b' lc K' h1 h2; simpa using this, hh.inj, fun k hk => by simpa using hh.sle k hk, fun g x hg => ?_, by simpa using hh.bsz, hh.sok⟩,
  ⟨fr, fun k hk => World.putObj_heap_other (by omega), fun _ h => h, same, LocsUp.refl ρ, fun _ h => .inl h⟩, k4⟩
 ·by_cases e : b = b'
  ·subst e
   rw [hloc] at h2; cases h2
   rw [List.getElem?_set_self (by rw [← hh.len]; exact hblt)] at h1
   cases h1
   exact ⟨k1, k2, World.putObj_heap_same m2, fun n => R.mono (fun _ h => h) same (ρ := some ρ) (ρ' := some ρ) (LocsUp.refl ρ) _ _ (k4 n)⟩
  ·rw [List.getElem?_set_ne e] at h1
   refine (hh.blk b' bk lc h1 h2).mono (fun _ h => h) same (LocsUp.refl ρ) fun K' hK' => World.putObj_heap_other fun e' => e ?_
   subst e'
   exact hh.inj b b' loc lc _ hloc h2 (.inl k2) hK'
 ·exact R.mono (fun _ h => h) same (ρ := none) (ρ' := none) trivial _ _ (hh.gok g x hg)
end
end Go.AL

namespace Go.AL
open Go Go.RowKit

/-- the loop's record -/
def recOf (fn : FuncId) (t : Array Value) (ps : Array Tmp) (asg bd : Code) (D : Nat) (st : LoopState) (pe : Option Code) : Obj :=
 .loop { state := st, pending := pe, fn, tmps := t, params := ps, assign := asg, body := bd, defers := D }
theorem recOf_nc {fn : FuncId} {t : Array Value} {ps : Array Tmp} {asg bd : Code} {D : Nat} {st : LoopState} {pe : Option Code} : noCells (recOf fn t ps asg bd D st pe) := fun _ _ _ h => by cases h

section
variable {P : Program} {γ : Nat → Option AV}

theorem sets_slots {S : Nat → Prop} {w : World} {ρ : List Loc} : ∀ (ps : List Tmp) (args : List AV) (vals : List Value) (s : Tr) (t : Array Value), Rs S w (some ρ) args vals → ps.length = args.length → (∀ p ∈ ps, p < t.size ∧ p + 1 < 1024) →
  (∀ n, R S w (some ρ) (s.get n) (t.getD n Go.undef)) → ∀ n, R S w (some ρ) ((sets (ps.zip args) s).get n) (((ps.zip vals).foldl (fun t (p, v) => t.setIfInBounds p v) t).getD n Go.undef)
 | [], args, vals, s, t, _, _, _, hs, n => by simpa [sets] using hs n
 | p :: ps, args, vals, s, t, hr, hl, hp, hs, n => by
  cases args with
  | nil => simp at hl
  | cons x args =>
   obtain ⟨v, vs, rfl, h1, h2⟩ := hr
   simp only [List.zip_cons_cons, sets, List.foldl_cons]
   refine sets_slots ps args vs _ _ h2 (by simpa using hl) (fun q hq => by have := hp q (List.mem_cons_of_mem _ hq); simpa using this) (fun m => ?_) n
   obtain ⟨hp1, hp2⟩ := hp p List.mem_cons_self
   rw [Tr.get_set' 10 s p m x (by omega)]
   by_cases e : m = p
   ·subst e
    rw [if_pos rfl]
    have : (t.setIfInBounds m v).getD m Go.undef = v := by simp [Array.getD, hp1]
    rw [this]; exact h1
   ·rw [if_neg e]
    have : (t.setIfInBounds p v).getD m Go.undef = t.getD m Go.undef := by
     rw [Array.getD_eq_getD_getElem?, Array.getD_eq_getD_getElem?, Array.getElem?_setIfInBounds_ne (Ne.symm e)]
    rw [this]; exact hs m

theorem foldl_size : ∀ (l : List (Tmp × Value)) (t : Array Value), (l.foldl (fun t (p, v) => t.setIfInBounds p v) t).size = t.size
 | [], t => rfl
 | (p, v) :: l, t => by rw [List.foldl_cons, foldl_size l]; simp

/-- what a round's body must leave -/
def endQ (b l : Nat) (oB oR : Obj) (oX : Option Obj) (s : Tr) (t : Array Value) (Q : AV → List Blk → Prop) : Exit → St → Prop
 | .normal, A => A.h[b]? = some (.obj l oB s t) ∧ Q .tt (A.h.set b (.obj l oR s t))
 | .ret, A => match oX with | some oX => A.h[b]? = some (.obj l oB s t) ∧ Q .ff (A.h.set b (.obj l oX s t)) | none => False
 | _, _ => False

theorem YCall.of_body {l D b fn n0 : Nat} {s : Tr} {t : Array Value} {ps : Array Tmp} {asg bd : Code} {H : List Blk} {args : List AV} {Q : AV → List Blk → Prop} (hn : t.size = n0) (hn0 : n0 ≤ 1000) (hps : ps.toList.length = args.length) (hp : ∀ p ∈ ps.toList, p < n0)
  (hb : H[b]? = some (.obj l (recOf fn t ps asg bd D .ready none) s t))
  (h : AWPx P γ (some l) [] asg (thenE (fun A => A.h[b]? = some (.obj l (recOf fn t ps asg bd D .ready none) s t) ∧
   AWPx P γ (some l) [] bd (endQ b l (recOf fn t ps asg bd D .busy none) (recOf fn t ps asg bd D .ready none) (some (recOf fn t ps asg bd D .done (some .ret))) s t Q) ⟨A.n, A.s, A.h.set b (.obj l (recOf fn t ps asg bd D .busy none) s t)⟩) fun _ _ => False) ⟨n0, sets (ps.toList.zip args) s, H⟩) : YCall P γ l args H Q := by
 intro B S ρ w vals hh hr
 have hblt : b < ρ.length := by rw [hh.len]; exact (List.getElem?_eq_some_iff.1 hb).1
 obtain ⟨_, _, hl, hslots⟩ := hh.blk b _ _ hb (List.getElem?_eq_getElem hblt)
 have hvl := Rs_len hr
 have hy := run_yield (P := P) (args := vals.toArray) hl (by show vals.toArray.size = ps.size; simp; rw [hvl, ← hps]; simp)
 refine ⟨_, _, _, _, hy, fun n => roundIn_of_wpIn (F := Fence.wide) trivial ?_⟩
 have hz : ∀ (vs : List Value), (ps.zip vs.toArray).foldl (fun t (p, v) => t.setIfInBounds p v) t = (ps.toList.zip vs).foldl (fun t (p, v) => t.setIfInBounds p v) t := fun vs => by
  rw [← Array.foldl_toList]; simp
 have hsim : Sim B S γ ρ ⟨n0, sets (ps.toList.zip args) s, H⟩ ⟨(ps.zip vals.toArray).foldl (fun t (p, v) => t.setIfInBounds p v) t, []⟩ w := by
  refine ⟨rfl, ?_, hn0, ?_, hh⟩
  ·show ((ps.zip vals.toArray).foldl (fun t (p, v) => t.setIfInBounds p v) t).size = n0
   rw [hz, foldl_size]; exact hn
  ·intro m
   show R S w (some ρ) ((sets (ps.toList.zip args) s).get m) (((ps.zip vals.toArray).foldl (fun t (p, v) => t.setIfInBounds p v) t).getD m Go.undef)
   rw [hz]
   exact sets_slots _ _ _ _ _ hr hps (fun p hp' => ⟨by rw [hn]; exact hp p hp', by have h9 : @LT.lt Nat _ p n0 := hp p hp'; exact (by omega : @LT.lt Nat _ (@HAdd.hAdd Nat Nat Nat _ p 1) 1024)⟩) hslots m
 refine wpIn_mono (h B S ρ _ w n hsim) fun e a1 w1 ⟨a0, S1, ρ1, A1, h0, h1, hs1, hx1⟩ => ?_
 cases e with
 | normal =>
  obtain ⟨hb1, hbody⟩ := h1
  obtain ⟨hl1, hh1, hxp, _⟩ := hs1.heap.putObj (recOf fn t ps asg bd D .busy none) hb1 recOf_nc recOf_nc
  refine ⟨_, run_beginRound hl1 rfl, ?_⟩
  subst h0
  refine wpIn_mono (hbody B S1 ρ1 a0 _ n ⟨hs1.nodef, hs1.size, hs1.small, fun m => hxp.R (hs1.slot m), hh1⟩) fun e a2 w2 ⟨a3, S2, ρ2, A2, h2, h3, hs2, hx2⟩ => ?_
  have hx := (hx1.trans hxp).trans hx2
  cases e with
  | normal =>
   obtain ⟨hb2, hQ⟩ := h3
   obtain ⟨hl2, hh2, hxq, _⟩ := hs2.heap.putObj (recOf fn t ps asg bd D .ready none) hb2 recOf_nc recOf_nc
   exact ⟨_, _, run_endRound none hl2, .tt, _, S2, ρ2, _, rfl, hQ, rfl, hh2, hx.trans hxq⟩
  | ret =>
   obtain ⟨hb2, hQ⟩ := h3
   obtain ⟨hl2, hh2, hxq, _⟩ := hs2.heap.putObj (recOf fn t ps asg bd D .done (some .ret)) hb2 recOf_nc recOf_nc
   exact ⟨_, _, run_endRound (some .ret) hl2, .ff, _, S2, ρ2, _, rfl, hQ, rfl, hh2, hx.trans hxq⟩
  | _ => exact h3.elim
 | _ => exact h1.elim
end
end Go.AL

namespace Go.AL
open Go Go.RowKit

section
variable {P : Program} {γ : Nat → Option AV}

def wpInL (F : Fence) (n : Nat) (P : Program) : List Code → (Exit → Act → World → Prop) → Act → World → Prop
 | [], Q, a, w => Q .normal a w
 | c :: r, Q, a, w => c.wpIn F n P (Exit.then (fun a w => wpInL F n P r Q a w) Q) a w
theorem wpInL_mono {F : Fence} {n : Nat} : ∀ {l : List Code} {Q Q' : Exit → Act → World → Prop} {a : Act} {w : World}, (∀ e a w, Q e a w → Q' e a w) → wpInL F n P l Q a w → wpInL F n P l Q' a w
 | [], _, _, _, _, hq, h => hq _ _ _ h
 | c :: r, Q, Q', a, w, hq, h => wpIn_mono h fun e a w h' => by
  cases e with
  | normal => exact wpInL_mono hq h'
  | _ => exact hq _ _ _ h'
theorem wpInL_app {F : Fence} {n : Nat} : ∀ {xs ys : List Code} {Q : Exit → Act → World → Prop} {a : Act} {w : World}, wpInL F n P xs (Exit.then (wpInL F n P ys Q) Q) a w → wpInL F n P (xs ++ ys) Q a w
 | [], ys, Q, a, w, h => h
 | x :: xs, ys, Q, a, w, h => wpIn_mono h fun e a w h' => by
  cases e with
  | normal => exact wpInL_app h'
  | _ => exact h'
theorem wpInL_unapp {F : Fence} {n : Nat} : ∀ {xs ys : List Code} {Q : Exit → Act → World → Prop} {a : Act} {w : World}, wpInL F n P (xs ++ ys) Q a w → wpInL F n P xs (Exit.then (wpInL F n P ys Q) Q) a w
 | [], ys, Q, a, w, h => h
 | x :: xs, ys, Q, a, w, h => wpIn_mono h fun e a w h' => by
  cases e with
  | normal => exact wpInL_unapp h'
  | _ => exact h'
theorem wpInL_one {F : Fence} {n : Nat} {c : Code} {Q : Exit → Act → World → Prop} {a : Act} {w : World} (h : wpInL F n P [c] Q a w) : c.wpIn F n P Q a w := wpIn_mono h fun e a w h' => by cases e <;> exact h'
theorem wpInL_items {F : Fence} {n : Nat} : ∀ (c : Code) {Q : Exit → Act → World → Prop} {a : Act} {w : World}, wpInL F n P (citems c) Q a w → c.wpIn F n P Q a w
 | .seq x y, Q, a, w, h => wpIn_seq (wpIn_mono (wpInL_items x (wpInL_unapp h)) fun e a w h' => by
  cases e with
  | normal => exact wpInL_items y h'
  | _ => exact h')
 | .skip, _, _, _, h => wpInL_one h
 | .cond .., _, _, _, h => wpInL_one h
 | .block .., _, _, _, h => wpInL_one h
 | .exit _, _, _, _, h => wpInL_one h
 | .ret, _, _, _, h => wpInL_one h
 | .region .., _, _, _, h => wpInL_one h
 | .loop _, _, _, _, h => wpInL_one h
 | .scope _, _, _, _, h => wpInL_one h
 | .goto _, _, _, _, h => wpInL_one h
 | .label _, _, _, _, h => wpInL_one h
 | .refuse _, _, _, _, h => wpInL_one h
 | .rangeFunc .., _, _, _, h => wpInL_one h

/-- what stands ahead of the loop -/
theorem pre_sound {C : EC} {CQ : List Blk → QC} {T : Nat → TI} {D : Array Oper → (St → Prop) → St → Prop} {W : Code → (Exit → St → Prop) → St → Prop} (E : Env P γ C CQ T D W) {n : Nat} : ∀ (l : List Code) (Q : Exit → St → Prop) (A : St), vcl T γ C D W l Q A →
  ∀ B S ρ a w, Sim B S γ ρ A a w → wpInL Fence.wide n P l (fun e a' w' => ∃ S' ρ' A', Q e A' ∧ Sim B S' γ ρ' A' a' w' ∧ Ext B S ρ w S' ρ' w') a w
 | [], Q, A, h, B, S, ρ, a, w, hs => ⟨S, ρ, A, h, hs, Ext.refl _ _ _ _⟩
 | c :: r, Q, A, h, B, S, ρ, a, w, hs => wpIn_mono (wpIn_wide.2 (E.b h B S ρ a w hs)) fun e a' w' ⟨S', ρ', A', h1, h2, h3⟩ => by
  cases e with
  | normal => exact wpInL_mono (fun e a w ⟨S'', ρ'', A'', k1, k2, k3⟩ => ⟨S'', ρ'', A'', k1, k2, h3.trans k3⟩) (pre_sound E r Q A' h1 B S' ρ' a' w' h2)
  | _ => exact ⟨S', ρ', A', h1, h2, h3⟩
/-- what stands behind it -/
theorem post_sound {ty : Program → Nat → TI} (hτ : ∀ t, ty P t = tiOf P t) (hm : P.follows .mixedOrders = true) {ds : List Deferred} {n : Nat} : ∀ (l : List Code) (Q : Exit → St → Prop) (A : St), l.all noDef = true → vcl (ty P) γ (PC P γ) (Dx P γ) (fun _ _ _ => False) l Q A →
  ∀ B S ρ a w, Sim B S γ ρ A a w → wpInL Fence.wide n P l (fun e a' w' => ∃ a0 S' ρ' A', a' = df ds a0 ∧ Q e A' ∧ Sim B S' γ ρ' A' a0 w' ∧ Ext B S ρ w S' ρ' w') (df ds a) w
 | [], Q, A, _, h, B, S, ρ, a, w, hs => ⟨a, S, ρ, A, rfl, h, hs, Ext.refl _ _ _ _⟩
 | c :: r, Q, A, hl, h, B, S, ρ, a, w, hs => by
  simp only [List.all_cons, Bool.and_eq_true] at hl
  refine wpIn_mono (EnvX.to (ro := none) (ds := ds) hτ hm hl.1 h B S ρ a w n hs) fun e a' w' ⟨a0, S', ρ', A', h0, h1, h2, h3⟩ => ?_
  cases e with
  | normal =>
   subst h0
   exact wpInL_mono (fun e a w ⟨a1, S'', ρ'', A'', k0, k1, k2, k3⟩ => ⟨a1, S'', ρ'', A'', k0, k1, k2, h3.trans k3⟩) (post_sound hτ hm r Q A' hl.2 h1 B S' ρ' a0 w' h2)
  | _ => exact ⟨a0, S', ρ', A', h0, h1, h2, h3⟩

def mark (D : Nat) : Deferred := { target := .collected D, args := #[] }
def oDef : Obj := .deferred (some [])
theorem oDef_nc : noCells oDef := fun _ _ _ h => by cases h

/-- THE STATEMENT. -/
theorem rf_sound {id : Nat} {g : Operand} {ps : Array Tmp} {asg bd : Code} {A : St} {gf : Nat} {cs : List AV} (hg : A.ev γ g = .fn gf [] cs) {K : Nat → Exit → St → Prop}
  (hit : ∀ (l D fn : Nat) (t : Array Value), t.size = A.n → SCalls P γ gf (.raw (.func (.yield l) #[] #[]) :: cs) (A.h ++ [.obj D oDef .nil #[], .obj l (recOf fn t ps asg bd D .ready none) A.s t]) fun _ h' =>
   (h'[A.h.length + 1]? = some (.obj l (recOf fn t ps asg bd D .ready none) A.s t) ∧ K D .normal ⟨A.n, A.s, h'.set (A.h.length + 1) (.obj l (recOf fn t ps asg bd D .exhausted none) A.s t)⟩) ∨
   (h'[A.h.length + 1]? = some (.obj l (recOf fn t ps asg bd D .done (some .ret)) A.s t) ∧ K D .ret ⟨A.n, A.s, h'.set (A.h.length + 1) (.obj l (recOf fn t ps asg bd D .exhausted (some .ret)) A.s t)⟩))
  {B : Nat} {S : Nat → Prop} {ρ : List Loc} {a : Act} {w : World} {n : Nat} (hs : Sim B S γ ρ A a w) :
  (Code.block id (.rangeFunc g ps asg bd)).wpIn Fence.wide n P (fun e a' w' => ∃ D a0 S' ρ' A', a' = df [mark D] a0 ∧ K D e A' ∧ Sim B S' γ ρ' A' a0 w' ∧ Ext B S ρ w S' ρ' w') a w := by
 refine wpIn_block (wpIn_rangeFunc fun fn _ => ?_)
 have hgv := hs.ev g
 rw [hg] at hgv
 obtain ⟨fv, cv, hgv, hr1, hr2⟩ := hgv
 have hfv : fv = [] := by cases fv with
  | nil => rfl
  | cons x xs => exact absurd hr1 (by simp [Rs])
 subst hfv
 obtain ⟨ρ1, hh1, hx1⟩ := hs.heap.allocObj oDef oDef_nc .nil #[] fun m => rfl
 obtain ⟨ρ2, hh2, hx2⟩ := hh1.allocObj (recOf fn a.tmps ps asg bd w.heap.size .ready none) recOf_nc A.s a.tmps fun m => hx1.R (hs.slot m)
 have hx := hx1.trans hx2
 have hsz : (w.alloc oDef).heap.size = w.heap.size + 1 := World.size_alloc ..
 rw [hsz] at hh2
 have hcall := hit (w.heap.size + 1) w.heap.size fn a.tmps hs.size
 have hvals : Rs S ((w.alloc oDef).alloc (recOf fn a.tmps ps asg bd w.heap.size .ready none)) (some ρ2) (.raw (.func (.yield (w.heap.size + 1)) #[] #[]) :: cs) (.func (.yield (w.heap.size + 1)) #[] #[] :: cv) :=
  ⟨_, _, rfl, rfl, Rs.mono (fun _ h => h) hx.same (ρ := some ρ) (ρ' := some ρ2) hx.locs _ _ hr2⟩
 have hc := hcall.2 B S ρ2 _ _ (by simpa using hh2) hvals
 have hargs : (#[.func (.yield (w.heap.size + 1)) #[] #[]] : Array Value) ++ cv.toArray = (.func (.yield (w.heap.size + 1)) #[] #[] :: cv : List Value).toArray := by apply Array.toList_inj.1; simp
 refine ⟨w.heap.size + 1, [mark w.heap.size], (w.alloc oDef).alloc (recOf fn a.tmps ps asg bd w.heap.size .ready none), { target := .fn (.func gf) cv.toArray, args := #[.func (.yield (w.heap.size + 1)) #[] #[]] }, (w.alloc oDef).alloc (recOf fn a.tmps ps asg bd w.heap.size .ready none), gf, #[.func (.yield (w.heap.size + 1)) #[] #[]] ++ cv.toArray, (w.alloc oDef).alloc (recOf fn a.tmps ps asg bd w.heap.size .ready none), run_enterLoop_outer _ _ _ _ _, ?_, fun _ _ => trivial, ?_, (by intro h; cases h), ?_⟩
 ·simp only [resolve, hgv]
  simp [go_sem]
 ·simp only [invoke]
  exact hcall.1 _ _
 ·rw [hargs]
  refine callsIn_wide.2 (hc.mono fun e w3 ⟨v, h', S3, ρ3, v', he, hq, hv, hh3, hx3⟩ => ?_)
  subst he
  have hact : ({ a with defers := [mark w.heap.size] ++ a.defers } : Act) = df [mark w.heap.size] a := by
   have := hs.nodef
   unfold df; rw [this]; rfl
  rcases hq with ⟨hb, hk⟩ | ⟨hb, hk⟩
  ·obtain ⟨hl, hh4, hx4, hsl⟩ := hh3.putObj (recOf fn a.tmps ps asg bd w.heap.size .exhausted none) hb recOf_nc recOf_nc
   refine ⟨none, _, run_endLoop hl (by intro h; cases h), ?_⟩
   refine ⟨_, a, S3, ρ3, _, hact, hk, ⟨hs.nodef, hs.size, hs.small, fun m => hx4.R (hsl m), hh4⟩, (hx.trans hx3).trans hx4⟩
  ·obtain ⟨hl, hh4, hx4, hsl⟩ := hh3.putObj (recOf fn a.tmps ps asg bd w.heap.size .exhausted (some .ret)) hb recOf_nc recOf_nc
   refine ⟨some .ret, _, run_endLoop hl (by intro h; cases h), wpIn_ret ?_⟩
   refine ⟨_, a, S3, ρ3, _, hact, hk, ⟨hs.nodef, hs.size, hs.small, fun m => hx4.R (hsl m), hh4⟩, (hx.trans hx3).trans hx4⟩
end
end Go.AL

namespace Go.AL
open Go Go.RowKit

section
variable {P : Program} {γ : Nat → Option AV}

/-- what holds at the end of the body, the mark's calls taken over -/
def endF (T : Nat → TI) (rs : List ResultVar) (F : AV → List Blk → Prop) (D bD : Nat) (oD oD' : Obj) (e : Exit) (A : St) : Prop :=
 A.h[bD]? = some (.obj D oD .nil #[]) ∧ bodyQ T rs F e ⟨A.n, A.s, A.h.set bD (.obj D oD' .nil #[])⟩

/-- what the loop asks of the state that comes to it -/
def RFp (P : Program) (γ : Nat → Option AV) (T : Nat → TI) (C : EC) (D : Array Oper → (St → Prop) → St → Prop) (F : AV → List Blk → Prop) (g : Operand) (ps : Array Tmp) (asg bd : Code) (rs : List ResultVar) (post : List Code) (A : St) : Prop :=
 ∃ A' gf cs, Step γ A A' ∧ A'.ev γ g = .fn gf [] cs ∧ (ps.toList.all fun p => decide (p < A'.n)) = true ∧ ∀ (l DD : Nat) (t : Array Value) (oR oB oX oE oEX oD oD' : Obj),
  (∀ (args : List AV) (H : List Blk) (Q : AV → List Blk → Prop), ps.toList.length = args.length → H[A'.h.length + 1]? = some (.obj l oR A'.s t) →
   vc T γ C D (fun _ _ _ => False) asg (thenE (fun A1 => A1.h[A'.h.length + 1]? = some (.obj l oR A'.s t) ∧ vc T γ C D (fun _ _ _ => False) bd (endQ (A'.h.length + 1) l oB oR (some oX) A'.s t Q) ⟨A1.n, A1.s, A1.h.set (A'.h.length + 1) (.obj l oB A'.s t)⟩) fun _ _ => False) ⟨A'.n, sets (ps.toList.zip args) A'.s, H⟩ → YCall P γ l args H Q) →
  SCalls P γ gf (.raw (.func (.yield l) #[] #[]) :: cs) (A'.h ++ [.obj DD oD .nil #[], .obj l oR A'.s t]) fun _ h' =>
   (h'[A'.h.length + 1]? = some (.obj l oR A'.s t) ∧ vcl T γ C D (fun _ _ _ => False) post (endF T rs F DD A'.h.length oD oD') ⟨A'.n, A'.s, h'.set (A'.h.length + 1) (.obj l oE A'.s t)⟩) ∨
   (h'[A'.h.length + 1]? = some (.obj l oX A'.s t) ∧ endF T rs F DD A'.h.length oD oD' .ret ⟨A'.n, A'.s, h'.set (A'.h.length + 1) (.obj l oEX A'.s t)⟩)

theorem endF_run {τ : Nat → TI} (hτ : ∀ t, τ t = tiOf P t) {fn : Func} {F : AV → List Blk → Prop} {D bD : Nat} {e : Exit} {A : St} (h : endF τ fn.results.toList F D bD oDef (.deferred none) e A) {B : Nat} {S : Nat → Prop} {ρ : List Loc} {a : Act} {w : World} (hs : Sim B S γ ρ A a w) {R' : Ending → World → Prop}
  (hR : ∀ h' w' v v', F v h' → HeapR B S γ ρ h' w' → R S w' (some ρ) v v' → Ext B S ρ w S ρ w' → R' (.returned v') w') {n : Nat} : bodyPostM Fence.wide n P fn R' e (df [mark D] a) w := by
 obtain ⟨hb, hq⟩ := h
 obtain ⟨hD, hh, hx, _⟩ := hs.heap.putObj (.deferred none) hb oDef_nc fun _ _ _ h => by cases h
 have hs' : Sim B S γ ρ ⟨A.n, A.s, A.h.set bD (.obj D (.deferred none) .nil #[])⟩ a (w.putObj D (.deferred none)) := ⟨hs.nodef, hs.size, hs.small, fun m => hx.R (hs.slot m), hh⟩
 have := bodyQ_run hτ hq hs' (R' := R') fun v v' hv hr => hR _ _ v v' hv hh hr hx
 have go : (a.defers = [] ∧ ∃ v, (results fn a.tmps).run P (w.putObj D (.deferred none)) = .ok v (w.putObj D (.deferred none)) ∧ R' (.returned v) (w.putObj D (.deferred none))) → LeavesInM Fence.wide n P fn a.tmps R' (a.defers ++ [mark D]) .returning w := fun ⟨hd, v, h1, h2⟩ => by
  rw [hd]
  exact ⟨by simp, .inl ⟨D, _, rfl, run_takeDeferred hD, v, h1, h2⟩⟩
 cases e with
 | normal => exact go this
 | ret => exact go this
 | _ => exact hq.elim

/-- A CONTRACT ON DATA, of a function with a range over a function. -/
theorem Pure.goR {ty : Program → Nat → TI} (hτ : ∀ t, ty P t = tiOf P t) (hm : P.follows .mixedOrders = true) {f : FuncId} {fn : Func} {n : Nat} {rs : Array ResultVar}
  (hf : P.funcs[f]? = some fn) (hb : fn.body = some (fn.body.getD .skip)) (hn : fn.ntmps = n) (hr : fn.results = rs) (he : Enters P f) {args : List AV} {y : AV} (hsz : args.length ≤ n ∧ n < 1000)
  (k : Nat) {id : Nat} {g : Operand} {ps : Array Tmp} {asg bd : Code} {pre post : List Code} (hk : citems (fn.body.getD .skip) = pre ++ .block id (.rangeFunc g ps asg bd) :: post) (hnd : (noDef asg && noDef bd && post.all noDef) = true)
  (h : ∀ (P' : Program) (C : EC) (CQ : List Blk → QC) (D : Array Oper → (St → Prop) → St → Prop) (W : Code → (Exit → St → Prop) → St → Prop) (C2 : EC) (CQ2 : List Blk → QC) (D2 : Array Oper → (St → Prop) → St → Prop) (F : AV → List Blk → Prop) (RQ : St → Prop), Env P γ C CQ (ty P') D W → EnvX P γ C2 CQ2 (ty P') D2 →
   (∀ {v h}, fz h y v → F v h) → (∀ {A}, RFp P γ (ty P') C2 D2 F g ps asg bd rs.toList post A → RQ A) → vcl (ty P') γ C D W pre (thenE RQ (bodyQ (ty P') rs.toList F)) (start n args [])) : Pure P γ false f args y := by
 subst hn; subst hr
 simp only [Bool.and_eq_true] at hnd
 obtain ⟨⟨hnd1, hnd2⟩, hnd3⟩ := hnd
 refine ⟨he, fun S w vals hS hg hargs => callsIn_wide.1 (callsIn_of_wp_marks (F := Fence.wide) (n := 0) hf hb trivial ?_)⟩
 have hh : HeapR w.heap.size S γ [] [] w := ⟨rfl, fun b blk loc h _ => by simp at h, fun b loc K h _ => by simp at h, fun b b' loc loc' K h _ _ _ => by simp at h, hS, hg, Nat.le_refl _, fun b loc h => by simp at h⟩
 have hs0 := Sim.start hh (Rs.mono (S := S) (fun _ h => h) (fun _ _ => rfl) (ρ := none) (ρ' := some []) trivial _ _ hargs) hsz.1 hsz.2
 have E := Env.top (γ := γ) hτ hm
 have h0 := h P _ _ _ _ _ _ _ (fun v h => fz h y v) (RFp P γ (ty P) (PC P γ) (Dx P γ) (fun v h => fz h y v) g ps asg bd fn.results.toList post) E (EnvX.top hτ hm) (fun h => h) (fun h => h)
 have fin0 : ∀ h'' w'' (X : (Nat → Prop) × List Loc) v v', fz h'' y v → HeapR w.heap.size X.1 γ X.2 h'' w'' → R X.1 w'' (some X.2) v v' → Ext w.heap.size S [] w X.1 X.2 w'' → ∃ v'' S', Ending.returned v' = .returned v'' ∧ R S' w'' none y v'' ∧ ExtQ (fun k => false = false ∧ S k) w S' w'' := fun h'' w'' ⟨S', ρ'⟩ v v' hv hh2 hr h3 => by
  refine ⟨v', Froz S' ρ', rfl, fz_sound hh2 y v v' hv hr, h3.fr, h3.below, fun k hk => .inl (h3.sub k hk.2), fun k hk => ?_⟩
  rcases hk with hk | ⟨b, loc, hb, hk⟩
  ·rcases h3.grow k hk with h4 | h4
   ·exact .inl ⟨rfl, h4⟩
   ·exact .inr ⟨h4, hh2.sle k hk⟩
  ·obtain ⟨_, h5, h6⟩ := hh2.own b loc k hb hk
   exact .inr ⟨h6, h5⟩
 have fin : ∀ D bD e A S' ρ' a' w', endF (ty P) fn.results.toList (fun v h => fz h y v) D bD oDef (.deferred none) e A → Sim w.heap.size S' γ ρ' A a' w' → Ext w.heap.size S [] w S' ρ' w' →
   bodyPostM Fence.wide 0 P fn (fun e w' => ∃ v' S', e = .returned v' ∧ R S' w' none y v' ∧ ExtQ (fun k => false = false ∧ S k) w S' w') e (df [mark D] a') w' := fun D bD e A S' ρ' a' w' h1 h2 h3 => by
  exact endF_run hτ h1 h2 fun h'' w'' v v' hv hh2 hr hx => fin0 _ _ (S', ρ') v v' hv hh2 hr (h3.trans hx)
 refine wpInL_items _ ?_
 rw [hk]
 refine wpInL_app (wpInL_mono ?_ (pre_sound E _ _ _ h0 _ _ _ _ w hs0))
 rintro e a1 w1 ⟨S1, ρ1, A1, h1, hs1, hx1⟩
 cases e with
 | normal =>
  obtain ⟨A2, gf, cs, hstep, hg2, hps, hit⟩ := h1
  obtain ⟨S2, ρ2, hs2, hx2⟩ := hstep _ _ _ _ _ hs1
  have hps : ∀ p ∈ ps.toList, p < A2.n := fun p hp => by simpa using List.all_eq_true.1 hps p hp
  refine wpIn_mono (rf_sound (id := id) (K := fun D e A => match e with | .normal => vcl (ty P) γ (PC P γ) (Dx P γ) (fun _ _ _ => False) post (endF (ty P) fn.results.toList (fun v h => fz h y v) D A2.h.length oDef (.deferred none)) A | .ret => endF (ty P) fn.results.toList (fun v h => fz h y v) D A2.h.length oDef (.deferred none) .ret A | _ => False) hg2 (fun l D fn' t ht => ?_) hs2) ?_
  ·refine (hit l D t (recOf fn' t ps asg bd D .ready none) (recOf fn' t ps asg bd D .busy none) (recOf fn' t ps asg bd D .done (some .ret)) (recOf fn' t ps asg bd D .exhausted none) (recOf fn' t ps asg bd D .exhausted (some .ret)) oDef (.deferred none) fun args H Q hl hH hv => ?_).mono fun v h' h3 => h3
   refine YCall.of_body ht hs2.small hl hps hH ?_
   refine (EnvX.to (ro := some l) (ds := []) hτ hm hnd1 hv).mono fun e A' h' => ?_
   cases e with
   | normal => exact ⟨h'.1, EnvX.to (ro := some l) (ds := []) hτ hm hnd2 h'.2⟩
   | _ => exact h'.elim
  ·rintro e a3 w3 ⟨D, a4, S3, ρ3, A3, rfl, h3, hs3, hx3⟩
   have hx := (hx1.trans hx2).trans hx3
   cases e with
   | normal =>
    refine wpInL_mono ?_ (post_sound (ds := [mark D]) hτ hm post _ _ hnd3 h3 _ _ _ _ _ hs3)
    rintro e a5 w5 ⟨a6, S5, ρ5, A5, rfl, h5, hs5, hx5⟩
    exact fin _ _ _ _ _ _ _ _ h5 hs5 (hx.trans hx5)
   | ret => exact fin _ _ _ _ _ _ _ _ h3 hs3 hx
   | _ => exact h3.elim
 | ret =>
  obtain ⟨hd, v, k1, k2⟩ := bodyQ_run (R' := fun e w' => ∃ v' S', e = .returned v' ∧ R S' w' none y v' ∧ ExtQ (fun k => false = false ∧ S k) w S' w') hτ (show bodyQ (ty P) fn.results.toList (fun v h => fz h y v) .ret A1 from h1) hs1 fun v v' hv hr => fin0 _ _ (S1, ρ1) v v' hv hs1.heap hr hx1
  show LeavesInM Fence.wide 0 P fn a1.tmps _ a1.defers .returning w1
  rw [hd]
  exact ⟨v, k1, k2⟩
 | _ => exact h1.elim

def rfOf : Option Code → Nat × Operand × Array Tmp × Code × Code
 | some (.block id (.rangeFunc g ps asg bd)) => (id, g, ps, asg, bd)
 | _ => (0, .const Go.undef, #[], .skip, .skip)
def rfAt (c : Code) (k : Nat) : Nat × Operand × Array Tmp × Code × Code := rfOf (citems c)[k]?
def rfB (c : Code) (k : Nat) : Bool := match (citems c)[k]? with | some (.block _ (.rangeFunc ..)) => noDef (rfAt c k).2.2.2.1 && noDef (rfAt c k).2.2.2.2 && ((citems c).drop (k + 1)).all noDef | _ => false
theorem rf_split {c : Code} {k : Nat} (h : rfB c k = true) : citems c = (citems c).take k ++ .block (rfAt c k).1 (.rangeFunc (rfAt c k).2.1 (rfAt c k).2.2.1 (rfAt c k).2.2.2.1 (rfAt c k).2.2.2.2) :: (citems c).drop (k + 1) ∧ (noDef (rfAt c k).2.2.2.1 && noDef (rfAt c k).2.2.2.2 && ((citems c).drop (k + 1)).all noDef) = true := by
 unfold rfB at h
 split at h
 ·rename_i id g ps asg bd hk
  refine ⟨?_, h⟩
  have e : rfAt c k = (id, g, ps, asg, bd) := by unfold rfAt; rw [hk]; rfl
  rw [e]
  obtain ⟨hlt, hk⟩ := List.getElem?_eq_some_iff.1 hk
  rw [← hk, ← List.drop_eq_getElem_cons hlt, List.take_append_drop]
 ·cases h

/-- the same; the loop is the k-th item -/
theorem Pure.goK {ty : Program → Nat → TI} (hτ : ∀ t, ty P t = tiOf P t) (hm : P.follows .mixedOrders = true) {f : FuncId} {fn : Func} {n : Nat} {rs : Array ResultVar}
  (hf : P.funcs[f]? = some fn) (hb : fn.body = some (fn.body.getD .skip)) (hn : fn.ntmps = n) (hr : fn.results = rs) (he : Enters P f) {args : List AV} {y : AV} (hsz : args.length ≤ n ∧ n < 1000)
  (k : Nat) (hk : rfB (fn.body.getD .skip) k = true)
  (h : ∀ (P' : Program) (C : EC) (CQ : List Blk → QC) (D : Array Oper → (St → Prop) → St → Prop) (W : Code → (Exit → St → Prop) → St → Prop) (C2 : EC) (CQ2 : List Blk → QC) (D2 : Array Oper → (St → Prop) → St → Prop) (F : AV → List Blk → Prop) (RQ : St → Prop), Env P γ C CQ (ty P') D W → EnvX P γ C2 CQ2 (ty P') D2 →
   (∀ {v h}, fz h y v → F v h) → (∀ {A}, RFp P γ (ty P') C2 D2 F (rfAt (fn.body.getD .skip) k).2.1 (rfAt (fn.body.getD .skip) k).2.2.1 (rfAt (fn.body.getD .skip) k).2.2.2.1 (rfAt (fn.body.getD .skip) k).2.2.2.2 rs.toList ((citems (fn.body.getD .skip)).drop (k + 1)) A → RQ A) →
   vcl (ty P') γ C D W ((citems (fn.body.getD .skip)).take k) (thenE RQ (bodyQ (ty P') rs.toList F)) (start n args [])) : Pure P γ false f args y :=
 Pure.goR hτ hm hf hb hn hr he hsz k (rf_split hk).1 (rf_split hk).2 h

theorem Step.refl {A : St} : Step γ A A := fun _ S ρ _ _ hs => ⟨S, ρ, hs, Ext.refl _ _ _ _⟩
/-- a nil slice in a box gets a run -/
theorem Step.ghostBox {A : St} (b k : Nat) (hb : A.h[b]? = some (.box .nils)) : Step γ A ⟨A.n, A.s, (A.h ++ [Blk.run 0 k fun _ => .nil]).set b (.box (.sl A.h.length 0 k (fun _ => 0) fun _ => 0))⟩ := fun B S ρ a w hs => by
 obtain ⟨h1, h2⟩ := hs.heap.ghostR k
 have hlt : b < ρ.length := by rw [hs.heap.len]; exact (List.getElem?_eq_some_iff.1 hb).1
 refine ⟨S, _, ⟨hs.nodef, hs.size, hs.small, fun n => h2.R (hs.slot n), h1.retell b _ fun loc hloc => ?_⟩, h2⟩
 rw [List.getElem?_append_left hlt] at hloc
 obtain ⟨k1, K, ty, xv, k2, k3, k4, _⟩ := hs.heap.blk b _ loc hb hloc
 exact ⟨k1, K, ty, xv, k2, k3, by rw [← hs.heap.len]; exact R_ghost k k4, rfl⟩
end
end Go.AL

namespace Go.AL.Rl
open Go Go.AL Go.Proofs
set_option maxRecDepth 100000
set_option maxHeartbeats 3200000
variable {γ : Nat → Option AV}

def racesV (v : RV) : List Rc := (rpA v v.ids.length v.ids.length).map (rcOf v)
theorem rvG_wf {g : Gr} (h : GOk g) : RWf (rvG g) := by
 have hV := viewG_wf h
 have hl : (hbF (viewG g) (nG g)).length = nG g := by have := (hb_fits (viewG g) hV.small).2.2.1; omega
 have e : nG g = g.init.length + (idsT g g.th.length).length := by unfold nG idsG; simp [idsI_len]
 have h1 := hV.small
 unfold rvG
 constructor
 ·exact (idsT_len g g.th.length).symm
 ·simp only; omega
 ·simp only; omega
 ·simp only; omega
theorem vall_ok (v : RV) : Pure Try.prog γ false 29 [aRV v] (.fn 40 [] [.vp (fun _ => aRV v) 0]) := by
 unfold aRV
 refine Pure.go (ty := ty) ty_eq mo Try.func29 rfl Try.ntmps29 Try.results29 Try.call29 (by simp) fun P C CQ D W F E hF => ?_
 cbv
 repeat' (first
  |(refine ⟨fun _ h_s=>?_,fun _ h_s=>?_⟩<;>(cbv;(try simp only [nc] at *);try simp (disch:=(first|omega|(simp only [lnS];omega))) only [rdT,rdS,reduceCtorEq,trT] at h_s))
  |(refine hF ?_;intro _;clear hF)
  |(refine hF ?_;cbv;clear hF)
  |(refine ⟨fun _=>?_,?_⟩;(· ((try simp only [nc] at *);first|done|omega|exact ⟨by omega,rfl⟩|(simp (disch:=(first|omega|(simp only [lnS];omega))) only [rdT,rdS];first|done|omega|rfl|exact ⟨by omega,rfl⟩|(simp;done)|(simp;omega))|(intros;trivial)));(try (simp only [nc] at *));(try simp (disch:=(first|omega|(simp only [lnS];omega))) only [rdT,rdS]);(try cbv))
  | fail
 )
 simp
theorem rall_yes (g : Gr) (hg : Rd g) (h : GOk g) : Pure Try.prog γ false 11 [aGr g] (.tup [.vs 5 fun _ => rcs (racesV (rvG g)), .i fun _ => 0]) := by
 have kl := rlook_yes (γ := γ) g hg h
 have hw := rvG_wf h
 have hsm : (rvG g).ids.length ≤ 64 := by have := hw.big; have := hw.small; have := hw.sh; omega
 generalize rvG g = v at *
 have ka := vall_ok (γ := γ) v
 unfold aRV at kl ka
 obtain ⟨rg, hrg⟩ : ∃ rg, rg = rcs (racesV v) := ⟨_, rfl⟩
 rw [← hrg]
 refine Pure.goK (ty := ty) ty_eq mo Try.func11 rfl Try.ntmps11 Try.results11 Try.call11 (by simp) 6 (by kernel_rfl) fun P C CQ D W C2 CQ2 D2 F RQ E E2 hF hR => ?_
 cbv
 repeat' (first
  |(refine E.c (SCalls.of_le (ka) ?_ ?_);(· (cbv;(try simp only [nc] at *);first|done|(simp;done)|(simp (disch:=(first|omega|(simp only [lnS];omega))) only [rdT,rdS,anT];first|done|omega|(refine ⟨?_,?_⟩<;>omega))|(simp (disch:=(first|omega|(simp only [lnS];omega))) [rdT,rdS];done)));cbv)
  |(refine E.c (SCalls.of_le (kl) ?_ ?_);(· (cbv;(try simp only [nc] at *);first|done|(simp;done)|(simp (disch:=(first|omega|(simp only [lnS];omega))) only [rdT,rdS,anT];first|done|omega|(refine ⟨?_,?_⟩<;>omega))|(simp (disch:=(first|omega|(simp only [lnS];omega))) [rdT,rdS];done)));cbv)
  |(refine ⟨fun _ h_s=>?_,fun _ h_s=>?_⟩<;>(cbv;(try simp only [nc] at *);try simp (disch:=(first|omega|(simp only [lnS];omega))) only [rdT,rdS,reduceCtorEq,trT] at h_s))
  |(refine hF ?_;intro _;clear hF)
  |(refine hF ?_;cbv;clear hF)
  |(refine ⟨fun _=>?_,?_⟩;(· ((try simp only [nc] at *);first|done|omega|exact ⟨by omega,rfl⟩|(simp (disch:=(first|omega|(simp only [lnS];omega))) only [rdT,rdS];first|done|omega|rfl|exact ⟨by omega,rfl⟩|(simp;done)|(simp;omega))|(intros;trivial)));(try (simp only [nc] at *));(try simp (disch:=(first|omega|(simp only [lnS];omega))) only [rdT,rdS]);(try cbv))
  |(refine E.d 19 (by decide +kernel) ?_;cbv;(fail_if_success guard_target =~ False))
  | fail
 )
 obtain ⟨G, hG⟩ : ∃ G : List (Nat × Nat) → Nat, ∀ l, G l = l.length := ⟨_, fun _ => rfl⟩
 have hG0 : G [] = 0 := by rw [hG]; rfl
 have hGS : ∀ l x, G (l ++ [x]) = G l + 1 := fun l x => by rw [hG, hG]; simp
 refine hR ⟨_, _, _, Step.ghostBox 2 5 rfl, rfl, by cbv, fun l D t oR oB oX oE oEX oD oD' hY => ?_⟩
 refine SCalls.mono (h := hpA g v 0 [] l D oR oD _ t) (hG0 ▸ allA_to g v hw hsm l D oR oD _ t ?a G fun pre a b hb hab ho hp => hY _ _ _ rfl rfl ?b) fun _ h' hh' => .inl ?c
 case a => cbv; simp
 case c =>
  have e : racesV v = (rpA v v.ids.length v.ids.length).map (rcOf v) := rfl
  rw [e] at hrg
  generalize rpA v v.ids.length v.ids.length = L at *
  generalize L.map (rcOf v) = M at *
  subst hh'
  cbv
  repeat' (first
   |(refine ⟨fun _ h_s=>?_,fun _ h_s=>?_⟩<;>(cbv;(try simp only [nc] at *);try simp (disch:=(first|omega|(simp only [lnS];omega))) only [rdT,rdS,reduceCtorEq,trT] at h_s))
   |(refine hF ?_;intro _;clear hF)
   |(refine hF ?_;cbv;clear hF)
   |(refine ⟨fun _=>?_,?_⟩;(· ((try simp only [nc] at *);first|done|omega|exact ⟨by omega,rfl⟩|(simp (disch:=(first|omega|(simp only [lnS];omega))) only [rdT,rdS];first|done|omega|rfl|exact ⟨by omega,rfl⟩|(simp;done)|(simp;omega))|(intros;trivial)));(try (simp only [nc] at *));(try simp (disch:=(first|omega|(simp only [lnS];omega))) only [rdT,rdS]);(try cbv))
   |(refine E.d 19 (by decide +kernel) ?_;cbv;(fail_if_success guard_target =~ False))
   | fail
  )
  simp [hrg]
  exact List.take_of_length_le (by simp)
 case b =>
  have e1 := hw.len
  have e3 : pre.map (rcOf v) ++ [rcOf v (a, b)] = (pre ++ [(a, b)]).map (rcOf v) := by simp
  have e4 := hGS pre (a, b)
  have e5 : pre.length = (pre.map (rcOf v)).length := by simp
  have e6 : rcOf v (a, b) = ⟨(rAt v a).loc, v.ids.getD a id0, v.ids.getD b id0⟩ := rfl
  have e7 := hG pre
  rw [← e3, e4]
  rw [e5] at hp e7
  obtain ⟨P2, hP2⟩ : ∃ P2, P2 = pre.map (rcOf v) ++ [rcOf v (a, b)] := ⟨_, rfl⟩
  rw [← hP2]
  generalize pre.map (rcOf v) = Pr at *
  generalize G pre = gp at *
  cbv
  refine E2.d 19 (by decide +kernel) ?_
  cbv
  repeat' (first
   |(refine ⟨fun _ h_s=>?_,fun _ h_s=>?_⟩<;>(cbv;(try simp only [nc] at *);try simp (disch:=(first|omega|(simp only [lnS];omega))) only [rdT,rdS,reduceCtorEq,trT] at h_s))
   |(refine hF ?_;intro _;clear hF)
   |(refine hF ?_;cbv;clear hF)
   |(refine ⟨fun _=>?_,?_⟩;(· ((try simp only [nc] at *);first|done|omega|exact ⟨by omega,rfl⟩|(simp (disch:=(first|omega|(simp only [lnS];omega))) only [rdT,rdS];first|done|omega|rfl|exact ⟨by omega,rfl⟩|(simp;done)|(simp;omega))|(intros;trivial)));(try (simp only [nc] at *));(try simp (disch:=(first|omega|(simp only [lnS];omega))) only [rdT,rdS]);(try cbv))
   |(refine E.d 19 (by decide +kernel) ?_;cbv;(fail_if_success guard_target =~ False))
   | fail
  )
  refine ⟨fun _ => ⟨trivial, trivial, by simp, by simp; omega, by simp; omega, by simp [AV.flat, AV.cells, AV.one, setAll, AV.nrm, nrms, nrm1]⟩, ?_⟩
  simp [hP2, e6, rcs, aRc, setAll, AV.nrm, nrms, nrm1, rAt, ev0, id0]
end Go.AL.Rl

namespace Go.AL.Rl
open Go Go.AL Go.Proofs
set_option maxRecDepth 100000
set_option maxHeartbeats 3200000

section
variable {g : Gr} {l : List EId} (hg : GOk g) (hC : ClG g l)
include hg hC
end
end Go.AL.Rl

namespace Go.AL.Rl
open Go Go.AL Go.Proofs
set_option maxRecDepth 100000
set_option maxHeartbeats 3200000
variable {γ : Nat → Option AV}

end Go.AL.Rl

namespace Go.AL.Rl
open Go Go.AL Go.Proofs
set_option maxRecDepth 100000
set_option maxHeartbeats 3200000
variable {γ : Nat → Option AV}

theorem rone_int (v : RV) (hv : RWf v) (a b : Int) (ha : 0 ≤ a ∧ a < v.ids.length) (hb : 0 ≤ b ∧ b < v.ids.length) : Pure Try.prog γ false 33 [aRV v, .i fun _ => a, .i fun _ => b] (.b fun _ => oneM v a.toNat b.toNat) := by
 have := rone_ok (γ := γ) v hv a.toNat b.toNat (by omega) (by omega)
 rwa [Int.toNat_of_nonneg ha.1, Int.toNat_of_nonneg hb.1] at this
def btM (v : RV) (a b : EId) : Bool := decide (0 ≤ numI v.ids a) && decide (0 ≤ numI v.ids b) && oneM v (numI v.ids a).toNat (numI v.ids b).toNat
theorem rbetween_yes (g : Gr) (hg : Rd g) (h : GOk g) (a b : EId) : Pure Try.prog γ false 14 [aGr g, aId a, aId b] (.b fun _ => btM (rvG g) a b) := by
 have kl := rlook_yes (γ := γ) g hg h
 have hw := rvG_wf h
 generalize rvG g = v at *
 have hsm : (v.ids.length : Int) ≤ 9223372036854775807 := by have := hw.big; have := hw.small; have := hw.sh; omega
 have ka := index_ok (γ := γ) v.ids a hsm
 have kb := index_ok (γ := γ) v.ids b hsm
 have ko := rone_int (γ := γ) v hw (numI v.ids a) (numI v.ids b)
 have la := numI_lt v.ids a
 have lb := numI_lt v.ids b
 unfold btM
 generalize numI v.ids a = x at *
 generalize numI v.ids b = y at *
 unfold aRV at kl ko
 refine Pure.go (ty := ty) ty_eq mo Try.func14 rfl Try.ntmps14 Try.results14 Try.call14 (by simp) fun P C CQ D W F E hF => ?_
 cbv
 repeat' (first
  |(refine E.c (SCalls.of_le (ko (by ((try simp only [nc] at *);omega)) (by ((try simp only [nc] at *);omega))) ?_ ?_);(· (cbv;(try simp only [nc] at *);first|done|(simp;done)|(simp (disch:=(first|omega|(simp only [lnS];omega))) only [rdT,rdS,anT];first|done|omega|(refine ⟨?_,?_⟩<;>omega))|(simp (disch:=(first|omega|(simp only [lnS];omega))) [rdT,rdS];done)));cbv)
  |((first|refine E.c (SCalls.of_le (kb) ?_ ?_)|refine E.q (QCalls.of_le (kb) ?_ ?_));(· (cbv;(try simp only [nc] at *);first|done|(simp;done)|(simp (disch:=(first|omega|(simp only [lnS];omega))) only [rdT,rdS,anT];first|done|omega|(refine ⟨?_,?_⟩<;>omega))|(simp (disch:=(first|omega|(simp only [lnS];omega))) [rdT,rdS];done)));cbv)
  |((first|refine E.c (SCalls.of_le (ka) ?_ ?_)|refine E.q (QCalls.of_le (ka) ?_ ?_));(· (cbv;(try simp only [nc] at *);first|done|(simp;done)|(simp (disch:=(first|omega|(simp only [lnS];omega))) only [rdT,rdS,anT];first|done|omega|(refine ⟨?_,?_⟩<;>omega))|(simp (disch:=(first|omega|(simp only [lnS];omega))) [rdT,rdS];done)));cbv)
  |(refine E.c (SCalls.of_le (kl) ?_ ?_);(· (cbv;(try simp only [nc] at *);first|done|(simp;done)|(simp (disch:=(first|omega|(simp only [lnS];omega))) only [rdT,rdS,anT];first|done|omega|(refine ⟨?_,?_⟩<;>omega))|(simp (disch:=(first|omega|(simp only [lnS];omega))) [rdT,rdS];done)));cbv)
  |(refine ⟨fun _ h_s=>?_,fun _ h_s=>?_⟩<;>(cbv;(try simp only [nc] at *);try simp (disch:=(first|omega|(simp only [lnS];omega))) only [rdT,rdS,reduceCtorEq,trT] at h_s))
  |(refine hF ?_;intro _;clear hF)
  |(refine hF ?_;cbv;clear hF)
  |(refine ⟨fun _=>?_,?_⟩;(· ((try simp only [nc] at *);first|done|omega|exact ⟨by omega,rfl⟩|(simp (disch:=(first|omega|(simp only [lnS];omega))) only [rdT,rdS];first|done|omega|rfl|exact ⟨by omega,rfl⟩|(simp;done)|(simp;omega))|(intros;trivial)));(try (simp only [nc] at *));(try simp (disch:=(first|omega|(simp only [lnS];omega))) only [rdT,rdS]);(try cbv))
  |(refine E.d 7 (by decide +kernel) ?_;cbv;(fail_if_success guard_target =~ False))
  | fail
 )
 all_goals (try simp only [nc] at *)
 all_goals (try simp (disch:=(first|omega|(simp only [lnS];omega))) only [rdT,rdS])
 all_goals first
  | (simp_all; done)
  | (simp_all; intros; omega)
theorem Rc.ext' {a b : Rc} (h1 : a.loc = b.loc) (h2 : a.a = b.a) (h3 : a.b = b.b) : a = b := by cases a; cases b; simp_all
theorem kraces_ok (a b : List Rc) (ha : (a.length : Int) ≤ 9223372036854775807) : Pure Try.prog γ false 24 [.vs 5 fun _ => rcs a, .vs 5 fun _ => rcs b] (.b fun _ => decide (a = b)) := by
 refine Pure.go (ty := ty) ty_eq mo Try.func24 rfl Try.ntmps24 Try.results24 Try.call24 (by simp) fun P C CQ D W F E hF => ?_
 cbv
 skip
 repeat' (first
  |(refine ⟨fun _ h_s=>?_,fun _ h_s=>?_⟩<;>(cbv;(try simp only [nc] at *);try simp (disch:=(first|omega|(simp only [lnS,rcs_len];omega))) only [rdT,rdS,rcs_len,rcs_at,reduceCtorEq,trT] at h_s))
  |(refine hF ?_;intro _;clear hF)
  |(refine hF ?_;cbv;clear hF)
  |(refine ⟨fun _=>?_,?_⟩;(· ((try simp only [nc] at *);first|done|omega|exact ⟨by omega,rfl⟩|(simp (disch:=(first|omega|(simp only [lnS,rcs_len];omega))) only [rdT,rdS,rcs_len,rcs_at];first|done|omega|rfl|exact ⟨by omega,rfl⟩|(simp;done)|(simp;omega))|(intros;trivial)));(try (simp only [nc] at *));(try simp (disch:=(first|omega|(simp only [lnS,rcs_len];omega))) only [rdT,rdS,rcs_len,rcs_at]);(try cbv))
  |(refine E.d 8 (by decide +kernel) ?_;cbv;(fail_if_success guard_target =~ False))
  | fail
 )
 ·simp
  intro e; subst e; simp_all
 ·refine E.loopS (ι:=Nat) (fun i=>i≤a.length∧(∀ k < i,a.getD k rc0 = b.getD k rc0)) (fun i=>a.length - i) (fun i=>[(5,.i fun _=>((i : Nat) : Int))]) (fun i h=>h) 0 (fun _=>by first|rfl|simp) ⟨Nat.zero_le _,?_⟩ ?_ fun i hi I hI=>?_
  ·intro k hk; omega
  ·cbv; simp
  cbv
  obtain ⟨hi, hp⟩ := hi
  repeat' (first
   |(refine hI (i + 1) ?_ ?_ ?_;rotate_left 1;(· ((try simp only [nc] at *);omega));(cbv;clear hI;(try clear hF);(try simp only [nc] at *);(try simp (disch:=(first|omega|(simp only [lnS,rcs_len];omega))) only [rdT,rdS,rcs_len,rcs_at,anT]));rotate_left 1;(try ((try simp only [nc] at *);omega)))
   |(refine ⟨fun _ h_s=>?_,fun _ h_s=>?_⟩<;>(cbv;(try simp only [nc] at *);try simp (disch:=(first|omega|(simp only [lnS,rcs_len];omega))) only [rdT,rdS,rcs_len,rcs_at,reduceCtorEq,trT] at h_s))
   |(refine hF ?_;intro _;clear hF)
   |(refine hF ?_;cbv;clear hF)
   |(refine ⟨fun _=>?_,?_⟩;(· ((try simp only [nc] at *);first|done|omega|exact ⟨by omega,rfl⟩|(simp (disch:=(first|omega|(simp only [lnS,rcs_len];omega))) only [rdT,rdS,rcs_len,rcs_at];first|done|omega|rfl|exact ⟨by omega,rfl⟩|(simp;done)|(simp;omega))|(intros;trivial)));(try (simp only [nc] at *));(try simp (disch:=(first|omega|(simp only [lnS,rcs_len];omega))) only [rdT,rdS,rcs_len,rcs_at]);(try cbv))
   |(refine E.d 8 (by decide +kernel) ?_;cbv;(fail_if_success guard_target =~ False))
   | fail
  )
  ·refine decide_eq_false fun e => ?_
   subst e
   simp at h_s
  ·refine ⟨by ((try simp only [nc] at *); omega), fun k hk => ?_⟩
   rcases Nat.lt_or_ge k i with h1 | h1
   ·exact hp k h1
   ·obtain rfl : k = i := by omega
    have h2 : (a.getD k rc0).loc = (b.getD k rc0).loc ∧ (a.getD k rc0).a.t = (b.getD k rc0).a.t ∧ (a.getD k rc0).a.i = (b.getD k rc0).a.i ∧ (a.getD k rc0).b.t = (b.getD k rc0).b.t ∧ (a.getD k rc0).b.i = (b.getD k rc0).b.i := by simpa using h_s
    exact Rc.ext' h2.1 (EId.ext' h2.2.1 h2.2.2.1) (EId.ext' h2.2.2.2.1 h2.2.2.2.2)
  ·push_cast; rfl
  ·refine decide_eq_true (List.ext_getElem (by ((try simp only [nc] at *); omega)) fun k h1 h2 => ?_)
   have := hp k (by ((try simp only [nc] at *); omega))
   simpa [h1, h2] using this

def gW (o : Int) : Gr := ⟨[0, 0], [[⟨2, 1, 1, 0, 5⟩, ⟨2, 0, 4, 0, 1⟩], [⟨1, 0, o, 1, 0⟩, ⟨1, 1, 1, 5, 0⟩]], [[⟨0, 0⟩, ⟨0, 0⟩], [⟨1, 1⟩, ⟨1, 0⟩]], [[⟨1, 1⟩], [⟨1, 0⟩]]⟩
theorem example17_ok (o : Int) : Pure Try.prog γ false 22 [.i fun _ => o] (aGr (gW o)) := by
 refine Pure.go (ty := ty) ty_eq mo Try.func22 rfl Try.ntmps22 Try.results22 Try.call22 (by simp) fun P C CQ D W F E hF => ?_
 cbv
 repeat' (first
  |(refine ⟨fun _ h_s=>?_,fun _ h_s=>?_⟩<;>(cbv;(try simp only [nc] at *);try simp (disch:=(first|omega|(simp only [lnS,rcs_len];omega))) only [rdT,rdS,rcs_len,rcs_at,reduceCtorEq,trT] at h_s))
  |(refine hF ?_;intro _;clear hF)
  |(refine hF ?_;cbv;clear hF)
  |(refine ⟨fun _=>?_,?_⟩;(· ((try simp only [nc] at *);first|done|omega|exact ⟨by omega,rfl⟩|(simp (disch:=(first|omega|(simp only [lnS,rcs_len];omega))) only [rdT,rdS,rcs_len,rcs_at];first|done|omega|rfl|exact ⟨by omega,rfl⟩|(simp;done)|(simp;omega))|(intros;trivial)));(try (simp only [nc] at *));(try simp (disch:=(first|omega|(simp only [lnS,rcs_len];omega))) only [rdT,rdS,rcs_len,rcs_at]);(try cbv))
  | fail
 )
theorem rdW (o : Int) : Rd (gW o) := by
 refine ⟨by simp [gW], by simp [gW], by simp [gW], by simp [gW], ?_, ?_, ?_⟩ <;> simp [gW]
theorem gW3 : GOk (gW 3) := by decide +kernel
theorem gW2 : GOk (gW 2) := by decide +kernel
def vW (o : Int) : Vw := ⟨[⟨0, 0⟩, ⟨0, 1⟩, ⟨1, 0⟩, ⟨1, 1⟩, ⟨2, 0⟩, ⟨2, 1⟩], [⟨2, 0, 1, 0, 0⟩, ⟨2, 1, 1, 0, 0⟩, ⟨2, 1, 1, 0, 5⟩, ⟨2, 0, 4, 0, 1⟩, ⟨1, 0, o, 1, 0⟩, ⟨1, 1, 1, 5, 0⟩], [-1, -1, -1, -1, 3, 2], [0, 0, 1, 1, -1, -1]⟩
theorem gW3v : viewG (gW 3) = vW 3 := by
 unfold viewG vW
 simp only [Vw.mk.injEq]
 decide +kernel
theorem gW2v : viewG (gW 2) = vW 2 := by
 unfold viewG vW
 simp only [Vw.mk.injEq]
 decide +kernel
theorem nGW (o : Int) : nG (gW o) = 6 := rfl
theorem races3 : racesV (rvG (gW 3)) = [] := by
 unfold rvG
 rw [gW3v, nGW]
 unfold hbF
 rw [swC_eq (by omega) (by decide +kernel)]
 decide +kernel
theorem races2 : racesV (rvG (gW 2)) = [⟨1, ⟨1, 0⟩, ⟨2, 1⟩⟩] := by
 unfold rvG
 rw [gW2v, nGW]
 unfold hbF
 rw [swC_eq (by omega) (by decide +kernel)]
 decide +kernel
theorem lives17_ok : Pure Try.prog γ false 8 [] (.b fun _ => true) := by
 have k1 := example17_ok (γ := γ) 3
 have k2 := example17_ok (γ := γ) 2
 have k3 := rall_yes (γ := γ) (gW 3) (rdW 3) gW3
 have k4 := rall_yes (γ := γ) (gW 2) (rdW 2) gW2
 have k5 := kraces_ok (γ := γ) [⟨1, ⟨1, 0⟩, ⟨2, 1⟩⟩] [⟨1, ⟨1, 0⟩, ⟨2, 1⟩⟩] (by simp)
 rw [races3] at k3
 rw [races2] at k4
 generalize gW 3 = g3 at *
 generalize gW 2 = g2 at *
 refine Pure.go (ty := ty) ty_eq mo Try.func8 rfl Try.ntmps8 Try.results8 Try.call8 (by simp) fun P C CQ D W F E hF => ?_
 cbv
 skip
 repeat' (first
  | (refine E.c (SCalls.of_le k5 (by cbv; simp [rcs, setAll, AV.nrm, nrms, nrm1]) ?_); cbv)
  |(refine E.c (SCalls.of_le (k4) ?_ ?_);(· (cbv;(try simp only [nc] at *);first|done|(simp;done)|(simp (disch:=(first|omega|(simp only [lnS,rcs_len,rcs_len];omega))) only [rdT,rdS,rcs_len,rcs_at,rcs_len,anT];first|done|omega|(refine ⟨?_,?_⟩<;>omega))|(simp (disch:=(first|omega|(simp only [lnS,rcs_len,rcs_len];omega))) [rdT,rdS,rcs_len,rcs_at,rcs_len];done)));cbv)
  |(refine E.c (SCalls.of_le (k3) ?_ ?_);(· (cbv;(try simp only [nc] at *);first|done|(simp;done)|(simp (disch:=(first|omega|(simp only [lnS,rcs_len,rcs_len];omega))) only [rdT,rdS,rcs_len,rcs_at,rcs_len,anT];first|done|omega|(refine ⟨?_,?_⟩<;>omega))|(simp (disch:=(first|omega|(simp only [lnS,rcs_len,rcs_len];omega))) [rdT,rdS,rcs_len,rcs_at,rcs_len];done)));cbv)
  |(refine E.c (SCalls.of_le (k2) ?_ ?_);(· (cbv;(try simp only [nc] at *);first|done|(simp;done)|(simp (disch:=(first|omega|(simp only [lnS,rcs_len,rcs_len];omega))) only [rdT,rdS,rcs_len,rcs_at,rcs_len,anT];first|done|omega|(refine ⟨?_,?_⟩<;>omega))|(simp (disch:=(first|omega|(simp only [lnS,rcs_len,rcs_len];omega))) [rdT,rdS,rcs_len,rcs_at,rcs_len];done)));cbv)
  |(refine E.c (SCalls.of_le (k1) ?_ ?_);(· (cbv;(try simp only [nc] at *);first|done|(simp;done)|(simp (disch:=(first|omega|(simp only [lnS,rcs_len,rcs_len];omega))) only [rdT,rdS,rcs_len,rcs_at,rcs_len,anT];first|done|omega|(refine ⟨?_,?_⟩<;>omega))|(simp (disch:=(first|omega|(simp only [lnS,rcs_len,rcs_len];omega))) [rdT,rdS,rcs_len,rcs_at,rcs_len];done)));cbv)
  |(refine ⟨fun _ h_s=>?_,fun _ h_s=>?_⟩<;>(cbv;(try simp only [nc] at *);try simp (disch:=(first|omega|(simp only [lnS,rcs_len,rcs_len];omega))) only [rdT,rdS,rcs_len,rcs_at,rcs_len,reduceCtorEq,trT] at h_s))
  |(refine hF ?_;intro _;clear hF)
  |(refine hF ?_;cbv;clear hF)
  |(refine ⟨fun _=>?_,?_⟩;(· ((try simp only [nc] at *);first|done|omega|exact ⟨by omega,rfl⟩|(simp (disch:=(first|omega|(simp only [lnS,rcs_len,rcs_len];omega))) only [rdT,rdS,rcs_len,rcs_at,rcs_len];first|done|omega|rfl|exact ⟨by omega,rfl⟩|(simp;done)|(simp;omega))|(intros;trivial)));(try (simp only [nc] at *));(try simp (disch:=(first|omega|(simp only [lnS,rcs_len,rcs_len];omega))) only [rdT,rdS,rcs_len,rcs_at,rcs_len]);(try cbv))
  | fail
 )
 all_goals (try simp only [nc] at *)
 all_goals (try simp (disch:=(first|omega|(simp only [lnS,rcs_len,rcs_len];omega))) only [rdT,rdS,rcs_len,rcs_at,rcs_len])
 all_goals simp_all
end Go.AL.Rl

namespace Go.AL.Rl
open Go Go.AL Go.Proofs
set_option maxRecDepth 100000
set_option maxHeartbeats 3200000
variable {γ : Nat → Option AV}

def evL (l : List (List Ev)) : List LV := l.map evs
def idL (l : List (List EId)) : List LV := l.map ids
theorem evss_L (l : List (List Ev)) : (evss l).l = (evL l).map fun x => .vs 5 fun _ => x := by simp [evss, evL]
theorem idss_L (l : List (List EId)) : (idss l).l = (idL l).map fun x => .vs 2 fun _ => x := by simp [idss, idL]
theorem evL_len (l : List (List Ev)) : (evL l).length = l.length := by simp [evL]
theorem idL_len (l : List (List EId)) : (idL l).length = l.length := by simp [idL]
theorem evs_flat (l : List Ev) : ∀ v ∈ (evs l).l, v.flat = true := by
 intro v hv
 simp only [evs, LV.l_of, List.mem_map] at hv
 obtain ⟨x, _, rfl⟩ := hv
 rfl
theorem id_flat (l : List EId) : ∀ v ∈ (ids l).l, v.flat = true := by
 intro v hv
 simp only [ids, LV.l_of, List.mem_map] at hv
 obtain ⟨x, _, rfl⟩ := hv
 rfl
theorem set_last {α : Type} (l : List α) (a b : α) : (l ++ [a]).set l.length b = l ++ [b] := by simp
/-- a copied graph: where its lists lie -/
abbrev cpV (g : Gr) (n1 n2 n3 a b c d : Nat) : AV := .agg [.sl a 0 1 (fun _ => 0) fun _ => g.init.length, .sl b n1 1 (fun _ => 0) fun _ => g.th.length, .sl c n2 1 (fun _ => 0) fun _ => g.fr.length, .sl d n3 1 (fun _ => 0) fun _ => g.ord.length]
theorem rcopy_own0 (g : Gr) (hb : RdB g) (hR : Rd g) : Owns Try.prog γ 16 [aGr g] (cpV g g.th.length g.fr.length g.ord.length 2 4 5 6)
  [.any, .any, .run 0 1 fun _ => is g.init, .any, .nest g.th.length 5 (fun _ => evL g.th) none, .nest g.fr.length 2 (fun _ => idL g.fr) none, .nest g.ord.length 2 (fun _ => idL g.ord) none] := by
 have b0 := hb.init
 have b1 := hb.th
 have b2 := hb.fr
 have b3 := hb.ord
 have c1 : ∀ t, (g.th.getD t []).length * 40 ≤ 140737488351232 := fun t => by
  rcases Nat.lt_or_ge t g.th.length with h1 | h1
  ·exact hb.ths _ (getD_mem h1)
  ·simp [List.getElem?_eq_none h1]
 have c2 : ∀ t, (g.fr.getD t []).length * 16 ≤ 140737488351232 := fun t => by
  rcases Nat.lt_or_ge t g.fr.length with h1 | h1
  ·exact hb.frs _ (getD_mem h1)
  ·simp [List.getElem?_eq_none h1]
 have c3 : ∀ t, (g.ord.getD t []).length * 16 ≤ 140737488351232 := fun t => by
  rcases Nat.lt_or_ge t g.ord.length with h1 | h1
  ·exact hb.ords _ (getD_mem h1)
  ·simp [List.getElem?_eq_none h1]
 obtain ⟨TH, hTH⟩ : ∃ TH : Nat → List LV, ∀ i, TH i = evL (g.th.take i) := ⟨_, fun _ => rfl⟩
 obtain ⟨FR, hFR⟩ : ∃ FR : Nat → List LV, ∀ i, FR i = idL (g.fr.take i) := ⟨_, fun _ => rfl⟩
 obtain ⟨OR, hOR⟩ : ∃ OR : Nat → List LV, ∀ i, OR i = idL (g.ord.take i) := ⟨_, fun _ => rfl⟩
 have t0 : TH 0 = [] := by rw [hTH]; rfl
 have f0 : FR 0 = [] := by rw [hFR]; rfl
 have o0 : OR 0 = [] := by rw [hOR]; rfl
 have tS : ∀ i, i < g.th.length → TH (i + 1) = TH i ++ [evs (g.th.getD i [])] := fun i hi => by rw [hTH, hTH, take_succ' _ i [] hi]; simp [evL]
 have fS : ∀ i, i < g.fr.length → FR (i + 1) = FR i ++ [ids (g.fr.getD i [])] := fun i hi => by rw [hFR, hFR, take_succ' _ i [] hi]; simp [idL]
 have oS : ∀ i, i < g.ord.length → OR (i + 1) = OR i ++ [ids (g.ord.getD i [])] := fun i hi => by rw [hOR, hOR, take_succ' _ i [] hi]; simp [idL]
 have tl : ∀ i, i ≤ g.th.length → (TH i).length = i := fun i hi => by rw [hTH, evL_len]; simp; omega
 have fl : ∀ i, i ≤ g.fr.length → (FR i).length = i := fun i hi => by rw [hFR, idL_len]; simp; omega
 have ol : ∀ i, i ≤ g.ord.length → (OR i).length = i := fun i hi => by rw [hOR, idL_len]; simp; omega
 have te : TH g.th.length = evL g.th := by rw [hTH, List.take_length]
 have fe : FR g.fr.length = idL g.fr := by rw [hFR, List.take_length]
 have oe : OR g.ord.length = idL g.ord := by rw [hOR, List.take_length]
 clear hTH hFR hOR
 obtain ⟨G, hG⟩ : ∃ G : Nat → Nat, ∀ x, G x = x := ⟨_, fun _ => rfl⟩
 have hG0 : G 0 = 0 := hG 0
 refine Owns.go (ty := ty) ty_eq mo Try.func16 rfl Try.ntmps16 Try.results16 Try.call16 (by simp) fun P C CQ D W F E hF => ?_
 cbv
 skip
 repeat' (first
  |(refine ⟨fun _ h_s=>?_,fun _ h_s=>?_⟩<;>(cbv;(try simp only [nc] at *);try simp (disch:=(first|omega|(simp only [lnS];omega))) only [rdT,rdS,reduceCtorEq,trT] at h_s))
  |(refine hF ?_;intro _;clear hF)
  |(refine hF ?_;cbv;clear hF)
  |(refine ⟨fun _=>?_,?_⟩;(· ((try simp only [nc] at *);first|done|omega|exact ⟨by omega,rfl⟩|(simp (disch:=(first|omega|(simp only [lnS];omega))) only [rdT,rdS];first|done|omega|rfl|exact ⟨by omega,rfl⟩|(simp;done)|(simp;omega))|(intros;trivial)|(refine ⟨by simp;omega,by simp;omega,fun v hv=>?_⟩;simp only [is,evs,ids,LV.l_of,List.mem_map] at hv;obtain ⟨_,_,rfl⟩:=hv;rfl)));(try (simp only [nc] at *));(try simp (disch:=(first|omega|(simp only [lnS];omega))) only [rdT,rdS]);(try cbv))
  | fail
 )
 skip
 skip
 refine E.w (AWP.ghostField 3 1 1 rfl rfl ?_)
 refine AWP.step (Step.unrun 4 5 rfl) ?_
 refine E.loopSA (ι:=Nat) (fun i=>i≤g.th.length) (fun i=>g.th.length - i) (fun i=>[(4,.i fun _=>((i : Nat) : Int))]) (fun i h=>(h.set 3 (.box (.agg [.sl 2 0 1 (fun _=>0) fun _=>g.init.length,.sl 4 (G i) 1 (fun _=>0) fun _=>i,.nils,.nils]))).set 4 (.nest (G i) 5 (fun _=>TH i) none)) 0 (fun _=>by first|rfl|simp) (Nat.zero_le _) ?_ fun i hi I hI=>?_
 ·cbv; simp [t0, hG0]
 cbv
 have e1 := tS i
 have e2 := tl i hi
 have e3 := c1 i
 repeat' (first
  |(refine hI (i + 1) ?_ ?_ ?_;rotate_left 1;(· ((try simp only [nc] at *);omega));(cbv;clear hI;(try clear hF);(try simp only [nc] at *);(try simp (disch:=(first|omega|(simp only [lnS];omega))) only [rdT,rdS,anT]));rotate_left 1;(try ((try simp only [nc] at *);omega)))
  | (refine hJ (Step.put 4 5 rfl rfl fun _ => ⟨rfl, rfl, ?_⟩) ?_)
  |(refine E.st fun J hJ=>?_;refine E.de 10 [] [some 5] (by decide +kernel) ?_;cbv;(fail_if_success guard_target =~ False))
  |(refine ⟨fun _ h_s=>?_,fun _ h_s=>?_⟩<;>(cbv;(try simp only [nc] at *);try simp (disch:=(first|omega|(simp only [lnS];omega))) only [rdT,rdS,reduceCtorEq,trT] at h_s))
  |(refine hF ?_;intro _;clear hF)
  |(refine hF ?_;cbv;clear hF)
  |(refine ⟨fun _=>?_,?_⟩;(· ((try simp only [nc] at *);first|done|omega|exact ⟨by omega,rfl⟩|(simp (disch:=(first|omega|(simp only [lnS];omega))) only [rdT,rdS];first|done|omega|rfl|exact ⟨by omega,rfl⟩|(simp;done)|(simp;omega))|(intros;trivial)|(refine ⟨by simp;omega,by simp;omega,fun v hv=>?_⟩;simp only [is,evs,ids,LV.l_of,List.mem_map] at hv;obtain ⟨_,_,rfl⟩:=hv;rfl)|exact ⟨by first|trivial|rfl,by first|trivial|rfl,by first|trivial|rfl|(simp [LV.l];done),by first|omega|(simp;omega),by first|omega|(simp;omega),by first|exact evs_flat _|exact id_flat _⟩|exact ⟨by first|trivial|rfl,by first|trivial|rfl,by first|omega|(simp [e2];done),by omega,by omega⟩));(try (simp only [nc] at *));(try simp (disch:=(first|omega|(simp only [lnS];omega))) only [rdT,rdS]);(try cbv))
  | fail
 )
 ·rw [LV.l_of]; simp [LV.l]
 ·rw [e1 (by omega), set_last]
  simp [hG, LV.l]
 obtain rfl : i = g.th.length := by ((try simp only [nc] at *); omega)
 clear e1 e2 e3
 refine E.w (AWP.ghostField 3 2 1 rfl rfl ?_)
 refine AWP.step (Step.unrun 5 2 rfl) ?_
 refine E.loopSA (ι:=Nat) (fun i=>i≤g.fr.length) (fun i=>g.fr.length - i) (fun i=>[(5,.i fun _=>((i : Nat) : Int))]) (fun i h=>(h.set 3 (.box (.agg [.sl 2 0 1 (fun _=>0) fun _=>g.init.length,.sl 4 (G g.th.length) 1 (fun _=>0) fun _=>g.th.length,.sl 5 (G i) 1 (fun _=>0) fun _=>i,.nils]))).set 5 (.nest (G i) 2 (fun _=>FR i) none)) 0 (fun _=>by first|rfl|simp) (Nat.zero_le _) ?_ fun i hi I hI=>?_
 ·cbv; simp [f0, hG0]
 cbv
 have e1 := fS i
 have e2 := fl i hi
 have e3 := c2 i
 repeat' (first
  |(refine hI (i + 1) ?_ ?_ ?_;rotate_left 1;(· ((try simp only [nc] at *);omega));(cbv;clear hI;(try clear hF);(try simp only [nc] at *);(try simp (disch:=(first|omega|(simp only [lnS];omega))) only [rdT,rdS,anT]));rotate_left 1;(try ((try simp only [nc] at *);omega)))
  | (refine hJ (Step.put 5 6 rfl rfl fun _ => ⟨rfl, rfl, ?_⟩) ?_)
  |(refine E.st fun J hJ=>?_;refine E.de 10 [] [some 2] (by decide +kernel) ?_;cbv;(fail_if_success guard_target =~ False))
  |(refine ⟨fun _ h_s=>?_,fun _ h_s=>?_⟩<;>(cbv;(try simp only [nc] at *);try simp (disch:=(first|omega|(simp only [lnS];omega))) only [rdT,rdS,reduceCtorEq,trT] at h_s))
  |(refine hF ?_;intro _;clear hF)
  |(refine hF ?_;cbv;clear hF)
  |(refine ⟨fun _=>?_,?_⟩;(· ((try simp only [nc] at *);first|done|omega|exact ⟨by omega,rfl⟩|(simp (disch:=(first|omega|(simp only [lnS];omega))) only [rdT,rdS];first|done|omega|rfl|exact ⟨by omega,rfl⟩|(simp;done)|(simp;omega))|(intros;trivial)|(refine ⟨by simp;omega,by simp;omega,fun v hv=>?_⟩;simp only [is,evs,ids,LV.l_of,List.mem_map] at hv;obtain ⟨_,_,rfl⟩:=hv;rfl)|exact ⟨by first|trivial|rfl,by first|trivial|rfl,by first|trivial|rfl|(simp [LV.l];done),by first|omega|(simp;omega),by first|omega|(simp;omega),by first|exact evs_flat _|exact id_flat _⟩|exact ⟨by first|trivial|rfl,by first|trivial|rfl,by first|omega|(simp [e2];done),by omega,by omega⟩));(try (simp only [nc] at *));(try simp (disch:=(first|omega|(simp only [lnS];omega))) only [rdT,rdS]);(try cbv))
  | fail
 )
 ·rw [LV.l_of]; simp [LV.l]
 ·rw [e1 (by omega), set_last]
  simp [hG, LV.l]
 obtain rfl : i = g.fr.length := by ((try simp only [nc] at *); omega)
 clear e1 e2 e3
 refine E.w (AWP.ghostField 3 3 1 rfl rfl ?_)
 refine AWP.step (Step.unrun 6 2 rfl) ?_
 refine E.loopSA (ι:=Nat) (fun i=>i≤g.ord.length) (fun i=>g.ord.length - i) (fun i=>[(6,.i fun _=>((i : Nat) : Int))]) (fun i h=>(h.set 3 (.box (.agg [.sl 2 0 1 (fun _=>0) fun _=>g.init.length,.sl 4 (G g.th.length) 1 (fun _=>0) fun _=>g.th.length,.sl 5 (G g.fr.length) 1 (fun _=>0) fun _=>g.fr.length,.sl 6 (G i) 1 (fun _=>0) fun _=>i]))).set 6 (.nest (G i) 2 (fun _=>OR i) none)) 0 (fun _=>by first|rfl|simp) (Nat.zero_le _) ?_ fun i hi I hI=>?_
 ·cbv; simp [o0, hG0]
 cbv
 have e1 := oS i
 have e2 := ol i hi
 have e3 := c3 i
 repeat' (first
  |(refine hI (i + 1) ?_ ?_ ?_;rotate_left 1;(· ((try simp only [nc] at *);omega));(cbv;clear hI;(try clear hF);(try simp only [nc] at *);(try simp (disch:=(first|omega|(simp only [lnS];omega))) only [rdT,rdS,anT]));rotate_left 1;(try ((try simp only [nc] at *);omega)))
  | (refine hJ (Step.put 6 7 rfl rfl fun _ => ⟨rfl, rfl, ?_⟩) ?_)
  |(refine E.st fun J hJ=>?_;refine E.de 10 [] [some 2] (by decide +kernel) ?_;cbv;(fail_if_success guard_target =~ False))
  |(refine ⟨fun _ h_s=>?_,fun _ h_s=>?_⟩<;>(cbv;(try simp only [nc] at *);try simp (disch:=(first|omega|(simp only [lnS];omega))) only [rdT,rdS,reduceCtorEq,trT] at h_s))
  |(refine hF ?_;intro _;clear hF)
  |(refine hF ?_;cbv;clear hF)
  |(refine ⟨fun _=>?_,?_⟩;(· ((try simp only [nc] at *);first|done|omega|exact ⟨by omega,rfl⟩|(simp (disch:=(first|omega|(simp only [lnS];omega))) only [rdT,rdS];first|done|omega|rfl|exact ⟨by omega,rfl⟩|(simp;done)|(simp;omega))|(intros;trivial)|(refine ⟨by simp;omega,by simp;omega,fun v hv=>?_⟩;simp only [is,evs,ids,LV.l_of,List.mem_map] at hv;obtain ⟨_,_,rfl⟩:=hv;rfl)|exact ⟨by first|trivial|rfl,by first|trivial|rfl,by first|trivial|rfl|(simp [LV.l];done),by first|omega|(simp;omega),by first|omega|(simp;omega),by first|exact evs_flat _|exact id_flat _⟩|exact ⟨by first|trivial|rfl,by first|trivial|rfl,by first|omega|(simp [e2];done),by omega,by omega⟩));(try (simp only [nc] at *));(try simp (disch:=(first|omega|(simp only [lnS];omega))) only [rdT,rdS]);(try cbv))
  | fail
 )
 ·rw [LV.l_of]; simp [LV.l]
 ·rw [e1 (by omega), set_last]
  simp [hG, LV.l]
 obtain rfl : i = g.ord.length := by ((try simp only [nc] at *); omega)
 clear e1 e2 e3
 refine hF ?_ ?_
 all_goals simp [leV, leVs, leH, leB, vresult, AV.cells, hG, te, fe, oe]
theorem rcopy_own (g : Gr) (hb : RdB g) (hR : Rd g) : ∃ n1 n2 n3, Owns Try.prog γ 16 [aGr g] (cpV g n1 n2 n3 2 4 5 6)
  [.any, .any, .run 0 1 fun _ => is g.init, .any, .nest n1 5 (fun _ => evL g.th) none, .nest n2 2 (fun _ => idL g.fr) none, .nest n3 2 (fun _ => idL g.ord) none] := ⟨_, _, _, rcopy_own0 g hb hR⟩
end Go.AL.Rl

namespace Go.AL.Rl
open Go Go.AL Go.Proofs
set_option maxRecDepth 100000
set_option maxHeartbeats 3200000
variable {γ : Nat → Option AV}

/-- an event behind a thread's others, from where it reads -/
def addS (g : Gr) (t : Nat) (e : Ev) (d : EId) : Gr := ⟨g.init, g.th.set t (g.th.getD t [] ++ [e]), g.fr.set t (g.fr.getD t [] ++ [d]), g.ord⟩
/-- where it stands among the writes -/
def addO (g : Gr) (t : Nat) (e : Ev) (p : Int) : List EId := (g.ord.getD e.loc.toNat []).take (p - 1).toNat ++ [⟨(t : Int) + 1, ((g.th.getD t []).length : Int)⟩] ++ (g.ord.getD e.loc.toNat []).drop (p - 1).toNat
def addG (g : Gr) (t : Nat) (e : Ev) (d : EId) (p : Int) : Gr := ⟨g.init, (addS g t e d).th, (addS g t e d).fr, if writesM e = true then g.ord.set e.loc.toNat (addO g t e p) else g.ord⟩
def addC (g : Gr) (t : Nat) (e : Ev) (d : EId) (p : Int) : Prop := fineM g.init.length e = true ∧ (if writesM e = true then 1 ≤ p ∧ p ≤ ((g.ord.getD e.loc.toNat []).length : Nat) + 1 else p = 0) ∧ GOk (addG g t e d p)
instance (g : Gr) (t : Nat) (e : Ev) (d : EId) (p : Int) : Decidable (addC g t e d p) := inferInstanceAs (Decidable (_ ∧ _))
theorem rdb_ok {g : Gr} (h : GOk g) : RdB g := by
 have hs := h.short
 have h1 := hs.th
 have h2 := hs.init
 have h3 := h.lfr
 have h4 := h.lord
 have e2 : ∀ l ∈ g.fr, l.length ≤ 14 := fun l hl => by
  obtain ⟨t, ht, rfl⟩ := List.getElem_of_mem hl
  have := (h.events t (by omega)).1
  have h5 := hs.at t
  rw [show g.fr.getD t [] = g.fr[t] by simp [ht]] at this
  omega
 have e3 : ∀ l ∈ g.ord, l.length ≤ 56 := fun l hl => by
  obtain ⟨x, hx, rfl⟩ := List.getElem_of_mem hl
  have := h.orders x (by omega)
  unfold orderedM at this
  have hc : cntT x g.th ≤ 56 := by have := cntT_take hs x g.th.length; rw [List.take_length] at this; omega
  rw [show g.ord.getD x [] = g.ord[x] by simp [hx]] at this
  simp only [Bool.and_eq_true, decide_eq_true_eq] at this
  omega
 exact ⟨by omega, by omega, by omega, by omega, fun l hl => by have := hs.ths l hl; omega, fun l hl => by have := e2 l hl; omega, fun l hl => by have := e3 l hl; omega⟩
theorem ord56 {g : Gr} (h : GOk g) (x : Nat) : (g.ord.getD x []).length ≤ 56 := by
 rcases Nat.lt_or_ge x g.init.length with hx | hx
 ·have := h.orders x hx
  unfold orderedM at this
  have hc : cntT x g.th ≤ 56 := by have := cntT_take h.short x g.th.length; rw [List.take_length] at this; omega
  simp only [Bool.and_eq_true, decide_eq_true_eq] at this
  omega
 ·rw [List.getD_eq_getElem?_getD, List.getElem?_eq_none (by have := h.lord; omega)]; simp
theorem rd_short {g : Gr} (h : GOk g) : Rd g := by
 have hb := rdb_ok h
 exact ⟨by have := hb.init; omega, by have := hb.th; omega, by have := hb.fr; omega, by have := hb.ord; omega, fun l hl => by have := hb.ths l hl; omega, fun l hl => by have := hb.frs l hl; omega, fun l hl => by have := hb.ords l hl; omega⟩
end Go.AL.Rl

namespace Go.AL.Rl
open Go Go.AL Go.Proofs
set_option maxRecDepth 100000
set_option maxHeartbeats 3200000
variable {γ : Nat → Option AV}

theorem evL_set (l : List (List Ev)) (t : Nat) (x : List Ev) : (evL l).set t (evs x) = evL (l.set t x) := by simp [evL, List.map_set]
theorem idL_set (l : List (List EId)) (t : Nat) (x : List EId) : (idL l).set t (ids x) = idL (l.set t x) := by simp [idL, List.map_set]
theorem evL_get (l : List (List Ev)) (t : Nat) : (evL l).getD t .nil = evs (l.getD t []) := by
 unfold evL
 rcases Nat.lt_or_ge t l.length with h | h
 ·simp [h]
 ·simp [List.getElem?_eq_none h, evs, LV.of]
theorem idL_get (l : List (List EId)) (t : Nat) : (idL l).getD t .nil = ids (l.getD t []) := by
 unfold idL
 rcases Nat.lt_or_ge t l.length with h | h
 ·simp [h]
 ·simp [List.getElem?_eq_none h, ids, LV.of]
end Go.AL.Rl

namespace Go.AL.Rl
open Go Go.AL Go.Proofs
set_option maxRecDepth 100000
set_option maxHeartbeats 1600000

structure Tail (V U : Vw) (n m : Nat) (f : Nat → Nat) (N : Nat) : Prop where
 cov : ∀ a < m, (∃ i < n, a = f i) ∨ a = N
 nim : ∀ i < n, f i ≠ N
 po : ∀ b < m, poM U N b = false
 rf : ∀ b < m, U.fr.getD b 0 ≠ (N : Nat)
 frn : ∀ i < n, V.fr.getD i 0 < 0 → U.fr.getD (f i) 0 < 0
 pln : ∀ i < n, 0 ≤ U.pl.getD (f i) 0 → 0 ≤ V.pl.getD i 0
 plu : ∀ i < n, ∀ j < n, nearM V i j = true → 0 ≤ V.pl.getD i 0 → V.pl.getD i 0 = V.pl.getD j 0 → i = j
 plh : ∀ i < n, ∀ j < n, nearM V i j = true → 0 ≤ V.pl.getD i 0 → 0 ≤ U.pl.getD (f j) 0 → 0 ≤ V.pl.getD j 0
section
variable {V U : Vw} {n m : Nat} {f : Nat → Nat} {N : Nat} (E : Emb V U n m f) (Y : Tail V U n m f N) (hV : Wf V n) (hU : Wf U m)
include E Y
include hV
include hU
end
end Go.AL.Rl

namespace Go.AL.Rl
open Go Go.AL Go.Proofs
set_option maxRecDepth 100000
set_option maxHeartbeats 1600000

theorem getD_set' {α : Type} (l : List α) (i j : Nat) (x d : α) (hi : i < l.length) : (l.set i x).getD j d = if j = i then x else l.getD j d := by
 rw [List.getD_eq_getElem?_getD, List.getElem?_set, List.getD_eq_getElem?_getD]
 by_cases e : i = j
 ·subst e; simp [hi]
 ·rw [if_neg e, if_neg fun h => e h.symm]
theorem gD' {α : Type} {l : List α} {i : Nat} {d : α} (h : i < l.length) : l.getD i d = l[i] := by simp [h]
section
variable {g : Gr} {t : Nat} {e : Ev} {d : EId} {p : Int} (hg : GOk g) (ht : t < g.th.length) (hh : GOk (addG g t e d p))
include ht
include hg
include hh
end
end Go.AL.Rl

namespace Go.AL.Rl
open Go Go.AL Go.Proofs
set_option maxRecDepth 100000
set_option maxHeartbeats 3200000
variable {γ : Nat → Option AV}

end Go.AL.Rl

namespace Go.AL.Rl
open Go Go.AL Go.Proofs
set_option maxRecDepth 100000
set_option maxHeartbeats 3200000
variable {γ : Nat → Option AV}

section
variable {g : Gr} {t : Nat} {e : Ev} {d : EId} {p : Int} (hg : GOk g) (ht : t < g.th.length) (hh : GOk (addG g t e d p)) {x y : Nat} (hx : x < nG g) (hy : y < nG g)
include hg ht hh hx hy
end
end Go.AL.Rl

namespace Go.AL.Rl
open Go Go.AL Go.Proofs
set_option maxRecDepth 100000
set_option maxHeartbeats 3200000

theorem rpB_mem {v : RV} {a : Nat} {p : Nat × Nat} : ∀ b, p ∈ rpB v a b → p.1 = a ∧ a < p.2 ∧ p.2 < b ∧ oneM v a p.2 = true
 | 0, h => by simp [rpB] at h
 | b + 1, h => by
  rw [rpB, List.mem_append] at h
  rcases h with h | h
  ·obtain ⟨h1, h2, h3, h4⟩ := rpB_mem b h
   exact ⟨h1, h2, by omega, h4⟩
  ·split at h
   ·rename_i hc
    have : p = (a, b) := by simpa using h
    subst this
    exact ⟨rfl, hc.1, Nat.lt_succ_self _, hc.2⟩
   ·simp at h
theorem rpA_mem {v : RV} {m : Nat} {p : Nat × Nat} : ∀ a, p ∈ rpA v m a → p.1 < p.2 ∧ p.2 < m ∧ oneM v p.1 p.2 = true
 | 0, h => by simp [rpA] at h
 | a + 1, h => by
  rw [rpA, List.mem_append] at h
  rcases h with h | h
  ·exact rpA_mem a h
  ·obtain ⟨h1, h2, h3, h4⟩ := rpB_mem m h
   rw [h1]; exact ⟨h2, h3, h4⟩
theorem races_mem {v : RV} {i : Nat} (h : i < (racesV v).length) : ∃ a b, a < b ∧ b < v.ids.length ∧ oneM v a b = true ∧ (racesV v).getD i rc0 = ⟨(rAt v a).loc, v.ids.getD a id0, v.ids.getD b id0⟩ := by
 have hm : (racesV v).getD i rc0 ∈ racesV v := by rw [gD' h]; exact List.getElem_mem h
 unfold racesV at hm
 rw [List.mem_map] at hm
 obtain ⟨p, hp, e⟩ := hm
 obtain ⟨h1, h2, h3⟩ := rpA_mem _ hp
 exact ⟨p.1, p.2, h1, h2, h3, e.symm⟩
theorem races_len {g : Gr} (h : GOk g) : (racesV (rvG g)).length ≤ 4096 := by
 have hw := rvG_wf h
 have hl : (rvG g).ids.length ≤ 64 := by have := hw.big; have := hw.small; have := hw.sh; omega
 unfold racesV
 rw [List.length_map]
 exact Nat.le_trans (rpA_len _ _ _) (Nat.mul_le_mul hl hl)
theorem oneM_iff {v : RV} {a b : Nat} : oneM v a b = true ↔ (v.ids.getD a id0).t ≠ (v.ids.getD b id0).t ∧ (rAt v a).kind ≠ 4 ∧ (rAt v b).kind ≠ 4 ∧ (rAt v a).loc = (rAt v b).loc ∧ (rWr (rAt v a) = true ∨ rWr (rAt v b) = true) ∧ (rPl (rAt v a) = true ∨ rPl (rAt v b) = true) ∧ rAhead v a b = false ∧ rAhead v b a = false := by
 unfold oneM
 simp only [Bool.and_eq_true, Bool.not_eq_true', Bool.or_eq_false_iff, Bool.or_eq_true, decide_eq_false_iff_not, ne_eq, Classical.not_not, and_assoc]
theorem idsG_getT {g : Gr} {k : Nat} : (idsG g).getD (g.init.length + k) id0 = (idsT g g.th.length).getD k id0 := by
 unfold idsG
 rw [List.getD_eq_getElem?_getD, List.getElem?_append_right (by rw [idsI_len]; omega), idsI_len, Nat.add_sub_cancel_left, ← List.getD_eq_getElem?_getD]
theorem idsT_inG {g : Gr} {d : EId} (h : d ∈ idsT g g.th.length) : d ∈ idsG g := by unfold idsG; exact List.mem_append_right _ h
section
variable {g : Gr} {t : Nat} {e : Ev} {d : EId} {p : Int} (hg : GOk g) (ht : t < g.th.length) (hh : GOk (addG g t e d p))
include hg ht hh
end
end Go.AL.Rl

namespace Go.AL.Rl
open Go Go.AL Go.Proofs
set_option maxRecDepth 100000
set_option maxHeartbeats 3200000
variable {γ : Nat → Option AV}

theorem rvO_wf (g : Gr) : RWf (rvO g) := by
 unfold rvO
 split
 ·rename_i h; exact rvG_wf h
 ·exact ⟨rfl, Int.le_refl _, by simp [rv0], by simp [rv0]⟩
def hpH (g : Gr) (v : RV) (x : AV) (l D : Nat) (oR oD : Obj) (s : Tr) (t : Array Value) : List Blk :=
 [.box (aGr g), .box x, .box (aRV v), .obj D oD .nil #[], .obj l oR s t]
theorem rpB_nil {v : RV} {a : Nat} : ∀ b, (∀ b' < b, a < b' → oneM v a b' = false) → rpB v a b = []
 | 0, _ => rfl
 | b + 1, h => by
  rw [rpB, rpB_nil b fun b' hb' => h b' (by omega), if_neg]
  ·rfl
  ·rintro ⟨h1, h2⟩
   rw [h b (by omega) h1] at h2; cases h2
theorem rpA_nil {v : RV} {m : Nat} : ∀ a, (∀ a' < a, ∀ b < m, a' < b → oneM v a' b = false) → rpA v m a = []
 | 0, _ => rfl
 | a + 1, h => by
  rw [rpA, rpA_nil a fun a' ha' => h a' (by omega), rpB_nil m (h a (by omega))]; rfl
theorem rpB_has {v : RV} {a b' : Nat} (h1 : a < b') (h2 : oneM v a b' = true) : ∀ b, b' < b → (a, b') ∈ rpB v a b
 | 0, h => absurd h (by omega)
 | b + 1, h => by
  rw [rpB, List.mem_append]
  rcases Nat.lt_or_ge b' b with h3 | h3
  ·exact .inl (rpB_has h1 h2 b h3)
  ·have e : b' = b := by omega
   subst e
   rw [if_pos ⟨h1, h2⟩]; exact .inr (by simp)
theorem rpA_has {v : RV} {m a' b' : Nat} (h1 : a' < b') (hb : b' < m) (h2 : oneM v a' b' = true) : ∀ a, a' < a → (a', b') ∈ rpA v m a
 | 0, h => absurd h (by omega)
 | a + 1, h => by
  rw [rpA, List.mem_append]
  rcases Nat.lt_or_ge a' a with h3 | h3
  ·exact .inl (rpA_has h1 hb h2 a h3)
  ·have e : a' = a := by omega
   subst e
   exact .inr (rpB_has h1 h2 m hb)
theorem races_nil_iff {v : RV} : racesV v = [] ↔ ∀ a < v.ids.length, ∀ b < v.ids.length, a < b → oneM v a b = false := by
 unfold racesV
 rw [List.map_eq_nil_iff]
 constructor
 ·intro h a ha b hb hab
  refine Bool.eq_false_iff.2 fun ho => ?_
  have := rpA_has hab hb ho v.ids.length ha
  rw [h] at this; cases this
 ·exact fun h => rpA_nil _ h
theorem allS_ok (g : Gr) (v : RV) (hv : RWf v) (l D : Nat) (oR oX oD : Obj) (s : Tr) (t : Array Value) (hT : leT 5 s s)
  (hy : ∀ (a b : Nat), b < v.ids.length → a < b → oneM v a b = true → YCall Try.prog γ l [.i fun _ => (a : Int), .i fun _ => (b : Int)] (hpH g v .ff l D oR oD s t) (fun x h => x = .ff ∧ h = hpH g v .tt l D oX oD s t)) (R : List Blk)
  (hR0 : racesV v = [] → R = hpH g v .ff l D oR oD s t) (hR1 : racesV v ≠ [] → R = hpH g v .tt l D oX oD s t) :
  SCalls Try.prog γ 40 [.raw (.func (.yield l) #[] #[]), .vp (fun _ => aRV v) 0] (hpH g v .ff l D oR oD s t) (fun x h => x = .tup [] ∧ h = R) := by
 have h1 := hv.len
 have hsm : v.ids.length ≤ 64 := by have := hv.big; have := hv.small; have := hv.sh; omega
 have k1 := fun (a b : Nat) (ha : a < v.ids.length) (hb : b < v.ids.length) => rone_ok (γ := γ) v hv a b ha hb
 have hnil := races_nil_iff (v := v)
 have hT2 := hT
 cbv at hT2
 obtain ⟨N, hN⟩ : ∃ N, N = v.ids.length := ⟨_, rfl⟩
 rw [← hN] at hsm hy k1 hnil
 unfold aRV hpH at *
 generalize hI : v.ids = I at *
 generalize v.evs = Es at *
 generalize v.rows = Rw at *
 generalize v.sh = Sh at *
 generalize v.n = Vn at *
 refine SCalls.go (ty := ty) ty_eq mo Try.func40 rfl Try.ntmps40 Try.results40 Try.call40 (by simp) fun P C CQ D W F E hF => ?_
 cbv
 skip
 repeat' (first
  |(refine ⟨fun _ h_s=>?_,fun _ h_s=>?_⟩<;>(cbv;(try simp only [nc] at *);try simp (disch:=(first|omega|(simp only [lnS];omega))) only [rdT,rdS,hT2,reduceCtorEq,trT] at h_s))
  |(refine hF ?_;intro _;clear hF)
  |(refine hF ?_;cbv;clear hF)
  |(refine ⟨fun _=>?_,?_⟩;(· ((try simp only [nc] at *);first|done|omega|exact ⟨by omega,rfl⟩|(simp (disch:=(first|omega|(simp only [lnS];omega))) only [rdT,rdS,hT2];first|done|omega|rfl|exact ⟨by omega,rfl⟩|(simp;done)|(simp;omega))|(intros;trivial)));(try (simp only [nc] at *));(try simp (disch:=(first|omega|(simp only [lnS];omega))) only [rdT,rdS,hT2]);(try cbv))
  | fail
 )
 refine E.loopS (ι:=Nat) (fun a=>a≤N∧∀ a' < a,∀ b < N,a' < b → oneM v a' b = false) (fun a=>N - a) (fun a=>[(8,.i fun _=>((a : Nat) : Int))]) (fun a h=>h) 0 (fun _=>by first|rfl|simp) ?_ ?_ fun a ha I1 hI1=>?_
 ·exact ⟨Nat.zero_le _, fun a' h => absurd h (by omega)⟩
 ·cbv; simp [hT2]
 cbv
 obtain ⟨ha, hpa⟩ := ha
 repeat' (first
  |(refine ⟨fun _ h_s=>?_,fun _ h_s=>?_⟩<;>(cbv;(try simp only [nc] at *);try simp (disch:=(first|omega|(simp only [lnS];omega))) only [rdT,rdS,hT2,reduceCtorEq,trT] at h_s))
  |(refine hF ?_;intro _;clear hF)
  |(refine hF ?_;cbv;clear hF)
  |(refine ⟨fun _=>?_,?_⟩;(· ((try simp only [nc] at *);first|done|omega|exact ⟨by omega,rfl⟩|(simp (disch:=(first|omega|(simp only [lnS];omega))) only [rdT,rdS,hT2];first|done|omega|rfl|exact ⟨by omega,rfl⟩|(simp;done)|(simp;omega))|(intros;trivial)));(try (simp only [nc] at *));(try simp (disch:=(first|omega|(simp only [lnS];omega))) only [rdT,rdS,hT2]);(try cbv))
  | fail
 )
 ·refine E.loopS (ι:=Nat) (fun b=>(a + 1≤b∧b≤N)∧∀ b' < b,a < b' → oneM v a b' = false) (fun b=>N - b) (fun b=>[(4,.i fun _=>((b : Nat) : Int))]) (fun b h=>h) (a + 1) (fun _=>by first|rfl|simp) ?_ ?_ fun b hb I2 hI2=>?_
  ·exact ⟨by ((try simp only [nc] at *); omega), fun b' h1 h2 => absurd h1 (by omega)⟩
  ·cbv; simp [hT2]; exact w64_of (by omega) (by omega)
  cbv
  obtain ⟨hb, hpb⟩ := hb
  repeat' (first
   |(refine hI1 (a + 1) ?_ ?_ ?_;rotate_left 1;(· ((try simp only [nc] at *);omega));(cbv;clear hI1;(try clear hF);(try simp only [nc] at *);(try simp (disch:=(first|omega|(simp only [lnS];omega))) only [rdT,rdS,hT2,anT]));rotate_left 1;(try ((try simp only [nc] at *);omega)))
   |(refine hI2 (b + 1) ?_ ?_ ?_;rotate_left 1;(· ((try simp only [nc] at *);omega));(cbv;clear hI2;(try clear hF);(try simp only [nc] at *);(try simp (disch:=(first|omega|(simp only [lnS];omega))) only [rdT,rdS,hT2,anT]));rotate_left 1;(try ((try simp only [nc] at *);omega)))
   | (refine E.y (YCall.to (hy a b (by ((try simp only [nc] at *); omega)) (by ((try simp only [nc] at *); omega)) (by assumption)) (by cbv) (by cbv; simp) (by cbv; simp [hT2]) ?_); cbv)
   |(refine E.c (SCalls.of_le (k1 a b (by ((try simp only [nc] at *);omega)) (by ((try simp only [nc] at *);omega))) ?_ ?_);(· (cbv;(try simp only [nc] at *);first|done|(simp;done)|(simp (disch:=(first|omega|(simp only [lnS];omega))) only [rdT,rdS,hT2,anT];first|done|omega|(refine ⟨?_,?_⟩<;>omega))|(simp (disch:=(first|omega|(simp only [lnS];omega))) [rdT,rdS,hT2];done)));cbv)
   |(refine ⟨fun _ h_s=>?_,fun _ h_s=>?_⟩<;>(cbv;(try simp only [nc] at *);try simp (disch:=(first|omega|(simp only [lnS];omega))) only [rdT,rdS,hT2,reduceCtorEq,trT] at h_s))
   |(refine hF ?_;intro _;clear hF)
   |(refine hF ?_;cbv;clear hF)
   |(refine ⟨fun _=>?_,?_⟩;(· ((try simp only [nc] at *);first|done|omega|exact ⟨by omega,rfl⟩|(simp (disch:=(first|omega|(simp only [lnS];omega))) only [rdT,rdS,hT2];first|done|omega|rfl|exact ⟨by omega,rfl⟩|(simp;done)|(simp;omega))|(intros;trivial)));(try (simp only [nc] at *));(try simp (disch:=(first|omega|(simp only [lnS];omega))) only [rdT,rdS,hT2]);(try cbv))
   | fail
  )
  ·have ho : oneM v a b = true := by assumption
   refine ⟨rfl, (hR1 fun h => ?_).symm⟩
   rw [hnil.1 h a (by ((try simp only [nc] at *); omega)) b (by ((try simp only [nc] at *); omega)) (by ((try simp only [nc] at *); omega))] at ho
   cases ho
  ·have ho : oneM v a b = false := by assumption
   refine ⟨by ((try simp only [nc] at *); omega), fun b' h1 h2 => ?_⟩
   rcases Nat.lt_or_ge b' b with h3 | h3
   ·exact hpb b' h3 h2
   ·have e : b' = b := by omega
    rw [e]; exact ho
  ·push_cast; rfl
  ·refine ⟨by ((try simp only [nc] at *); omega), fun a' h1 b2 h2 h3 => ?_⟩
   rcases Nat.lt_or_ge a' a with h4 | h4
   ·exact hpa a' h4 b2 h2 h3
   ·have e : a' = a := by omega
    subst e
    exact hpb b2 (by ((try simp only [nc] at *); omega)) h3
  ·push_cast; rfl
 ·exact ⟨rfl, (hR0 (hnil.2 fun a' ha' b hb hab => hpa a' (by ((try simp only [nc] at *); omega)) b hb hab)).symm⟩

theorem rhas_race_ok (g : Gr) (hg : Rd g) : Pure Try.prog γ false 18 [aGr g] (.b fun _ => decide (racesV (rvO g) ≠ [])) := by
 have kl := rlook_ok (γ := γ) g hg
 have hw := rvO_wf g
 generalize rvO g = v at *
 have ka := vall_ok (γ := γ) v
 unfold aRV at kl ka
 by_cases hr : racesV v = []
 ·rw [decide_eq_false (fun h => h hr)]
  refine Pure.goK (ty := ty) ty_eq mo Try.func18 rfl Try.ntmps18 Try.results18 Try.call18 (by simp) 3 (by kernel_rfl) fun P C CQ D W C2 CQ2 D2 F RQ E E2 hF hR => ?_
  cbv
  repeat' (first
   |(refine E.c (SCalls.of_le (ka) ?_ ?_);(· (cbv;(try simp only [nc] at *);first|done|(simp;done)|(simp (disch:=(first|omega|(simp only [lnS];omega))) only [rdT,rdS,hT2,anT];first|done|omega|(refine ⟨?_,?_⟩<;>omega))|(simp (disch:=(first|omega|(simp only [lnS];omega))) [rdT,rdS,hT2];done)));cbv)
   |(refine E.c (SCalls.of_le (kl) ?_ ?_);(· (cbv;(try simp only [nc] at *);first|done|(simp;done)|(simp (disch:=(first|omega|(simp only [lnS];omega))) only [rdT,rdS,hT2,anT];first|done|omega|(refine ⟨?_,?_⟩<;>omega))|(simp (disch:=(first|omega|(simp only [lnS];omega))) [rdT,rdS,hT2];done)));cbv)
   |(refine ⟨fun _ h_s=>?_,fun _ h_s=>?_⟩<;>(cbv;(try simp only [nc] at *);try simp (disch:=(first|omega|(simp only [lnS];omega))) only [rdT,rdS,hT2,reduceCtorEq,trT] at h_s))
   |(refine hF ?_;intro _;clear hF)
   |(refine hF ?_;cbv;clear hF)
   |(refine ⟨fun _=>?_,?_⟩;(· ((try simp only [nc] at *);first|done|omega|exact ⟨by omega,rfl⟩|(simp (disch:=(first|omega|(simp only [lnS];omega))) only [rdT,rdS,hT2];first|done|omega|rfl|exact ⟨by omega,rfl⟩|(simp;done)|(simp;omega))|(intros;trivial)));(try (simp only [nc] at *));(try simp (disch:=(first|omega|(simp only [lnS];omega))) only [rdT,rdS,hT2]);(try cbv))
   | fail
  )
  refine hR ⟨_, _, _, Step.refl, rfl, by cbv, fun l D t oR oB oX oE oEX oD oD' hY => ?_⟩
  refine SCalls.mono (h := hpH g v .ff l D oR oD _ t) (allS_ok g v hw l D oR oX oD _ t ?a (fun a b hb hab ho => hY _ _ _ rfl rfl ?b) _ (fun _ => rfl) (fun h => absurd hr h)) fun _ h' hh' => .inl ?c
  case a => cbv; simp
  case c =>
   obtain ⟨_, hh'⟩ := hh'
   subst hh'
   cbv
   repeat' (first
    |(refine ⟨fun _ h_s=>?_,fun _ h_s=>?_⟩<;>(cbv;(try simp only [nc] at *);try simp (disch:=(first|omega|(simp only [lnS];omega))) only [rdT,rdS,hT2,reduceCtorEq,trT] at h_s))
    |(refine hF ?_;intro _;clear hF)
    |(refine hF ?_;cbv;clear hF)
    |(refine ⟨fun _=>?_,?_⟩;(· ((try simp only [nc] at *);first|done|omega|exact ⟨by omega,rfl⟩|(simp (disch:=(first|omega|(simp only [lnS];omega))) only [rdT,rdS,hT2];first|done|omega|rfl|exact ⟨by omega,rfl⟩|(simp;done)|(simp;omega))|(intros;trivial)));(try (simp only [nc] at *));(try simp (disch:=(first|omega|(simp only [lnS];omega))) only [rdT,rdS,hT2]);(try cbv))
    | fail
   )
   rfl
  case b => cbv
 ·rw [decide_eq_true hr]
  refine Pure.goK (ty := ty) ty_eq mo Try.func18 rfl Try.ntmps18 Try.results18 Try.call18 (by simp) 3 (by kernel_rfl) fun P C CQ D W C2 CQ2 D2 F RQ E E2 hF hR => ?_
  cbv
  repeat' (first
   |(refine E.c (SCalls.of_le (ka) ?_ ?_);(· (cbv;(try simp only [nc] at *);first|done|(simp;done)|(simp (disch:=(first|omega|(simp only [lnS];omega))) only [rdT,rdS,hT2,anT];first|done|omega|(refine ⟨?_,?_⟩<;>omega))|(simp (disch:=(first|omega|(simp only [lnS];omega))) [rdT,rdS,hT2];done)));cbv)
   |(refine E.c (SCalls.of_le (kl) ?_ ?_);(· (cbv;(try simp only [nc] at *);first|done|(simp;done)|(simp (disch:=(first|omega|(simp only [lnS];omega))) only [rdT,rdS,hT2,anT];first|done|omega|(refine ⟨?_,?_⟩<;>omega))|(simp (disch:=(first|omega|(simp only [lnS];omega))) [rdT,rdS,hT2];done)));cbv)
   |(refine ⟨fun _ h_s=>?_,fun _ h_s=>?_⟩<;>(cbv;(try simp only [nc] at *);try simp (disch:=(first|omega|(simp only [lnS];omega))) only [rdT,rdS,hT2,reduceCtorEq,trT] at h_s))
   |(refine hF ?_;intro _;clear hF)
   |(refine hF ?_;cbv;clear hF)
   |(refine ⟨fun _=>?_,?_⟩;(· ((try simp only [nc] at *);first|done|omega|exact ⟨by omega,rfl⟩|(simp (disch:=(first|omega|(simp only [lnS];omega))) only [rdT,rdS,hT2];first|done|omega|rfl|exact ⟨by omega,rfl⟩|(simp;done)|(simp;omega))|(intros;trivial)));(try (simp only [nc] at *));(try simp (disch:=(first|omega|(simp only [lnS];omega))) only [rdT,rdS,hT2]);(try cbv))
   | fail
  )
  refine hR ⟨_, _, _, Step.refl, rfl, by cbv, fun l D t oR oB oX oE oEX oD oD' hY => ?_⟩
  refine SCalls.mono (h := hpH g v .ff l D oR oD _ t) (allS_ok g v hw l D oR oX oD _ t ?a (fun a b hb hab ho => hY _ _ _ rfl rfl ?b) _ (fun h => absurd h hr) (fun _ => rfl)) fun _ h' hh' => .inr ?c
  case a => cbv; simp
  case c =>
   obtain ⟨_, hh'⟩ := hh'
   subst hh'
   cbv
   repeat' (first
    |(refine ⟨fun _ h_s=>?_,fun _ h_s=>?_⟩<;>(cbv;(try simp only [nc] at *);try simp (disch:=(first|omega|(simp only [lnS];omega))) only [rdT,rdS,hT2,reduceCtorEq,trT] at h_s))
    |(refine hF ?_;intro _;clear hF)
    |(refine hF ?_;cbv;clear hF)
    |(refine ⟨fun _=>?_,?_⟩;(· ((try simp only [nc] at *);first|done|omega|exact ⟨by omega,rfl⟩|(simp (disch:=(first|omega|(simp only [lnS];omega))) only [rdT,rdS,hT2];first|done|omega|rfl|exact ⟨by omega,rfl⟩|(simp;done)|(simp;omega))|(intros;trivial)));(try (simp only [nc] at *));(try simp (disch:=(first|omega|(simp only [lnS];omega))) only [rdT,rdS,hT2]);(try cbv))
    | fail
   )
   rfl
  case b => cbv
end Go.AL.Rl

namespace Go.AL.Rl
open Go Go.AL Go.Proofs
set_option maxRecDepth 100000
set_option maxHeartbeats 3200000
variable {γ : Nat → Option AV}

end Go.AL.Rl

namespace Go.AL.Rl
open Go Go.AL Go.Proofs
set_option maxRecDepth 100000
set_option maxHeartbeats 3200000
variable {γ : Nat → Option AV}

end Go.AL.Rl

namespace Go.AL
open Go Go.RowKit

section
variable {P : Program} {γ : Nat → Option AV}
def isL (l : List Int) : LV := LV.of (l.map fun x => .i fun _ => x)
theorem RL_isL {S : Nat → Prop} {w : World} {zs : List Int} {evs : List Value} (h : RL S w (isL zs) evs) : evs = zs.map fun z => .int .i64 z := by
 rw [RL_iff] at h
 unfold isL at h
 rw [LV.l_of] at h
 induction zs generalizing evs with
 | nil => exact h
 | cons z zs ih =>
  obtain ⟨x, xs, rfl, h2, h3⟩ := h
  have h2 : x = .int .i64 z := h2
  rw [h2, ih h3]; rfl
theorem isL_RL {S : Nat → Prop} {w : World} (zs : List Int) : RL S w (isL zs) (zs.map fun z => .int .i64 z) := by
 rw [RL_iff]
 unfold isL
 rw [LV.l_of]
 induction zs with
 | nil => rfl
 | cons z zs ih => exact ⟨_, _, rfl, rfl, ih⟩
/-- a run's row is written anew, and memory has grown -/
theorem row_upd {B : Nat} {S : Nat → Prop} {ρ : List Loc} {h : List Blk} {w : World} (hh : HeapR B S γ ρ h w) {b g : Nat} {zs zs' : List Int} {loc : Loc} {K : Nat} (hb : h[b]? = some (.run g 1 fun _ => isL zs)) (hl : ρ[b]? = some loc) (hK : loc.k = some K)
  (hlen : zs'.length = zs.length) (q : Nat) (os : Array Obj) :
  HeapR B S γ (ρ.set b loc) (h.set b (.run g 1 fun _ => isL zs')) (Sort.grow (Sort.putRow (Value.int .i64) (Sort.ahead w q) K 0 zs'.toArray) os) ∧ Ext B S ρ w S (ρ.set b loc) (Sort.grow (Sort.putRow (Value.int .i64) (Sort.ahead w q) K 0 zs'.toArray) os) := by
 obtain ⟨p1, p2, p3, evs, p4, p5, p6⟩ := hh.blk b _ loc hb hl
 have e := RL_isL p4
 subst e
 obtain ⟨_, hKs, hBK⟩ := hh.own b loc K hl (.inl hK)
 rcases p6 with ⟨e, _⟩ | ⟨K', c, ty, e, hc, h1, h2, h3⟩
 ·rw [hK] at e; cases e
 rw [hK] at e; cases e
 have hold : ∀ k, k < w.heap.size → (Sort.grow (Sort.putRow (Value.int .i64) (Sort.ahead w q) K 0 zs'.toArray) os).heap[k]? = (Sort.putRow (Value.int .i64) w K 0 zs'.toArray).heap[k]? := fun k hk => by
  rw [Sort.heap_grow_old _ _ (by simpa using hk)]; rfl
 have hput : ∀ k, (Sort.putRow (Value.int .i64) w K 0 zs'.toArray).heap[k]? = if K = k then some (.cells (Sort.putCells (Value.int .i64) 0 zs'.toArray c) ty (0, 0)) else w.heap[k]? := fun k => by
  unfold Sort.putRow Sort.mapBlock
  simp only [Array.getElem?_modify]
  split
  ·rename_i e; subst e; rw [hc]; rfl
  ·rfl
 refine HeapR.upd hh hl loc.up_refl (fun K h => .inl h) ⟨rfl, rfl, rfl, by simp, fun a ha => ?_⟩ (fun k hk hne => ?_) ⟨p1, p2, p3, _, isL_RL zs', fun e he u hu => ?_, .inr ⟨K, Sort.putCells (Value.int .i64) 0 zs'.toArray c, ty, hK, ?_, ?_, ?_, fun i e he => ?_⟩⟩
 ·by_cases e : K = a.block
  ·simp only [World.frozen?, hold _ ha, hput, if_pos e]
   rw [← e, hc]
  ·simp only [World.frozen?, hold _ ha, hput, if_neg e]
 ·rw [hold k hk, hput, if_neg fun e => hne (by rw [hK, e])]
 ·rw [List.mem_map] at he
  obtain ⟨z, _, rfl⟩ := he
  have : u = .int .i64 z := by simpa [Value.cells] using hu
  subst this; rfl
 ·rw [hold K hKs, hput, if_pos rfl]
 ·simp [Sort.putCells, h1]
 ·rw [List.length_map] at h2 ⊢
  rw [hlen]; exact h2
 ·rw [List.getElem?_map] at he
  cases hz : zs'[i]? with
  | none => rw [hz] at he; cases he
  | some z =>
   rw [hz] at he
   cases he
   have hi := (List.getElem?_eq_some_iff.1 hz).1
   have hci : i < c.size := by rw [List.length_map] at h2; rw [p3] at h2; omega
   refine ⟨by rw [p3]; rfl, fun j x hj => ?_⟩
   have hx : j = 0 ∧ x = .int .i64 z := by
    rcases j with _ | j
    ·simp [Value.cells] at hj; exact ⟨rfl, hj.symm⟩
    ·simp [Value.cells] at hj
   obtain ⟨rfl, rfl⟩ := hx
   rw [p3, Nat.mul_one, Nat.add_zero]
   simp only [Sort.putCells, Array.getElem?_mapIdx, Array.getElem?_eq_getElem hci, Option.map_some]
   rw [if_pos ⟨Nat.zero_le _, by simpa using hi⟩]
   have : zs'.toArray[i - 0]! = z := by
    have := (List.getElem?_eq_some_iff.1 hz).2
    simp [hi, this]
   rw [this]
theorem row_holds {B : Nat} {S : Nat → Prop} {ρ : List Loc} {h : List Blk} {w : World} (hh : HeapR B S γ ρ h w) {b g : Nat} {zs : List Int} {loc : Loc} {K : Nat} (hb : h[b]? = some (.run g 1 fun _ => isL zs)) (hl : ρ[b]? = some loc) (hK : loc.k = some K) : Sort.Holds (Value.int .i64) w K 0 zs.toArray := by
 obtain ⟨p1, p2, p3, evs, p4, p5, p6⟩ := hh.blk b _ loc hb hl
 have e := RL_isL p4
 subst e
 rcases p6 with ⟨e, _⟩ | ⟨K', c, ty, e, hc, h1, h2, h3⟩
 ·rw [hK] at e; cases e
 rw [hK] at e; cases e
 intro j hj
 have hj : j < zs.length := by simpa using hj
 have h4 := (h3 j (.int .i64 zs[j]) (by simp [hj])).2 0 (.int .i64 zs[j]) rfl
 rw [p3, Nat.mul_one, Nat.add_zero] at h4
 constructor
 ·simp only [World.cell?, hc, Nat.zero_add]
  rw [h4]
  simp [hj]
 ·simp [World.frozen?, hc]
/-- the slice of a whole run -/
theorem run_slice {B : Nat} {S : Nat → Prop} {ρ : List Loc} {h : List Blk} {w : World} (hh : HeapR B S γ ρ h w) {b g : Nat} {zs : List Int} (hb : h[b]? = some (.run g 1 fun _ => isL zs)) {v : Value} {len : Unit → Nat} (hv : R S w (some ρ) (.sl b g 1 (fun _ => 0) len) v) :
  ∃ loc a cap, ρ[b]? = some loc ∧ v = .slice a (len ()) cap ∧ len () ≤ cap ∧ (cap = 0 ∨ ∃ K, loc.k = some K ∧ a = some ⟨K, 0, none⟩) := by
 obtain ⟨l, loc, a, cap, e, hl, h1, h2, h3, h4, h5, h6, h7⟩ := hv
 cases e
 obtain ⟨p1, p2, p3, _⟩ := hh.blk b _ loc hb hl
 refine ⟨loc, a, cap, hl, h4, h5, ?_⟩
 rcases h7 p2 with ⟨_, h8, _⟩ | ⟨K, h8, h9, _⟩
 ·exact .inl h8
 ·rcases h9 with h9 | h9
  ·exact .inl h9
  ·exact .inr ⟨K, h8, by rw [h9]; simp⟩
theorem sort_run {R0 : Go.Shelf.Ren} (L : Proofs.Lays.n189 P R0) (he : Enters P (R0.f 189)) {h : List Blk} {b g : Nat} {zs : List Int} (hb : h[b]? = some (.run g 1 fun _ => isL zs)) (hsz : zs.length < 4611686018427387904) {Q : AV → List Blk → Prop}
  (hQ : Q (.tup []) (h.set b (.run g 1 fun _ => isL (zs.mergeSort fun x y => decide (x ≤ y))))) : SCalls P γ (R0.f 189) [.sl b g 1 (fun _ => 0) fun _ => zs.length] h Q := by
 refine ⟨he, fun B S ρ w vals hh hargs => ?_⟩
 obtain ⟨v, _, rfl, hv, rfl⟩ := hargs
 obtain ⟨loc, a, cap, hl, rfl, hcap, hk⟩ := run_slice hh hb hv
 have hset : ρ.set b loc = ρ := by
  apply List.ext_getElem? ; intro i
  by_cases e : b = i
  ·subst e; rw [List.getElem?_set_self (List.getElem?_eq_some_iff.1 hl).1, hl]
  ·rw [List.getElem?_set_ne e]
 by_cases hz : zs.length = 0
 ·have hz : zs = [] := List.length_eq_zero_iff.1 hz
  subst hz
  have hs : h.set b (.run g 1 fun _ => isL []) = h := by
   apply List.ext_getElem? ; intro i
   by_cases e : b = i
   ·subst e; rw [List.getElem?_set_self (List.getElem?_eq_some_iff.1 hb).1, hb]
   ·rw [List.getElem?_set_ne e]
  have e : ([] : List Int).mergeSort (fun x y => decide (x ≤ y)) = [] := by simp
  rw [e, hs] at hQ
  refine (Proofs.Any.slices_Sort_int_none L a cap w).mono fun e w' ⟨h1, h2⟩ => ?_
  subst h2
  exact ⟨_, h, S, ρ, _, h1, hQ, ⟨[], rfl, rfl⟩, hh, Ext.refl _ _ _ _⟩
 ·rcases hk with hk | ⟨K, hK, rfl⟩
  ·omega
  obtain ⟨_, hKs, _⟩ := hh.own b loc K hl (.inl hK)
  refine (Proofs.Any.slices_Sort_int L K 0 cap zs w (row_holds hh hb hl hK) hKs hsz).mono fun e w' ⟨h1, q, os, h2⟩ => ?_
  subst h2
  have h3 := row_upd hh hb hl hK (zs' := zs.mergeSort fun x y => decide (x ≤ y)) (by simp) q os
  rw [hset] at h3
  exact ⟨_, _, S, ρ, _, h1, hQ, ⟨[], rfl, rfl⟩, h3.1, h3.2⟩
theorem compact_run {R0 : Go.Shelf.Ren} (L : Proofs.Lays2.n20 P R0) (he : Enters P (R0.f 20)) {h : List Blk} {b g n : Nat} {zs : List Int} (hn : n = zs.length) (hb : h[b]? = some (.run g 1 fun _ => isL zs)) (hsz : zs.length ≤ 9223372036854775807) (hle : (Lib.compact zs).length ≤ zs.length) {Q : AV → List Blk → Prop}
  (hQ : Q (.sl b g 1 (fun _ => 0) fun _ => (Lib.compact zs).length) (h.set b (.run g 1 fun _ => isL (Lib.compact zs ++ List.replicate (zs.length - (Lib.compact zs).length) 0)))) : SCalls P γ (R0.f 20) [.sl b g 1 (fun _ => 0) fun _ => n] h Q := by
 subst hn
 refine ⟨he, fun B S ρ w vals hh hargs => ?_⟩
 obtain ⟨v, _, rfl, hv, rfl⟩ := hargs
 have hv0 := hv
 obtain ⟨loc, a, cap, hl, rfl, hcap, hk⟩ := run_slice hh hb hv
 have hset : ρ.set b loc = ρ := by
  apply List.ext_getElem? ; intro i
  by_cases e : b = i
  ·subst e; rw [List.getElem?_set_self (List.getElem?_eq_some_iff.1 hl).1, hl]
  ·rw [List.getElem?_set_ne e]
 by_cases hz : zs.length = 0
 ·have hz : zs = [] := List.length_eq_zero_iff.1 hz
  subst hz
  have hs : h.set b (.run g 1 fun _ => isL []) = h := by
   apply List.ext_getElem? ; intro i
   by_cases e : b = i
   ·subst e; rw [List.getElem?_set_self (List.getElem?_eq_some_iff.1 hb).1, hb]
   ·rw [List.getElem?_set_ne e]
  have e : Lib.compact ([] : List Int) = [] := rfl
  rw [e] at hQ
  simp only [List.length_nil, Nat.sub_self, List.replicate_zero, List.append_nil] at hQ
  rw [hs] at hQ
  refine (Proofs.Any.slices_Compact_int_empty L a cap w).mono fun e w' ⟨h1, h2⟩ => ?_
  subst h2
  exact ⟨_, h, S, ρ, _, h1, hQ, hv0, hh, Ext.refl _ _ _ _⟩
 ·rcases hk with hk | ⟨K, hK, rfl⟩
  ·omega
  refine (Proofs.Any.slices_Compact_int L K 0 cap zs w (row_holds hh hb hl hK) hsz hcap).mono fun e w' ⟨h1, q, h2⟩ => ?_
  subst h2
  have h3 := row_upd hh hb hl hK (zs' := Lib.compact zs ++ List.replicate (zs.length - (Lib.compact zs).length) 0) (by rw [List.length_append, List.length_replicate]; omega) q #[]
  rw [hset, Sort.grow_empty] at h3
  refine ⟨_, _, S, ρ, _, h1, hQ, ?_, h3.1, h3.2⟩
  obtain ⟨l, loc', a', cap', e, k1, k2, k3, k4, k5, k6, k6', k7⟩ := hv0
  cases k5
  exact ⟨l, loc', _, cap, e, k1, k2, k3, k4, rfl, by show (Lib.compact zs).length ≤ cap; omega, k6', k7⟩
end
end Go.AL

namespace Go.Proofs
set_option maxRecDepth 100000
/-- the numbers of the library's contract here -/
def sort_ren : Go.Shelf.Ren := ⟨fun | 125 => 46 | 128 => 66 | 129 => 67 | 189 => 34 | 215 => 92 | 216 => 63 | 257 => 45 | 294 => 57 | 295 => 58 | 296 => 59 | 297 => 60 | 298 => 61 | 299 => 62 | 300 => 64 | 301 => 65 | 328 => 87 | 329 => 88 | 330 => 89 | 331 => 90 | 332 => 91 | 343 => 100 | n => n, fun | 0 => 0 | 3 => 3 | 4 => 4 | 5 => 5 | 9 => 9 | 28 => 50 | 46 => 90 | 51 => 108 | 53 => 98 | 131 => 105 | 182 => 100 | 183 => 101 | 218 => 124 | 222 => 128 | 228 => 131 | 229 => 132 | n => n, fun n => n⟩
theorem sort_lays : Lays.n189 Try.prog sort_ren where
 mixed := by kernel_rfl
 f125 := Try.func46.trans (congrArg some (by kernel_rfl))
 f128 := Try.func66.trans (congrArg some (by kernel_rfl))
 f129 := Try.func67.trans (congrArg some (by kernel_rfl))
 f189 := Try.func34.trans (congrArg some (by kernel_rfl))
 f215 := Try.func92.trans (congrArg some (by kernel_rfl))
 f216 := Try.func63.trans (congrArg some (by kernel_rfl))
 f257 := Try.func45.trans (congrArg some (by kernel_rfl))
 f294 := Try.func57.trans (congrArg some (by kernel_rfl))
 f295 := Try.func58.trans (congrArg some (by kernel_rfl))
 f296 := Try.func59.trans (congrArg some (by kernel_rfl))
 f297 := Try.func60.trans (congrArg some (by kernel_rfl))
 f298 := Try.func61.trans (congrArg some (by kernel_rfl))
 f299 := Try.func62.trans (congrArg some (by kernel_rfl))
 f300 := Try.func64.trans (congrArg some (by kernel_rfl))
 f301 := Try.func65.trans (congrArg some (by kernel_rfl))
 f328 := Try.func87.trans (congrArg some (by kernel_rfl))
 f329 := Try.func88.trans (congrArg some (by kernel_rfl))
 f330 := Try.func89.trans (congrArg some (by kernel_rfl))
 f331 := Try.func90.trans (congrArg some (by kernel_rfl))
 f332 := Try.func91.trans (congrArg some (by kernel_rfl))
 f343 := Try.func100.trans (congrArg some (by kernel_rfl))
 t0 := Try.underlying0
 a0 := Try.isAgg0
 z0 := Try.sizeOf0
 v0 := Try.zeroValue0
 t3 := Try.underlying3
 a3 := Try.isAgg3
 z3 := Try.sizeOf3
 v3 := Try.zeroValue3
 t4 := Try.underlying4
 a4 := Try.isAgg4
 z4 := Try.sizeOf4
 v4 := Try.zeroValue4
 t5 := Try.underlying5
 a5 := Try.isAgg5
 z5 := Try.sizeOf5
 v5 := Try.zeroValue5
 t9 := Try.underlying9
 a9 := Try.isAgg9
 z9 := Try.sizeOf9
 v9 := Try.zeroValue9
 t28 := Try.underlying50
 a28 := Try.isAgg50
 z28 := Try.sizeOf50
 v28 := Try.zeroValue50
 t46 := Try.underlying90
 a46 := Try.isAgg90
 z46 := Try.sizeOf90
 v46 := Try.zeroValue90
 t51 := Try.underlying108
 a51 := Try.isAgg108
 z51 := Try.sizeOf108
 v51 := Try.zeroValue108
 t53 := Try.underlying98
 a53 := Try.isAgg98
 z53 := Try.sizeOf98
 v53 := Try.zeroValue98
 t131 := Try.underlying105
 a131 := Try.isAgg105
 z131 := Try.sizeOf105
 v131 := Try.zeroValue105
 t182 := Try.underlying100
 a182 := Try.isAgg100
 z182 := Try.sizeOf100
 v182 := Try.zeroValue100
 t183 := Try.underlying101
 a183 := Try.isAgg101
 z183 := Try.sizeOf101
 v183 := Try.zeroValue101
 t218 := Try.underlying124
 a218 := Try.isAgg124
 z218 := Try.sizeOf124
 v218 := Try.zeroValue124
 t222 := Try.underlying128
 a222 := Try.isAgg128
 z222 := Try.sizeOf128
 v222 := Try.zeroValue128
 t228 := Try.underlying131
 a228 := Try.isAgg131
 z228 := Try.sizeOf131
 v228 := Try.zeroValue131
 t229 := Try.underlying132
 a229 := Try.isAgg132
 z229 := Try.sizeOf132
 v229 := Try.zeroValue132
/-- the numbers of the library's contract here -/
def comp_ren : Go.Shelf.Ren := ⟨fun | 20 => 35 | n => n, fun | 0 => 0 | 3 => 3 | 4 => 4 | 22 => 50 | n => n, fun n => n⟩
theorem comp_lays : Lays2.n20 Try.prog comp_ren where
 mixed := by kernel_rfl
 f20 := Try.func35.trans (congrArg some (by kernel_rfl))
 t0 := Try.underlying0
 a0 := Try.isAgg0
 z0 := Try.sizeOf0
 v0 := Try.zeroValue0
 t3 := Try.underlying3
 a3 := Try.isAgg3
 z3 := Try.sizeOf3
 v3 := Try.zeroValue3
 t4 := Try.underlying4
 a4 := Try.isAgg4
 z4 := Try.sizeOf4
 v4 := Try.zeroValue4
 t22 := Try.underlying50
 a22 := Try.isAgg50
 z22 := Try.sizeOf50
 v22 := Try.zeroValue50
 i3 := by kernel_rfl
end Go.Proofs

namespace Go.AL.Rl
open Go Go.AL Go.Proofs
set_option maxRecDepth 100000
set_option maxHeartbeats 3200000
variable {γ : Nat → Option AV}

def locP (v : RV) (p : Nat × Nat) : Int := (rAt v p.1).loc
def sortL (l : List Int) : List Int := l.mergeSort fun x y => decide (x ≤ y)
def locsV (v : RV) : List Int := Lib.compact (sortL ((racesV v).map (·.loc)))
/-- the heap of Locs while locations are put -/
def hpL (g : Gr) (v : RV) (n : Nat) (L : List Int) (l D : Nat) (oR oD : Obj) (s : Tr) (t : Array Value) : List Blk :=
 [.box (aGr g), .box (aRV v), .box (.sl 3 n 1 (fun _ => 0) fun _ => L.length), .run n 1 fun _ => is L, .obj D oD .nil #[], .obj l oR s t]
theorem allL_ok (g : Gr) (v : RV) (hv : RWf v) (hsm : v.ids.length ≤ 64) (l D : Nat) (oR oD : Obj) (s : Tr) (t : Array Value) (hT : leT 6 s s) (G : List (Nat × Nat) → Nat)
  (hy : ∀ (pre : List (Nat × Nat)) (a b : Nat), b < v.ids.length → a < b → oneM v a b = true → pre.length ≤ 4096 → YCall Try.prog γ l [.i fun _ => (a : Int), .i fun _ => (b : Int)] (hpL g v (G pre) (pre.map (locP v)) l D oR oD s t) (fun x h => x = .tt ∧ h = hpL g v (G (pre ++ [(a, b)])) ((pre ++ [(a, b)]).map (locP v)) l D oR oD s t)) :
  SCalls Try.prog γ 40 [.raw (.func (.yield l) #[] #[]), .vp (fun _ => aRV v) 0] (hpL g v (G []) [] l D oR oD s t) (Post (.tup []) (hpL g v (G (rpA v v.ids.length v.ids.length)) ((rpA v v.ids.length v.ids.length).map (locP v)) l D oR oD s t)) := by
 have h1 := hv.len
 have k1 := fun (a b : Nat) (ha : a < v.ids.length) (hb : b < v.ids.length) => rone_ok (γ := γ) v hv a b ha hb
 have lA := rpA_len v v.ids.length
 have lB := fun a => rpB_len v a v.ids.length
 obtain ⟨N, hN⟩ : ∃ N, N = v.ids.length := ⟨_, rfl⟩
 rw [← hN] at hsm hy k1 lA lB ⊢
 unfold aRV hpL at *
 generalize hI : v.ids = I at *
 generalize v.evs = Es at *
 generalize v.rows = Rw at *
 generalize v.sh = Sh at *
 generalize v.n = Vn at *
 have hT2 := hT
 cbv at hT2
 have hA0 : rpA v N 0 = [] := rfl
 have hAS := fun a => show rpA v N (a + 1) = rpA v N a ++ rpB v a N from rfl
 have hBS := fun a b => show rpB v a (b + 1) = rpB v a b ++ (if a < b ∧ oneM v a b = true then [(a, b)] else []) from rfl
 have hBl := rpB_low v
 have lAB : ∀ a b, a < N → b ≤ N → (rpA v N a ++ rpB v a b).length ≤ 4096 := fun a b ha hb => by
  have q1 := lA a
  have q2 := rpB_len v a b
  have q3 := Nat.mul_le_mul (show a ≤ 63 by omega) hsm
  rw [List.length_append]
  omega
 refine SCalls.go (ty := ty) ty_eq mo Try.func40 rfl Try.ntmps40 Try.results40 Try.call40 (by simp) fun P C CQ D W F E hF => ?_
 cbv
 skip
 repeat' (first
  |(refine ⟨fun _ h_s=>?_,fun _ h_s=>?_⟩<;>(cbv;(try simp only [nc] at *);try simp (disch:=(first|omega|(simp only [lnS];omega))) only [rdT,rdS,hT2,reduceCtorEq,trT] at h_s))
  |(refine hF ?_;intro _;clear hF)
  |(refine hF ?_;cbv;clear hF)
  |(refine ⟨fun _=>?_,?_⟩;(· ((try simp only [nc] at *);first|done|omega|exact ⟨by omega,rfl⟩|(simp (disch:=(first|omega|(simp only [lnS];omega))) only [rdT,rdS,hT2];first|done|omega|rfl|exact ⟨by omega,rfl⟩|(simp;done)|(simp;omega))|(intros;trivial)));(try (simp only [nc] at *));(try simp (disch:=(first|omega|(simp only [lnS];omega))) only [rdT,rdS,hT2]);(try cbv))
  | fail
 )
 refine E.loopS (ι:=Nat) (fun a=>a≤N) (fun a=>N - a) (fun a=>[(8,.i fun _=>((a : Nat) : Int))]) (fun a h=>(h.set 2 (.box (.sl 3 (G (rpA v N a)) 1 (fun _=>0) fun _=>((rpA v N a).map (locP v)).length))).set 3 (.run (G (rpA v N a)) 1 fun _=>is ((rpA v N a).map (locP v)))) 0 (fun _=>by first|rfl|simp) (Nat.zero_le _) ?_ fun a ha I1 hI1=>?_
 ·cbv; simp [hT2, hA0]
 cbv
 repeat' (first
  |(refine ⟨fun _ h_s=>?_,fun _ h_s=>?_⟩<;>(cbv;(try simp only [nc] at *);try simp (disch:=(first|omega|(simp only [lnS];omega))) only [rdT,rdS,hT2,reduceCtorEq,trT] at h_s))
  |(refine hF ?_;intro _;clear hF)
  |(refine hF ?_;cbv;clear hF)
  |(refine ⟨fun _=>?_,?_⟩;(· ((try simp only [nc] at *);first|done|omega|exact ⟨by omega,rfl⟩|(simp (disch:=(first|omega|(simp only [lnS];omega))) only [rdT,rdS,hT2];first|done|omega|rfl|exact ⟨by omega,rfl⟩|(simp;done)|(simp;omega))|(intros;trivial)));(try (simp only [nc] at *));(try simp (disch:=(first|omega|(simp only [lnS];omega))) only [rdT,rdS,hT2]);(try cbv))
  | fail
 )
 ·refine E.loopS (ι:=Nat) (fun b=>a + 1≤b∧b≤N) (fun b=>N - b) (fun b=>[(4,.i fun _=>((b : Nat) : Int))]) (fun b h=>(h.set 2 (.box (.sl 3 (G (rpA v N a ++ rpB v a b)) 1 (fun _=>0) fun _=>((rpA v N a ++ rpB v a b).map (locP v)).length))).set 3 (.run (G (rpA v N a ++ rpB v a b)) 1 fun _=>is ((rpA v N a ++ rpB v a b).map (locP v)))) (a + 1) (fun _=>by first|rfl|simp) ?_ ?_ fun b hb I2 hI2=>?_
  ·((try simp only [nc] at *); omega)
  ·cbv; simp [hT2, hBl]; exact w64_of (by omega) (by omega)
  cbv
  repeat' (first
   |(refine hI1 (a + 1) ?_ ?_ ?_;rotate_left 1;(· ((try simp only [nc] at *);omega));(cbv;clear hI1;(try clear hF);(try simp only [nc] at *);(try simp (disch:=(first|omega|(simp only [lnS];omega))) only [rdT,rdS,hT2,anT]));rotate_left 1;(try ((try simp only [nc] at *);omega)))
   |(refine hI2 (b + 1) ?_ ?_ ?_;rotate_left 1;(· ((try simp only [nc] at *);omega));(cbv;clear hI2;(try clear hF);(try simp only [nc] at *);(try simp (disch:=(first|omega|(simp only [lnS];omega))) only [rdT,rdS,hT2,anT]));rotate_left 1;(try ((try simp only [nc] at *);omega)))
   | (refine E.y (YCall.to (hy (rpA v N a ++ rpB v a b) a b (by ((try simp only [nc] at *); omega)) (by ((try simp only [nc] at *); omega)) (by assumption) (lAB a b (by ((try simp only [nc] at *); omega)) (by ((try simp only [nc] at *); omega)))) (by cbv) (by cbv; simp) (by cbv; simp [hT2]) ?_); cbv)
   |(refine E.c (SCalls.of_le (k1 a b (by ((try simp only [nc] at *);omega)) (by ((try simp only [nc] at *);omega))) ?_ ?_);(· (cbv;(try simp only [nc] at *);first|done|(simp;done)|(simp (disch:=(first|omega|(simp only [lnS];omega))) only [rdT,rdS,hT2,anT];first|done|omega|(refine ⟨?_,?_⟩<;>omega))|(simp (disch:=(first|omega|(simp only [lnS];omega))) [rdT,rdS,hT2];done)));cbv)
   |(refine ⟨fun _ h_s=>?_,fun _ h_s=>?_⟩<;>(cbv;(try simp only [nc] at *);try simp (disch:=(first|omega|(simp only [lnS];omega))) only [rdT,rdS,hT2,reduceCtorEq,trT] at h_s))
   |(refine hF ?_;intro _;clear hF)
   |(refine hF ?_;cbv;clear hF)
   |(refine ⟨fun _=>?_,?_⟩;(· ((try simp only [nc] at *);first|done|omega|exact ⟨by omega,rfl⟩|(simp (disch:=(first|omega|(simp only [lnS];omega))) only [rdT,rdS,hT2];first|done|omega|rfl|exact ⟨by omega,rfl⟩|(simp;done)|(simp;omega))|(intros;trivial)));(try (simp only [nc] at *));(try simp (disch:=(first|omega|(simp only [lnS];omega))) only [rdT,rdS,hT2]);(try cbv))
   | fail
  )
  ·have ho : oneM v a b = true := by assumption
   rw [hBS a b, if_pos ⟨by ((try simp only [nc] at *); omega), ho⟩, ← List.append_assoc]
   simp
  ·have ho : oneM v a b = false := by assumption
   rw [hBS a b, if_neg (by rw [ho]; simp), List.append_nil]
   simp
  ·have e : b = N := by ((try simp only [nc] at *); omega)
   subst e
   rw [hAS]
   simp
 ·have e : a = N := by ((try simp only [nc] at *); omega)
  subst e
  simp [hT2]
theorem allL_to (g : Gr) (v : RV) (hv : RWf v) (hsm : v.ids.length ≤ 64) (l D : Nat) (oR oD : Obj) (s : Tr) (t : Array Value) (hT : leT 6 s s) (G : List (Nat × Nat) → Nat)
  (hy : ∀ (pre : List (Nat × Nat)) (a b : Nat), b < v.ids.length → a < b → oneM v a b = true → pre.length ≤ 4096 → YCall Try.prog γ l [.i fun _ => (a : Int), .i fun _ => (b : Int)] (hpL g v (G pre) (pre.map (locP v)) l D oR oD s t) (fun x h => x = .tt ∧ h = hpL g v (G (pre ++ [(a, b)])) ((pre ++ [(a, b)]).map (locP v)) l D oR oD s t)) :
  SCalls Try.prog γ 40 [.raw (.func (.yield l) #[] #[]), .vp (fun _ => aRV v) 0] (hpL g v (G []) [] l D oR oD s t) (fun _ h => h = (hpL g v (G (rpA v v.ids.length v.ids.length)) ((rpA v v.ids.length v.ids.length).map (locP v)) l D oR oD s t)) := by
 have hT2 := hT
 cbv at hT2
 exact SCalls.to (allL_ok g v hv hsm l D oR oD s t hT G hy) rfl (Nat.le_refl _) (by cbv; simp) (by cbv; simp [hT2]) rfl
theorem sort_ok {h : List Blk} {b g : Nat} {zs : List Int} (hb : h[b]? = some (.run g 1 fun _ => is zs)) (hsz : zs.length ≤ 4096) {Q : AV → List Blk → Prop} (hQ : Q (.tup []) (h.set b (.run g 1 fun _ => is (sortL zs)))) :
  SCalls Try.prog γ 34 [.sl b g 1 (fun _ => 0) fun _ => zs.length] h Q := sort_run sort_lays Try.call34 hb (by omega) hQ
theorem compact_le (l : List Int) : (Lib.compact l).length ≤ l.length := by
 unfold Lib.compact Lib.compactUpTo
 rw [List.length_map]
 exact Nat.le_trans (List.length_filter_le _ _) (by simp)
theorem compact_ok {h : List Blk} {b g n : Nat} {zs : List Int} (hn : n = zs.length) (hb : h[b]? = some (.run g 1 fun _ => is zs)) (hsz : zs.length ≤ 4096) {Q : AV → List Blk → Prop}
  (hQ : Q (.sl b g 1 (fun _ => 0) fun _ => (Lib.compact zs).length) (h.set b (.run g 1 fun _ => is (Lib.compact zs ++ List.replicate (zs.length - (Lib.compact zs).length) 0)))) :
  SCalls Try.prog γ 35 [.sl b g 1 (fun _ => 0) fun _ => n] h Q := compact_run comp_lays Try.call35 hn hb (by omega) (compact_le zs) hQ
theorem racesV_len {v : RV} (hv : RWf v) : (racesV v).length ≤ 4096 := by
 have hl : v.ids.length ≤ 64 := by have := hv.big; have := hv.small; have := hv.sh; omega
 unfold racesV
 rw [List.length_map]
 exact Nat.le_trans (rpA_len _ _ _) (Nat.mul_le_mul hl hl)
end Go.AL.Rl

namespace Go.AL.Rl
open Go Go.AL Go.Proofs
set_option maxRecDepth 100000
set_option maxHeartbeats 3200000
variable {γ : Nat → Option AV}

theorem rlocs_ok (g : Gr) (hg : Rd g) : Pure Try.prog γ false 17 [aGr g] (.vs 1 fun _ => is (locsV (rvO g))) := by
 have kl := rlook_ok (γ := γ) g hg
 have hw := rvO_wf g
 generalize rvO g = v at *
 have hsm : v.ids.length ≤ 64 := by have := hw.big; have := hw.small; have := hw.sh; omega
 have ka := vall_ok (γ := γ) v
 have hrl := racesV_len hw
 unfold aRV at kl ka
 obtain ⟨rg, hrg⟩ : ∃ rg, rg = locsV v := ⟨_, rfl⟩
 rw [← hrg]
 refine Pure.goK (ty := ty) ty_eq mo Try.func17 rfl Try.ntmps17 Try.results17 Try.call17 (by simp) 4 (by kernel_rfl) fun P C CQ D W C2 CQ2 D2 F RQ E E2 hF hR => ?_
 cbv
 repeat' (first
  |(refine E.c (SCalls.of_le (ka) ?_ ?_);(· (cbv;(try simp only [nc] at *);first|done|(simp;done)|(simp (disch:=(first|omega|(simp only [lnS];omega))) only [rdT,rdS,anT];first|done|omega|(refine ⟨?_,?_⟩<;>omega))|(simp (disch:=(first|omega|(simp only [lnS];omega))) [rdT,rdS];done)));cbv)
  |(refine E.c (SCalls.of_le (kl) ?_ ?_);(· (cbv;(try simp only [nc] at *);first|done|(simp;done)|(simp (disch:=(first|omega|(simp only [lnS];omega))) only [rdT,rdS,anT];first|done|omega|(refine ⟨?_,?_⟩<;>omega))|(simp (disch:=(first|omega|(simp only [lnS];omega))) [rdT,rdS];done)));cbv)
  |(refine ⟨fun _ h_s=>?_,fun _ h_s=>?_⟩<;>(cbv;(try simp only [nc] at *);try simp (disch:=(first|omega|(simp only [lnS];omega))) only [rdT,rdS,reduceCtorEq,trT] at h_s))
  |(refine hF ?_;intro _;clear hF)
  |(refine hF ?_;cbv;clear hF)
  |(refine ⟨fun _=>?_,?_⟩;(· ((try simp only [nc] at *);first|done|omega|exact ⟨by omega,rfl⟩|(simp (disch:=(first|omega|(simp only [lnS];omega))) only [rdT,rdS];first|done|omega|rfl|exact ⟨by omega,rfl⟩|(simp;done)|(simp;omega))|(intros;trivial)));(try (simp only [nc] at *));(try simp (disch:=(first|omega|(simp only [lnS];omega))) only [rdT,rdS]);(try cbv))
  |(refine E.d 8 (by decide +kernel) ?_;cbv;(fail_if_success guard_target =~ False))
  | fail
 )
 obtain ⟨G, hG⟩ : ∃ G : List (Nat × Nat) → Nat, ∀ l, G l = l.length := ⟨_, fun _ => rfl⟩
 have hG0 : G [] = 0 := by rw [hG]; rfl
 have hGS : ∀ l x, G (l ++ [x]) = G l + 1 := fun l x => by rw [hG, hG]; simp
 refine hR ⟨_, _, _, Step.ghostBox 2 1 rfl, rfl, by cbv, fun l D t oR oB oX oE oEX oD oD' hY => ?_⟩
 refine SCalls.mono (h := hpL g v 0 [] l D oR oD _ t) (hG0 ▸ allL_to g v hw hsm l D oR oD _ t ?a G fun pre a b hb hab ho hp => hY _ _ _ rfl rfl ?b) fun _ h' hh' => .inl ?c
 case a => cbv; simp
 case c =>
  have e : (racesV v).map (·.loc) = (rpA v v.ids.length v.ids.length).map (locP v) := by unfold racesV; rw [List.map_map]; rfl
  unfold locsV at hrg
  rw [e] at hrg
  have hrl2 : ((rpA v v.ids.length v.ids.length).map (locP v)).length ≤ 4096 := by rw [← e, List.length_map]; exact hrl
  generalize rpA v v.ids.length v.ids.length = L at *
  generalize L.map (locP v) = M at *
  subst hh'
  have hs1 : (sortL M).length = M.length := by unfold sortL; simp
  have hs2 := compact_le (sortL M)
  cbv
  refine E2.c (sort_ok (b := 3) (zs := M) rfl hrl2 ?_)
  generalize sortL M = M2 at *
  cbv
  refine E2.c (compact_ok (b := 3) (zs := M2) hs1.symm rfl (by omega) ?_)
  generalize Lib.compact M2 = M3 at *
  subst hrg
  cbv
  repeat' (first
   |(refine ⟨fun _ h_s=>?_,fun _ h_s=>?_⟩<;>(cbv;(try simp only [nc] at *);try simp (disch:=(first|omega|(simp only [lnS];omega))) only [rdT,rdS,reduceCtorEq,trT] at h_s))
   |(refine hF ?_;intro _;clear hF)
   |(refine hF ?_;cbv;clear hF)
   |(refine ⟨fun _=>?_,?_⟩;(· ((try simp only [nc] at *);first|done|omega|exact ⟨by omega,rfl⟩|(simp (disch:=(first|omega|(simp only [lnS];omega))) only [rdT,rdS];first|done|omega|rfl|exact ⟨by omega,rfl⟩|(simp;done)|(simp;omega))|(intros;trivial)));(try (simp only [nc] at *));(try simp (disch:=(first|omega|(simp only [lnS];omega))) only [rdT,rdS]);(try cbv))
   |(refine E.d 8 (by decide +kernel) ?_;cbv;(fail_if_success guard_target =~ False))
   | fail
  )
  simp
  rw [← is_app]
  exact List.take_left' (by simp)
 case b =>
  have e1 := hw.len
  have e3 : pre.map (locP v) ++ [locP v (a, b)] = (pre ++ [(a, b)]).map (locP v) := by simp
  have e4 := hGS pre (a, b)
  have e5 : pre.length = (pre.map (locP v)).length := by simp
  have e6 : locP v (a, b) = (rAt v a).loc := rfl
  have e7 := hG pre
  rw [← e3, e4]
  rw [e5] at hp e7
  obtain ⟨P2, hP2⟩ : ∃ P2, P2 = pre.map (locP v) ++ [locP v (a, b)] := ⟨_, rfl⟩
  rw [← hP2]
  generalize pre.map (locP v) = Pr at *
  generalize G pre = gp at *
  cbv
  refine E2.d 8 (by decide +kernel) ?_
  cbv
  repeat' (first
   |(refine ⟨fun _ h_s=>?_,fun _ h_s=>?_⟩<;>(cbv;(try simp only [nc] at *);try simp (disch:=(first|omega|(simp only [lnS];omega))) only [rdT,rdS,reduceCtorEq,trT] at h_s))
   |(refine hF ?_;intro _;clear hF)
   |(refine hF ?_;cbv;clear hF)
   |(refine ⟨fun _=>?_,?_⟩;(· ((try simp only [nc] at *);first|done|omega|exact ⟨by omega,rfl⟩|(simp (disch:=(first|omega|(simp only [lnS];omega))) only [rdT,rdS];first|done|omega|rfl|exact ⟨by omega,rfl⟩|(simp;done)|(simp;omega))|(intros;trivial)));(try (simp only [nc] at *));(try simp (disch:=(first|omega|(simp only [lnS];omega))) only [rdT,rdS]);(try cbv))
   |(refine E.d 8 (by decide +kernel) ?_;cbv;(fail_if_success guard_target =~ False))
   | fail
  )
  refine ⟨fun _ => ⟨trivial, trivial, by simp, by simp; omega, by simp; omega, by simp [AV.flat, AV.cells, AV.one, setAll, AV.nrm, nrms, nrm1]⟩, ?_⟩
  simp [hP2, e6, is, setAll, AV.nrm, nrms, nrm1, rAt, ev0, id0]
end Go.AL.Rl

namespace Go.AL.Rl
open Go Go.AL Go.Proofs
set_option maxRecDepth 100000
set_option maxHeartbeats 1600000

theorem sortL_le (l : List Int) : (sortL l).Pairwise (· ≤ ·) := by
 unfold sortL
 have := List.pairwise_mergeSort (le := fun x y : Int => decide (x ≤ y)) (fun a b c h1 h2 => by simp at *; omega) (fun a b => by simp; omega) l
 exact this.imp fun h => by simpa using h
theorem sortL_mem {l : List Int} {x : Int} : x ∈ sortL l ↔ x ∈ l := by unfold sortL; exact List.mem_mergeSort
theorem compact_lt {l : List Int} (h : l.Pairwise (· ≤ ·)) : (Lib.compact l).Pairwise (· < ·) := by
 unfold Lib.compact Lib.compactUpTo
 rw [List.pairwise_map]
 have hr : (List.range l.length).Pairwise (· < ·) := List.pairwise_lt_range
 have hf := hr.filter (Lib.keeps l.toArray)
 refine List.Pairwise.imp_of_mem (fun {i j} hi hj hij => ?_) hf
 rw [List.mem_filter, List.mem_range] at hi hj
 have hjl := hj.1
 have h1 : l[j - 1]'(by omega) ≤ l[j] := by
  rcases Nat.eq_or_lt_of_le (show j - 1 ≤ j by omega) with e | e
  ·omega
  ·exact List.pairwise_iff_getElem.1 h (j - 1) j _ _ e
 have h2 : l[i]'(by omega) ≤ l[j - 1]'(by omega) := by
  rcases Nat.eq_or_lt_of_le (show i ≤ j - 1 by omega) with e | e
  ·simp only [e]; exact Int.le_refl _
  ·exact List.pairwise_iff_getElem.1 h i (j - 1) _ _ e
 have h3 : l[j] ≠ l[j - 1]'(by omega) := by
  have := hj.2
  unfold Lib.keeps at this
  rw [decide_eq_true_eq] at this
  rcases this with e | e
  ·omega
  ·simpa [hjl, show j - 1 < l.length by omega] using e
 have e1 : l.toArray[i]! = l[i]'(by omega) := by simp [show i < l.length by omega]
 have e2 : l.toArray[j]! = l[j] := by simp [hjl]
 rw [e1, e2]
 omega
theorem compact_mem {l : List Int} {x : Int} : x ∈ Lib.compact l ↔ x ∈ l := by
 unfold Lib.compact Lib.compactUpTo
 rw [List.mem_map]
 constructor
 ·rintro ⟨j, hj, rfl⟩
  rw [List.mem_filter, List.mem_range] at hj
  simp [hj.1]
 ·intro hx
  have key : ∀ n, n < l.length → l.getD n 0 = x → ∃ j, j < l.length ∧ l.getD j 0 = x ∧ (j = 0 ∨ l.getD (j - 1) 0 ≠ x) := by
   intro n
   induction n with
   | zero => intro h1 h2; exact ⟨0, h1, h2, .inl rfl⟩
   | succ n ih =>
    intro h1 h2
    by_cases e : l.getD n 0 = x
    ·exact ih (by omega) e
    ·exact ⟨n + 1, h1, h2, .inr e⟩
  obtain ⟨n, hn, he⟩ := List.getElem_of_mem hx
  obtain ⟨j, h1, h2, h3⟩ := key n hn (by simp [hn, he])
  have e1 : l.toArray[j]! = l.getD j 0 := by simp [h1]
  refine ⟨j, ?_, e1.trans h2⟩
  rw [List.mem_filter, List.mem_range]
  refine ⟨h1, ?_⟩
  unfold Lib.keeps
  rw [decide_eq_true_eq]
  rcases h3 with h3 | h3
  ·exact .inl h3
  ·rcases Nat.eq_zero_or_pos j with h4 | h4
   ·exact .inl h4
   ·right
    rw [e1, h2]
    have e2 : l.toArray[j - 1]! = l.getD (j - 1) 0 := by simp [show j - 1 < l.length by omega]
    rw [e2]
    exact fun e => h3 e.symm
theorem locsV_lt (v : RV) : (locsV v).Pairwise (· < ·) := compact_lt (sortL_le _)
theorem locsV_mem {v : RV} {x : Int} : x ∈ locsV v ↔ ∃ r ∈ racesV v, r.loc = x := by
 unfold locsV
 rw [compact_mem, sortL_mem, List.mem_map]
/-- rising lists of the same things are one -/
theorem rising_eq : ∀ {a b : List Int}, a.Pairwise (· < ·) → b.Pairwise (· < ·) → (∀ x, x ∈ a ↔ x ∈ b) → a = b
 | [], [], _, _, _ => rfl
 | [], y :: b, _, _, h => by have := (h y).2 (by simp); cases this
 | x :: a, [], _, _, h => by have := (h x).1 (by simp); cases this
 | x :: a, y :: b, ha, hb, h => by
  rw [List.pairwise_cons] at ha hb
  have h1 := (h x).1 (by simp)
  have h2 := (h y).2 (by simp)
  have e : x = y := by
   rcases List.mem_cons.1 h1 with e | h1
   ·exact e
   ·rcases List.mem_cons.1 h2 with e | h2
    ·exact e.symm
    ·have := hb.1 x h1; have := ha.1 y h2; omega
  subst e
  rw [rising_eq ha.2 hb.2 fun z => ?_]
  have h3 := h z
  rw [List.mem_cons, List.mem_cons] at h3
  constructor
  ·intro hz
   rcases h3.1 (.inr hz) with e | e
   ·have := ha.1 z hz; omega
   ·exact e
  ·intro hz
   rcases h3.2 (.inr hz) with e | e
   ·have := hb.1 z hz; omega
   ·exact e
theorem locsV_eq {v w : RV} (h : ∀ x, (∃ r ∈ racesV v, r.loc = x) ↔ ∃ r ∈ racesV w, r.loc = x) : locsV v = locsV w :=
 rising_eq (locsV_lt v) (locsV_lt w) fun x => by rw [locsV_mem, locsV_mem]; exact h x
theorem locsV_len (v : RV) (hv : RWf v) : (locsV v).length ≤ 4096 := by
 have h1 := racesV_len hv
 have h2 := compact_le (sortL ((racesV v).map (·.loc)))
 have h3 : (sortL ((racesV v).map (·.loc))).length = (racesV v).length := by unfold sortL; simp
 unfold locsV
 omega
end Go.AL.Rl

namespace Go.AL.Rl
open Go Go.AL Go.Proofs
set_option maxRecDepth 100000
set_option maxHeartbeats 1600000

structure Wke (a b : Ev) : Prop where
 kind : b.kind = a.kind
 loc : b.loc = a.loc
 rd : b.rd = a.rd
 wr : b.wr = a.wr
 ord : 1 ≤ a.order → a.order ≤ 6 → 1 ≤ b.order ∧ b.order ≤ 6
 acq : acqM b = true → acqM a = true
 rel : relM b = true → relM a = true
 na : b.order ≠ 1 → a.order ≠ 1
theorem Wke.refl (a : Ev) : Wke a a := ⟨rfl, rfl, rfl, rfl, fun h k => ⟨h, k⟩, id, id, id⟩
theorem Wke.reads {a b : Ev} (h : Wke a b) : readsM b = readsM a := by unfold readsM; rw [h.kind]
theorem Wke.writes {a b : Ev} (h : Wke a b) : writesM b = writesM a := by unfold writesM; rw [h.kind]
theorem Wke.fence {a b : Ev} (h : Wke a b) : fenceM b = fenceM a := by unfold fenceM; rw [h.kind]
structure Wk (g h : Gr) : Prop where
 init : h.init = g.init
 fr : h.fr = g.fr
 ord : h.ord = g.ord
 len : h.th.length = g.th.length
 lens : ∀ t, (h.th.getD t []).length = (g.th.getD t []).length
 evs : ∀ t i, Wke ((g.th.getD t []).getD i ev0) ((h.th.getD t []).getD i ev0)
section
variable {g h : Gr} (W : Wk g h)
include W
end
end Go.AL.Rl

namespace Go.AL.Rl
open Go Go.AL Go.Proofs
set_option maxRecDepth 100000
set_option maxHeartbeats 1600000

structure Ske (a b : Ev) : Prop where
 kind : b.kind = a.kind
 loc : b.loc = a.loc
 rd : b.rd = a.rd
 wr : b.wr = a.wr
 ord : 1 ≤ a.order → a.order ≤ 6 → 1 ≤ b.order ∧ b.order ≤ 6
theorem Ske.refl (a : Ev) : Ske a a := ⟨rfl, rfl, rfl, rfl, fun h k => ⟨h, k⟩⟩
theorem Ske.reads {a b : Ev} (h : Ske a b) : readsM b = readsM a := by unfold readsM; rw [h.kind]
theorem Ske.writes {a b : Ev} (h : Ske a b) : writesM b = writesM a := by unfold writesM; rw [h.kind]
theorem Ske.fence {a b : Ev} (h : Ske a b) : fenceM b = fenceM a := by unfold fenceM; rw [h.kind]
structure Sk (g h : Gr) : Prop where
 init : h.init = g.init
 fr : h.fr = g.fr
 ord : h.ord = g.ord
 len : h.th.length = g.th.length
 lens : ∀ t, (h.th.getD t []).length = (g.th.getD t []).length
 evs : ∀ t i, Ske ((g.th.getD t []).getD i ev0) ((h.th.getD t []).getD i ev0)
section
variable {g h : Gr} (W : Sk g h)
include W
end

/-- behind the i-th event of the t-th thread -/
structure NSt (g : Gr) (t i : Nat) (thr : List Int) (wr sv : List Bool) : Prop where
 l1 : thr.length = g.init.length
 l2 : wr.length = g.init.length
 l3 : sv.length = g.init.length
 w : ∀ s k, (s < t ∨ s = t ∧ k < i) → s < g.th.length → k < (g.th.getD s []).length → ((g.th.getD s []).getD k ev0).kind ≠ 4 → ((g.th.getD s []).getD k ev0).kind ≠ 1 → wr.getD ((g.th.getD s []).getD k ev0).loc.toNat false = true
 s : ∀ s k, (s < t ∨ s = t ∧ k < i) → s < g.th.length → k < (g.th.getD s []).length → ((g.th.getD s []).getD k ev0).kind ≠ 4 → sv.getD ((g.th.getD s []).getD k ev0).loc.toNat false = true ∨ thr.getD ((g.th.getD s []).getD k ev0).loc.toNat 0 = (s : Int) + 1
end Go.AL.Rl

namespace Go.AL.Rl
open Go Go.AL Go.Proofs
set_option maxRecDepth 100000
set_option maxHeartbeats 3200000
variable {γ : Nat → Option AV}

structure RcOk (g : Gr) (r : Rc) : Prop where
 thr : r.a.t ≠ r.b.t
 ord : ((eventM g r.a).getD ev0).order = 1 ∨ ((eventM g r.b).getD ev0).order = 1
 kind : ((eventM g r.a).getD ev0).kind ≠ 1 ∨ ((eventM g r.b).getD ev0).kind ≠ 1
end Go.AL.Rl

namespace Go.AL.Rl
open Go Go.AL Go.Proofs
set_option maxRecDepth 100000
set_option maxHeartbeats 3200000
variable {γ : Nat → Option AV}

end Go.AL.Rl

namespace Go.AL.Rl
open Go Go.AL Go.Proofs
set_option maxRecDepth 100000
set_option maxHeartbeats 3200000
variable {γ : Nat → Option AV}

end Go.AL.Rl

namespace Go.AL
open Go Go.RowKit
section
variable {P : Program} {γ : Nat → Option AV}
/-- a block that is cut within; what stands behind it is left alone -/
theorem AWPl.blockK {n id : Nat} {c : Code} {r : List Code} {Q : Exit → St → Prop} {A : St} (h : ∀ J : St → Prop, (∀ {A'}, AWPl P γ n r Q A' → J A') → AWPl P γ n (citems c) (inBlk id (thenE J Q)) A) : AWPl P γ n (.block id c :: r) Q A :=
 AWPl.block (h (fun A => AWPl P γ n r Q A) fun h => h)
end
end Go.AL
namespace Go.AL.Rl
open Go Go.AL Go.Proofs
set_option maxRecDepth 100000
set_option maxHeartbeats 3200000
variable {γ : Nat → Option AV}

end Go.AL.Rl
