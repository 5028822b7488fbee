import Derived.WalkKit
import Derived.ChangeKeysEq
import Derived.Laws.StructEq
import Derived.WideKeyRuns
set_option linter.unusedVariables false
set_option linter.unusedSimpArgs false
/-
  A LOGIC OVER ABSTRACT STATES,1: abstract values,slots,blocks;what it is that a value of the machine is related to an abstract one.
-/
namespace Go.AL
open Go
mutual
inductive AV where
 | any | undef
 | tt | ff | b (x:Unit→Bool)
 | lit (n:Int) | i (n:Unit→Int) | u (x:Unit→BitVec 64) | raw (v:Value)
 | ptr (b off:Nat)
 | hp (b g:Nat) (i:Unit→Nat) (off:Nat)
 | sl (b g k:Nat) (off len:Unit→Nat)
 | mp (b:Nat)
 | np | nils
 | vp (v:Unit→AV) (off:Nat)
 | vs (k:Nat) (es:Unit→LV)
 | v1 (x:AV)
 | vm (ks vs:Unit→LV)
 | agg (cs:List AV) | tup (cs:List AV)
 | fn (f:Nat) (first cap:List AV)
inductive LV where
 | nil
 | cons (v:AV) (l:LV)
end
instance:Inhabited AV:=⟨.any⟩
def LV.l:LV→List AV
 | .nil=>[]
 | .cons v l=>v :: l.l
def LV.of:List AV→LV
 | []=>.nil
 | v :: l=>.cons v (LV.of l)
@[simp] theorem LV.l_of (l:List AV):(LV.of l).l=l:=by induction l<;>simp_all [LV.l,LV.of]
@[simp] theorem LV.of_l (l:LV):LV.of l.l=l:=by
 match l with
 | .nil=>rfl
 | .cons v l=>simp [LV.l,LV.of,LV.of_l l]
def AV.cells:AV→List AV
 | .agg cs=>cs
 | v=>[v]
def AV.one:AV→Bool
 | .any | .undef | .agg _ | .tup _=>false
 | .raw v=>v.oneCell'
 | _=>true
def AV.flat (v:AV):Bool:=v.cells.all AV.one
inductive Tr where
 | nil
 | node (v:AV) (l r:Tr)
def Tr.get:Tr→Nat→AV
 | .nil,_=>.undef
 | .node v l r,n=>if n=0 then v else if n % 2=1 then l.get (n / 2) else r.get (n / 2-1)
def Tr.set':Nat→Tr→Nat→AV→Tr
 | 0,t,_,_=>t
 | f+1,.nil,n,v=>if n=0 then .node v .nil .nil else if n % 2=1 then .node .undef (Tr.set' f .nil (n / 2) v) .nil else .node .undef .nil (Tr.set' f .nil (n / 2-1) v)
 | f+1,.node x l r,n,v=>if n=0 then .node v l r else if n % 2=1 then .node x (l.set' f (n / 2) v) r else .node x l (r.set' f (n / 2-1) v)
theorem Tr.get_set':∀ (f:Nat) (t:Tr) (n m:Nat) (v:AV),n+1<2 ^ f→(t.set' f n v).get m=if m=n then v else t.get m:=by
 intro f
 induction f with
 | zero=>intro t n m v h;simp at h
 | succ f ih=>
  intro t n m v h
  rw [Nat.pow_succ] at h
  cases t with
  | nil=>
   unfold Tr.set'
   by_cases h0:n=0
   ·subst h0;by_cases hm:m=0<;>simp [Tr.get,hm]
   ·rw [if_neg h0]
    by_cases h1:n % 2=1
    ·rw [if_pos h1];simp only [Tr.get];rw [ih _ _ _ _ (by omega)]
     by_cases hm:m=0
     ·subst hm;simp [Ne.symm h0]
     ·by_cases hm1:m % 2=1
      ·simp only [hm,hm1,if_false,if_true,Tr.get];by_cases e:m=n
       ·subst e;simp
       ·rw [if_neg e,if_neg (by omega)]
      ·simp only [hm,hm1,if_false];rw [if_neg (by intro e;subst e;exact hm1 h1)]
    ·rw [if_neg h1];simp only [Tr.get];rw [ih _ _ _ _ (by omega)]
     by_cases hm:m=0
     ·subst hm;simp [Ne.symm h0]
     ·by_cases hm1:m % 2=1
      ·simp only [hm,hm1,if_false,if_true];rw [if_neg (by intro e;subst e;exact h1 hm1)]
      ·simp only [hm,hm1,if_false,Tr.get];by_cases e:m=n
       ·subst e;simp
       ·rw [if_neg e,if_neg (by omega)]
  | node x l r=>
   unfold Tr.set'
   by_cases h0:n=0
   ·subst h0;by_cases hm:m=0<;>simp [Tr.get,hm]
   ·rw [if_neg h0]
    by_cases h1:n % 2=1
    ·rw [if_pos h1];simp only [Tr.get];rw [ih _ _ _ _ (by omega)]
     by_cases hm:m=0
     ·subst hm;simp [Ne.symm h0]
     ·by_cases hm1:m % 2=1
      ·simp only [hm,hm1,if_false,if_true];by_cases e:m=n
       ·subst e;simp
       ·rw [if_neg e,if_neg (by omega)]
      ·simp only [hm,hm1,if_false];rw [if_neg (by intro e;subst e;exact hm1 h1)]
    ·rw [if_neg h1];simp only [Tr.get];rw [ih _ _ _ _ (by omega)]
     by_cases hm:m=0
     ·subst hm;simp [Ne.symm h0]
     ·by_cases hm1:m % 2=1
      ·simp only [hm,hm1,if_false,if_true];rw [if_neg (by intro e;subst e;exact h1 hm1)]
      ·simp only [hm,hm1,if_false];by_cases e:m=n
       ·subst e;simp
       ·rw [if_neg e,if_neg (by omega)]
inductive Blk where
 | any
 | box (v:AV)
 | run (g k:Nat) (es:Unit→LV)
 | map (ks vs:Unit→LV)
 | ghost
 /-- a run of runs, all owned; where there is a hole, the element lies in another block -/
 | nest (g k:Nat) (ess:Unit→List LV) (hole:Option ((Unit→Nat) × AV))
 /-- a machine's object of its own kind, with slots that are kept by it -/
 | obj (K:Nat) (o:Obj) (s:Tr) (tmps:Array Value)
structure Loc where
 box:Bool
 g:Nat
 /-- the machine's block -/
 k:Option Nat
 /-- cells of an element -/
 e:Nat
 /-- cells of the machine's block -/
 size:Nat
 /-- the machine's blocks of inner runs -/
 sub:List (Option Nat)
structure St where
 n:Nat
 s:Tr
 h:List Blk
def St.put (A:St) (d:Option Tmp) (v:AV):St:=
 match d with
 | some d=>if d<A.n then ⟨A.n,A.s.set' 10 d v,A.h⟩ else A
 | none=>A
def Holds (S:Nat→Prop) (w:World) (a:Option Addr) (k:Nat) (evs:List Value):Prop:=
 evs=[]∨∃ ad,a=some ad∧ad.spot=none∧S ad.block ∧
  ∀ i e,evs[i]?=some e→e.cells.size=k∧∀ j c,e.cells[j]?=some c→w.cell? ⟨ad.block,ad.off+(i * k+j),none⟩=some c
mutual
def R (S:Nat→Prop) (w:World):Option (List Loc)→AV→Value→Prop
 | _,.any,_=>True
 | _,.undef,v=>v=Go.undef
 | _,.tt,v=>v=.bool true
 | _,.ff,v=>v=.bool false
 | _,.b x,v=>v=.bool (x ())
 | _,.lit n,v=>v=.int .i64 n
 | _,.i n,v=>v=.int .i64 (n ())
 | _,.u x,v=>v=.int .u64 ((x ()).toNat:Nat)
 | _,.raw x,v=>v=x
 | ρ,.ptr b off,v=>∃ l loc K,ρ=some l∧l[b]?=some loc∧loc.box=true∧loc.k=some K∧v=.pointer (some ⟨K,off,none⟩)
 | ρ,.hp b g i off,v=>∃ l loc ab ao,ρ=some l∧l[b]?=some loc∧loc.box=false∧g≤loc.g∧v=.pointer (some ⟨ab,ao,none⟩) ∧
   (loc.g=g→loc.k=some ab∧ao=i () * loc.e+off∧(i ()+1) * loc.e≤loc.size)
 | ρ,.sl b g k off len,v=>∃ l loc a cap,ρ=some l∧l[b]?=some loc∧loc.box=false∧loc.e=k∧g≤loc.g∧v=.slice a (len ()) cap∧len ()≤cap∧(cap=0∨∃ ab ao,a=some ⟨ab,ao,none⟩) ∧
   (loc.g=g→(loc.k=none∧cap=0∧off ()=0)∨∃ K,loc.k=some K∧(cap=0∨a=some ⟨K,off () * loc.e,none⟩)∧(off ()+cap) * loc.e≤loc.size)
 | ρ,.mp b,v=>∃ l loc K,ρ=some l∧l[b]?=some loc∧loc.box=true∧loc.k=some K∧v=.map (some K)
 | _,.np,v=>v=.pointer none
 | _,.nils,v=>∃ a,v=.slice a 0 0
 | _,.vp x off,v=>∃ (a:Addr) (xv:Value),v=.pointer (some ⟨a.block,a.off+off,none⟩)∧R S w none (x ()) xv∧S a.block ∧
   ∀ j c,xv.cells[j]?=some c→w.cell? ⟨a.block,a.off+j,none⟩=some c
 | _,.vs k es,v=>∃ a cap evs,v=.slice a evs.length cap∧evs.length≤cap∧RL S w (es ()) evs∧Holds S w a k evs
 | ρ,.v1 x,v=>∃ (ab ao cap:Nat) (xv:Value),v=.slice (some ⟨ab,ao,none⟩) 1 cap∧1≤cap∧S ab∧xv.oneCell'=true∧w.cell? ⟨ab,ao,none⟩=some xv∧R S w ρ x xv
 | _,.vm ks vs,v=>∃ K kv vv ent clock,v=.map (some K)∧S K∧w.heap[K]?=some (.map ent clock)∧RL S w (ks ()) kv∧RL S w (vs ()) vv ∧
   ent.toList.map (·.key)=kv∧ent.toList.map (·.val)=vv
 | ρ,.agg cs,v=>∃ vals,v=.agg vals.toArray∧Rs S w ρ cs vals
 | ρ,.tup cs,v=>∃ vals,v=.tuple vals.toArray∧Rs S w ρ cs vals
 | ρ,.fn f first cap,v=>∃ fv cv,v=.func (.func f) fv.toArray cv.toArray∧Rs S w ρ first fv∧Rs S w ρ cap cv
def Rs (S:Nat→Prop) (w:World):Option (List Loc)→List AV→List Value→Prop
 | _,[],vals=>vals=[]
 | ρ,c :: cs,vals=>∃ x xs,vals=x :: xs∧R S w ρ c x∧Rs S w ρ cs xs
def RL (S:Nat→Prop) (w:World):LV→List Value→Prop
 | .nil,vals=>vals=[]
 | .cons c cs,vals=>∃ x xs,vals=x :: xs∧R S w none c x∧RL S w cs xs
end
end Go.AL
namespace Go.AL
open Go
theorem RL_iff (S:Nat→Prop) (w:World) (l:LV) (vals:List Value):RL S w l vals↔Rs S w none l.l vals:=by
 match l with
 | .nil=>simp [RL,Rs,LV.l]
 | .cons c cs=>simp only [RL,Rs,LV.l];constructor<;>(rintro ⟨x,xs,h1,h2,h3⟩;exact ⟨x,xs,h1,h2,by first | exact (RL_iff S w cs xs).1 h3 | exact (RL_iff S w cs xs).2 h3⟩)
section
variable {S:Nat→Prop} {w:World} {ρ:Option (List Loc)}
theorem Rs_len {cs:List AV} {vals:List Value} (h:Rs S w ρ cs vals):vals.length=cs.length:=by
 induction cs generalizing vals with
 | nil=>simp [Rs] at h;simp [h]
 | cons c cs ih=>simp only [Rs] at h;obtain ⟨x,xs,rfl,_,h3⟩:=h;simp [ih h3]
theorem Rs_iff {cs:List AV} {vals:List Value}:Rs S w ρ cs vals↔vals.length=cs.length∧∀ (i:Nat) (c:AV) (v:Value),cs[i]?=some c→vals[i]?=some v→R S w ρ c v:=by
 induction cs generalizing vals with
 | nil=>simp [Rs]
 | cons c cs ih=>
  simp only [Rs]
  constructor
  ·rintro ⟨x,xs,rfl,h2,h3⟩
   obtain ⟨h4,h5⟩:=ih.1 h3
   refine ⟨by simp [h4],fun i c' v hc hv=>?_⟩
   cases i with
   | zero=>simp at hc hv;subst hc;subst hv;exact h2
   | succ i=>exact h5 i c' v (by simpa using hc) (by simpa using hv)
  ·rintro ⟨h1,h2⟩
   cases vals with
   | nil=>simp at h1
   | cons x xs=>
    exact ⟨x,xs,rfl,h2 0 c x rfl rfl,ih.2 ⟨by simpa using h1,fun i c' v hc hv=>h2 (i+1) c' v (by simpa using hc) (by simpa using hv)⟩⟩
theorem Rs_get {cs:List AV} {vals:List Value} (h:Rs S w ρ cs vals) {i:Nat} {c:AV} (hc:cs[i]?=some c):∃ v,vals[i]?=some v∧R S w ρ c v:=by
 obtain ⟨h1,h2⟩:=Rs_iff.1 h
 obtain ⟨hi,rfl⟩:=List.getElem?_eq_some_iff.1 hc
 have:i<vals.length:=by omega
 exact ⟨vals[i],List.getElem?_eq_getElem this,h2 i _ _ hc (List.getElem?_eq_getElem this)⟩
theorem Rs_get' {cs:List AV} {vals:List Value} (h:Rs S w ρ cs vals) {i:Nat} {v:Value} (hv:vals[i]?=some v):∃ c,cs[i]?=some c∧R S w ρ c v:=by
 obtain ⟨h1,h2⟩:=Rs_iff.1 h
 obtain ⟨hi,rfl⟩:=List.getElem?_eq_some_iff.1 hv
 have:i<cs.length:=by omega
 exact ⟨cs[i],List.getElem?_eq_getElem this,h2 i _ _ (List.getElem?_eq_getElem this) hv⟩
theorem Rs_append {cs ds:List AV} {vals ws:List Value} (h:Rs S w ρ cs vals) (k:Rs S w ρ ds ws):Rs S w ρ (cs++ds) (vals++ws):=by
 induction cs generalizing vals with
 | nil=>simp [Rs] at h;subst h;simpa using k
 | cons c cs ih=>simp only [Rs] at h;obtain ⟨x,xs,rfl,h2,h3⟩:=h;exact ⟨x,xs++ws,rfl,h2,ih h3⟩
theorem Rs_take {cs:List AV} {vals:List Value} (h:Rs S w ρ cs vals) (n:Nat):Rs S w ρ (cs.take n) (vals.take n):=by
 induction cs generalizing vals n with
 | nil=>simp [Rs] at h;subst h;simp [Rs]
 | cons c cs ih=>
  simp only [Rs] at h;obtain ⟨x,xs,rfl,h2,h3⟩:=h
  cases n with
  | zero=>simp [Rs]
  | succ n=>exact ⟨x,xs.take n,rfl,h2,ih h3 n⟩
theorem Rs_drop {cs:List AV} {vals:List Value} (h:Rs S w ρ cs vals) (n:Nat):Rs S w ρ (cs.drop n) (vals.drop n):=by
 induction cs generalizing vals n with
 | nil=>simp [Rs] at h;subst h;simp [Rs]
 | cons c cs ih=>
  have h0:=h
  simp only [Rs] at h;obtain ⟨x,xs,rfl,h2,h3⟩:=h
  cases n with
  | zero=>exact h0
  | succ n=>exact ih h3 n
theorem Rs_set {cs:List AV} {vals:List Value} (h:Rs S w ρ cs vals) (n:Nat) {c:AV} {v:Value} (hc:R S w ρ c v):Rs S w ρ (cs.set n c) (vals.set n v):=by
 induction cs generalizing vals n with
 | nil=>simp [Rs] at h;subst h;simp [Rs]
 | cons d cs ih=>
  simp only [Rs] at h;obtain ⟨x,xs,rfl,h2,h3⟩:=h
  cases n with
  | zero=>exact ⟨v,xs,rfl,hc,h3⟩
  | succ n=>exact ⟨x,xs.set n v,rfl,h2,ih h3 n⟩
theorem Rs_replicate {c:AV} {v:Value} (hc:R S w ρ c v) (n:Nat):Rs S w ρ (List.replicate n c) (List.replicate n v):=by
 induction n with
 | zero=>simp [Rs]
 | succ n ih=>exact ⟨v,_,rfl,hc,ih⟩
end
def Loc.up (l l':Loc):Prop:=(∃ s,l'={ l with sub:=s })∨(l.box=false∧l'.box=false∧l.g<l'.g∧l.e=l'.e)∨(l.box=true∧l'.box=true∧l.k=none)
def LocsUp (ρ ρ':List Loc):Prop:=∀ (b:Nat) (l:Loc),ρ[b]?=some l→∃ l',ρ'[b]?=some l'∧l.up l'
def Up:Option (List Loc)→Option (List Loc)→Prop
 | none,_=>True
 | some l,some l'=>LocsUp l l'
 | some _,none=>False
theorem Loc.up_refl (l:Loc):l.up l:=.inl ⟨l.sub,rfl⟩
theorem Loc.up_trans {a b c:Loc} (h:a.up b) (k:b.up c):a.up c:=by
 rcases h with ⟨s,rfl⟩ | ⟨h1,h2,h3,h4⟩ | ⟨h1,h2,h3⟩
 ·rcases k with ⟨s',rfl⟩ | ⟨k1,k2,k3,k4⟩ | ⟨k1,k2,k3⟩
  ·exact .inl ⟨s',rfl⟩
  ·exact .inr (.inl ⟨k1,k2,k3,k4⟩)
  ·exact .inr (.inr ⟨k1,k2,k3⟩)
 ·rcases k with ⟨s',rfl⟩ | ⟨k1,k2,k3,k4⟩ | ⟨k1,k2,k3⟩
  ·exact .inr (.inl ⟨h1,h2,h3,h4⟩)
  ·exact .inr (.inl ⟨h1,k2,by omega,h4.trans k4⟩)
  ·rw [h2] at k1;cases k1
 ·rcases k with ⟨s',rfl⟩ | ⟨k1,k2,k3,k4⟩ | ⟨k1,k2,k3⟩
  ·exact .inr (.inr ⟨h1,h2,h3⟩)
  ·rw [h2] at k1;cases k1
  ·exact .inr (.inr ⟨h1,k2,h3⟩)
theorem LocsUp.refl (ρ:List Loc):LocsUp ρ ρ:=fun _ l h=>⟨l,h,l.up_refl⟩
theorem LocsUp.trans {a b c:List Loc} (h:LocsUp a b) (k:LocsUp b c):LocsUp a c:=fun i l hl=>
 let ⟨l',h1,h2⟩:=h i l hl;let ⟨l'',k1,k2⟩:=k i l' h1;⟨l'',k1,Loc.up_trans h2 k2⟩
theorem LocsUp.append (ρ σ:List Loc):LocsUp ρ (ρ++σ):=fun b l h=>⟨l,by rw [List.getElem?_append_left (List.getElem?_eq_some_iff.1 h).1];exact h,l.up_refl⟩
theorem Up.refl (ρ:Option (List Loc)):Up ρ ρ:=by cases ρ<;>simp [Up,LocsUp.refl]
def SameOn (S:Nat→Prop) (w w':World):Prop:=∀ k,S k→w'.heap[k]?=w.heap[k]?
theorem SameOn.cell {S:Nat→Prop} {w w':World} (h:SameOn S w w') {a:Addr} (ha:S a.block):w'.cell? a=w.cell? a:=World.cell?_of_block (w:=w) (h _ ha)
section
variable {S S':Nat→Prop} {w w':World}
theorem Holds.mono (hS:∀ k,S k→S' k) (hw:SameOn S w w') {a:Option Addr} {k:Nat} {evs:List Value} (h:Holds S w a k evs):Holds S' w' a k evs:=by
 rcases h with h | ⟨ad,h1,h2,h3,h4⟩
 ·exact .inl h
 ·exact .inr ⟨ad,h1,h2,hS _ h3,fun i e he=>⟨(h4 i e he).1,fun j c hc=>by rw [hw.cell (a:=⟨ad.block,_,none⟩) h3];exact (h4 i e he).2 j c hc⟩⟩
mutual
theorem R.mono (hS:∀ k,S k→S' k) (hw:SameOn S w w') {ρ ρ':Option (List Loc)} (hρ:Up ρ ρ') (x:AV) (v:Value) (h:R S w ρ x v):R S' w' ρ' x v:=by
 match x with
 | .any | .undef | .tt | .ff | .b _ | .lit _ | .i _ | .u _ | .raw _ | .np | .nils=>exact h
 | .ptr b off=>
  obtain ⟨l,loc,K,rfl,h2,h3,h4,h5⟩:=h
  cases ρ' with
  | none=>exact hρ.elim
  | some l'=>
   obtain ⟨loc',k1,k2⟩:=hρ b loc h2
   rcases k2 with ⟨s,rfl⟩ | ⟨k2,_⟩ | ⟨_,_,k2⟩
   ·exact ⟨l',_,K,rfl,k1,h3,h4,h5⟩
   ·rw [h3] at k2;cases k2
   ·rw [h4] at k2;cases k2
 | .mp b=>
  obtain ⟨l,loc,K,rfl,h2,h3,h4,h5⟩:=h
  cases ρ' with
  | none=>exact hρ.elim
  | some l'=>
   obtain ⟨loc',k1,k2⟩:=hρ b loc h2
   rcases k2 with ⟨s,rfl⟩ | ⟨k2,_⟩ | ⟨_,_,k2⟩
   ·exact ⟨l',_,K,rfl,k1,h3,h4,h5⟩
   ·rw [h3] at k2;cases k2
   ·rw [h4] at k2;cases k2
 | .hp b g i off=>
  obtain ⟨l,loc,ab,ao,rfl,h2,h3,h4,h5,h6⟩:=h
  cases ρ' with
  | none=>exact hρ.elim
  | some l'=>
   obtain ⟨loc',k1,k2⟩:=hρ b loc h2
   rcases k2 with ⟨s,rfl⟩ | ⟨k2,k3,k4,_⟩ | ⟨k2,_⟩
   ·exact ⟨l',_,ab,ao,rfl,k1,h3,h4,h5,h6⟩
   ·exact ⟨l',loc',ab,ao,rfl,k1,k3,by omega,h5,fun e=>by omega⟩
   ·rw [h3] at k2;cases k2
 | .sl b g k off len=>
  obtain ⟨l,loc,a,cap,rfl,h2,h3,h3',h4,h5,h6,h6',h7⟩:=h
  cases ρ' with
  | none=>exact hρ.elim
  | some l'=>
   obtain ⟨loc',k1,k2⟩:=hρ b loc h2
   rcases k2 with ⟨s,rfl⟩ | ⟨k2,k3,k4,k5⟩ | ⟨k2,_⟩
   ·exact ⟨l',_,a,cap,rfl,k1,h3,h3',h4,h5,h6,h6',h7⟩
   ·exact ⟨l',loc',a,cap,rfl,k1,k3,k5.symm.trans h3',by omega,h5,h6,h6',fun e=>by omega⟩
   ·rw [h3] at k2;cases k2
 | .vp x off=>
  obtain ⟨a,xv,h1,h2,h3,h4⟩:=h
  exact ⟨a,xv,h1,R.mono hS hw (ρ:=none) (ρ':=none) trivial (x ()) xv h2,hS _ h3,fun j c hc=>by rw [hw.cell (a:=⟨a.block,_,none⟩) h3];exact h4 j c hc⟩
 | .vs k es=>
  obtain ⟨a,cap,evs,h1,h2,h3,h4⟩:=h
  exact ⟨a,cap,evs,h1,h2,RL.mono hS hw (es ()) evs h3,Holds.mono hS hw h4⟩
 | .v1 x=>
  obtain ⟨ab,ao,cap,xv,h1,h2,h3,h4,h5,h6⟩:=h
  exact ⟨ab,ao,cap,xv,h1,h2,hS _ h3,h4,(hw.cell (a:=⟨ab,ao,none⟩) h3).trans h5,R.mono hS hw hρ x xv h6⟩
 | .vm ks vs=>
  obtain ⟨K,kv,vv,ent,clock,h1,h2,h3,h4,h5,h6,h7⟩:=h
  exact ⟨K,kv,vv,ent,clock,h1,hS _ h2,(hw K h2).trans h3,RL.mono hS hw (ks ()) kv h4,RL.mono hS hw (vs ()) vv h5,h6,h7⟩
 | .agg cs=>obtain ⟨vals,h1,h2⟩:=h;exact ⟨vals,h1,Rs.mono hS hw hρ cs vals h2⟩
 | .tup cs=>obtain ⟨vals,h1,h2⟩:=h;exact ⟨vals,h1,Rs.mono hS hw hρ cs vals h2⟩
 | .fn f first cap=>obtain ⟨fv,cv,h1,h2,h3⟩:=h;exact ⟨fv,cv,h1,Rs.mono hS hw hρ first fv h2,Rs.mono hS hw hρ cap cv h3⟩
theorem Rs.mono (hS:∀ k,S k→S' k) (hw:SameOn S w w') {ρ ρ':Option (List Loc)} (hρ:Up ρ ρ') (cs:List AV) (vals:List Value) (h:Rs S w ρ cs vals):Rs S' w' ρ' cs vals:=by
 match cs with
 | []=>exact h
 | c :: cs=>obtain ⟨x,xs,h1,h2,h3⟩:=h;exact ⟨x,xs,h1,R.mono hS hw hρ c x h2,Rs.mono hS hw hρ cs xs h3⟩
theorem RL.mono (hS:∀ k,S k→S' k) (hw:SameOn S w w') (l:LV) (vals:List Value) (h:RL S w l vals):RL S' w' l vals:=by
 match l with
 | .nil=>exact h
 | .cons c cs=>obtain ⟨x,xs,h1,h2,h3⟩:=h;exact ⟨x,xs,h1,R.mono hS hw (ρ:=none) (ρ':=none) trivial c x h2,RL.mono hS hw cs xs h3⟩
end
end
theorem R_one {S:Nat→Prop} {w:World} {ρ:Option (List Loc)} {x:AV} {v:Value} (h:R S w ρ x v) (h1:x.one=true):v.oneCell'=true:=by
 cases x<;>simp [AV.one] at h1<;>simp only [R] at h
 case tt | ff | b | lit | i | u | np=>subst h;rfl
 case raw=>subst h;exact h1
 case ptr | mp=>obtain ⟨_,_,_,_,_,_,_,rfl⟩:=h;rfl
 case hp=>obtain ⟨_,_,_,_,_,_,_,_,rfl,_⟩:=h;rfl
 case sl=>obtain ⟨_,_,_,_,_,_,_,_,_,rfl,_⟩:=h;rfl
 case nils=>obtain ⟨_,rfl⟩:=h;rfl
 case vp=>obtain ⟨_,_,rfl,_⟩:=h;rfl
 case vs=>obtain ⟨_,_,_,rfl,_⟩:=h;rfl
 case vm=>obtain ⟨_,_,_,_,_,rfl,_⟩:=h;rfl
 case v1=>obtain ⟨_,_,_,_,rfl,_⟩:=h;rfl
 case fn=>obtain ⟨_,_,rfl,_⟩:=h;rfl
theorem cells_of_one {v:Value} (h:v.oneCell'=true):v.cells=#[v]:=by cases v<;>simp [Value.oneCell',Value.cells] at *
theorem R_cells {S:Nat→Prop} {w:World} {ρ:Option (List Loc)} {x:AV} {v:Value} (h:R S w ρ x v) (h1:x.flat=true):Rs S w ρ x.cells v.cells.toList∧∀ u∈v.cells.toList,u.oneCell'=true:=by
 cases x
 case agg cs=>
  simp only [R] at h
  obtain ⟨vals,rfl,h2⟩:=h
  refine ⟨by simpa [AV.cells,Value.cells] using h2,fun u hu=>?_⟩
  simp [Value.cells] at hu
  obtain ⟨i,hi,rfl⟩:=List.mem_iff_getElem.1 hu
  obtain ⟨c,hc,hr⟩:=Rs_get' h2 (List.getElem?_eq_getElem hi)
  refine R_one hr ?_
  simp only [AV.flat,AV.cells,List.all_eq_true] at h1
  exact h1 _ (List.mem_of_getElem? hc)
 all_goals
  have h2:=R_one h (by simpa [AV.flat,AV.cells] using h1)
  rw [cells_of_one h2]
  refine ⟨⟨v,[],rfl,h,rfl⟩,fun u hu=>?_⟩
  simp at hu;subst hu;exact h2
end Go.AL
namespace Go.AL
open Go
structure Fr (w w':World):Prop where
 os:w'.os=w.os
 tape:w'.tape=w.tape
 output:w'.output=w.output
 size:w.heap.size≤w'.heap.size
 frozen:∀ a:Addr,a.block<w.heap.size→w'.frozen? a=w.frozen? a
theorem Fr.refl (w:World):Fr w w:=⟨rfl,rfl,rfl,Nat.le_refl _,fun _ _=>rfl⟩
theorem Fr.trans {a b c:World} (h:Fr a b) (k:Fr b c):Fr a c:=
 ⟨k.os.trans h.os,k.tape.trans h.tape,k.output.trans h.output,Nat.le_trans h.size k.size,fun x hx=>(k.frozen x (Nat.lt_of_lt_of_le hx h.size)).trans (h.frozen x hx)⟩
theorem Fr.drew (w:World):Fr w w.drew:=⟨rfl,rfl,rfl,Nat.le_refl _,fun _ _=>rfl⟩
theorem Fr.alloc (w:World) (o:Obj) (ho:∀ c t lo hi,o=.cells c t (lo,hi)→lo=0∧hi=0):Fr w (w.alloc o):=by
 refine ⟨rfl,rfl,rfl,by simp,fun a _=>?_⟩
 by_cases h:a.block=w.heap.size
 ·have e1:(w.alloc o).heap[a.block]?=some o:=by rw [h];exact (MapKept.heap_alloc w _).1
  have e2:w.heap[a.block]?=none:=by rw [h];simp
  simp only [World.frozen?,e1,e2]
  cases o<;>try rfl
  rename_i c t f
  obtain ⟨lo,hi⟩:=f
  obtain ⟨rfl,rfl⟩:=ho c t lo hi rfl
  simp
 ·exact World.frozen?_alloc_old _ _ _ h
theorem Fr.cells (w:World) (c:Array Value) (t:TypeId):Fr w (w.alloc (.cells c t)):=Fr.alloc w _ (by intro _ _ _ _ h;cases h;exact ⟨rfl,rfl⟩)
def InR (S:Nat→Prop) (w:World) (k:Nat) (es:LV) (v:Value) (s:Option Nat):Prop:=
 ∃ a cap ievs,v=.slice a ievs.length cap∧ievs.length≤cap∧(cap=0∨∃ ab ao,a=some ⟨ab,ao,none⟩)∧RL S w es ievs∧(∀ e∈ievs,∀ u∈e.cells.toList,u.oneCell'=true) ∧
  ((s=none∧cap=0)∨∃ K c ty,s=some K∧(cap=0∨a=some ⟨K,0,none⟩)∧cap * k≤c.size∧w.heap[K]?=some (.cells c ty (0,0)) ∧
   ∀ (i:Nat) (e:Value),ievs[i]?=some e→e.cells.size=k∧∀ (j:Nat) (x:Value),e.cells[j]?=some x→c[i * k+j]?=some x)
def CellR (S:Nat→Prop) (w:World) (ρ:List Loc) (k:Nat) (hole:Option ((Unit→Nat) × AV)) (p:Nat) (es:LV) (v:Value) (s:Option Nat):Prop:=
 match hole with
 | none=>InR S w k es v s
 | some (i,x)=>(p=i ()∧s=none∧R S w (some ρ) x v∧v.oneCell'=true)∨(p≠i ()∧InR S w k es v s)
def Loc.has (l:Loc) (K:Nat):Prop:=l.k=some K∨some K∈l.sub
structure Loc.SubOk (l:Loc):Prop where
 out:∀ K,some K∈l.sub→l.k≠some K
 one:∀ (i j K:Nat),l.sub[i]?=some (some K)→l.sub[j]?=some (some K)→i=j
theorem Loc.SubOk.nil {l:Loc} (h:l.sub=[]):l.SubOk where
 out:=fun K hK=>by rw [h] at hK;exact absurd hK (by simp)
 one:=fun i j K hi=>by rw [h] at hi;exact absurd hi (by simp)
theorem Loc.has_nil {l:Loc} (h:l.sub=[]) {K:Nat} (hK:l.has K):l.k=some K:=hK.resolve_right (by rw [h];simp)
def BlkR (S:Nat→Prop) (w:World) (ρ:List Loc) (loc:Loc):Blk→Prop
 | .any=>True
 | .ghost=>loc.box=true∧loc.k=none
 | .box v=>loc.box=true∧∃ K ty xv,loc.k=some K∧w.heap[K]?=some (.cells xv.cells ty (0,0))∧R S w (some ρ) v xv∧v.flat=true
 | .run g k es=>loc.box=false∧loc.g=g∧loc.e=k∧∃ evs,RL S w (es ()) evs∧(∀ e∈evs,∀ u∈e.cells.toList,u.oneCell'=true) ∧
   ((loc.k=none∧evs=[])∨∃ K c ty,loc.k=some K∧w.heap[K]?=some (.cells c ty (0,0))∧c.size=loc.size∧evs.length * loc.e≤loc.size ∧
    ∀ (i:Nat) (e:Value),evs[i]?=some e→e.cells.size=loc.e∧∀ (j:Nat) (x:Value),e.cells[j]?=some x→c[i * loc.e+j]?=some x)
 | .map ks vs=>loc.box=true∧∃ K kv vv ent clock,loc.k=some K∧w.heap[K]?=some (.map ent clock)∧RL S w (ks ()) kv∧RL S w (vs ()) vv ∧
   ent.toList.map (·.key)=kv∧ent.toList.map (·.val)=vv
 | .nest g k ess hole=>loc.box=false∧loc.g=g∧loc.e=1∧∃ evs:List Value,
   ((loc.k=none∧evs=[])∨∃ K c ty,loc.k=some K∧w.heap[K]?=some (.cells c ty (0,0))∧c.size=loc.size∧evs.length≤loc.size∧∀ (i:Nat) (e:Value),evs[i]?=some e→c[i]?=some e) ∧
   (ess ()).length=evs.length∧loc.sub.length=evs.length∧∀ (p:Nat) (es:LV) (v:Value) (s:Option Nat),(ess ())[p]?=some es→evs[p]?=some v→loc.sub[p]?=some s→CellR S w ρ k hole p es v s
 | .obj K o s tmps=>loc.box=true∧loc.k=some K∧w.heap[K]?=some o∧∀ n,R S w (some ρ) (s.get n) (tmps.getD n Go.undef)
structure HeapR (B:Nat) (S:Nat→Prop) (γ:Nat→Option AV) (ρ:List Loc) (h:List Blk) (w:World):Prop where
 len:ρ.length=h.length
 blk:∀ (b:Nat) (blk:Blk) (loc:Loc),h[b]?=some blk→ρ[b]?=some loc→BlkR S w ρ loc blk
 own:∀ (b:Nat) (loc:Loc) (K:Nat),ρ[b]?=some loc→loc.has K→¬ S K∧K<w.heap.size∧B≤K
 inj:∀ (b b':Nat) (loc loc':Loc) (K:Nat),ρ[b]?=some loc→ρ[b']?=some loc'→loc.has K→loc'.has K→b=b'
 sle:∀ k,S k→k<w.heap.size
 gok:∀ g x,γ g=some x→R S w none (.vp (fun _=>x) 0) (.pointer (some ⟨g,0,none⟩))
 bsz:B≤w.heap.size
 sok:∀ (b:Nat) (loc:Loc),ρ[b]?=some loc→loc.SubOk
structure Ext (B:Nat) (S:Nat→Prop) (ρ:List Loc) (w:World) (S':Nat→Prop) (ρ':List Loc) (w':World):Prop where
 fr:Fr w w'
 below:∀ k,k<B→w'.heap[k]?=w.heap[k]?
 sub:∀ k,S k→S' k
 same:SameOn S w w'
 locs:LocsUp ρ ρ'
 grow:∀ k,S' k→S k∨B≤k
theorem Ext.refl (B:Nat) (S:Nat→Prop) (ρ:List Loc) (w:World):Ext B S ρ w S ρ w:=⟨Fr.refl w,fun _ _=>rfl,fun _ h=>h,fun _ _=>rfl,LocsUp.refl ρ,fun _ h=>.inl h⟩
theorem Ext.trans {B:Nat} {S S' S'':Nat→Prop} {ρ ρ' ρ'':List Loc} {w w' w'':World} (h:Ext B S ρ w S' ρ' w') (k:Ext B S' ρ' w' S'' ρ'' w''):Ext B S ρ w S'' ρ'' w'':=
 ⟨h.fr.trans k.fr,fun i hi=>(k.below i hi).trans (h.below i hi),fun i hi=>k.sub i (h.sub i hi),fun i hi=>(k.same i (h.sub i hi)).trans (h.same i hi),h.locs.trans k.locs,fun i hi=>(k.grow i hi).elim (fun h1=>h.grow i h1) .inr⟩
theorem Ext.R {B:Nat} {S S':Nat→Prop} {ρ ρ':List Loc} {w w':World} (h:Ext B S ρ w S' ρ' w') {x:AV} {v:Value} (hr:R S w (some ρ) x v):R S' w' (some ρ') x v:=
 R.mono h.sub h.same (ρ:=some ρ) (ρ':=some ρ') h.locs x v hr
structure Sim (B:Nat) (S:Nat→Prop) (γ:Nat→Option AV) (ρ:List Loc) (A:St) (a:Act) (w:World):Prop where
 nodef:a.defers=[]
 size:a.tmps.size=A.n
 small:A.n≤1000
 slot:∀ n,R S w (some ρ) (A.s.get n) (a.tmps.getD n Go.undef)
 heap:HeapR B S γ ρ A.h w
structure ExtQ (S:Nat→Prop) (w:World) (S':Nat→Prop) (w':World):Prop where
 fr:Fr w w'
 same:∀ k,k<w.heap.size→w'.heap[k]?=w.heap[k]?
 sub:∀ k,S k→S' k
 new:∀ k,S' k→S k∨(w.heap.size≤k∧k<w'.heap.size)
theorem ExtQ.refl (S:Nat→Prop) (w:World):ExtQ S w S w:=⟨Fr.refl w,fun _ _=>rfl,fun _ h=>h,fun _ h=>.inl h⟩
theorem ExtQ.trans {S S' S'':Nat→Prop} {w w' w'':World} (h:ExtQ S w S' w') (k:ExtQ S' w' S'' w''):ExtQ S w S'' w'':=by
 refine ⟨h.fr.trans k.fr,fun i hi=>(k.same i (Nat.lt_of_lt_of_le hi h.fr.size)).trans (h.same i hi),fun i hi=>k.sub i (h.sub i hi),fun i hi=>?_⟩
 rcases k.new i hi with h1 | ⟨h1,h2⟩
 ·rcases h.new i h1 with h3 | ⟨h3,h4⟩
  ·exact .inl h3
  ·exact .inr ⟨h3,Nat.lt_of_lt_of_le h4 k.fr.size⟩
 ·exact .inr ⟨Nat.le_trans h.fr.size h1,h2⟩
theorem Up_some {l l':List Loc} (h:LocsUp l l'):Up (some l) (some l'):=h
theorem BlkR.mono {S S':Nat→Prop} {w w':World} {ρ ρ':List Loc} {loc:Loc} {blk:Blk} (h:BlkR S w ρ loc blk) (hS:∀ k,S k→S' k) (hw:SameOn S w w') (hρ:LocsUp ρ ρ')
  (hk:∀ K,loc.has K→w'.heap[K]?=w.heap[K]?):BlkR S' w' ρ' loc blk:=by
 have hk0:=hk
 have hk:∀ K,loc.k=some K→w'.heap[K]?=w.heap[K]?:=fun K h=>hk0 K (.inl h)
 cases blk with
 | any=>trivial
 | ghost=>exact h
 | box v=>
  obtain ⟨h1,K,ty,xv,h2,h3,h4,h5⟩:=h
  exact ⟨h1,K,ty,xv,h2,(hk K h2).trans h3,R.mono hS hw (Up_some hρ) v xv h4,h5⟩
 | run g k es=>
  obtain ⟨h1,h2,h2',evs,h3,h4,h5⟩:=h
  refine ⟨h1,h2,h2',evs,RL.mono hS hw _ _ h3,h4,?_⟩
  rcases h5 with h5 | ⟨K,c,ty,k1,k2,k3⟩
  ·exact .inl h5
  ·exact .inr ⟨K,c,ty,k1,(hk K k1).trans k2,k3⟩
 | map ks vs=>
  obtain ⟨h1,K,kv,vv,ent,clock,h2,h3,h4,h5,h6⟩:=h
  exact ⟨h1,K,kv,vv,ent,clock,h2,(hk K h2).trans h3,RL.mono hS hw _ _ h4,RL.mono hS hw _ _ h5,h6⟩
 | obj K o s tmps=>
  obtain ⟨h1,h2,h3,h4⟩:=h
  exact ⟨h1,h2,(hk K h2).trans h3,fun n=>R.mono hS hw (Up_some hρ) _ _ (h4 n)⟩
 | nest g k ess hole=>
  obtain ⟨h1,h2,h3,evs,h4,h5,h6,h7⟩:=h
  refine ⟨h1,h2,h3,evs,?_,h5,h6,fun p es v s g1 g2 g3=>?_⟩
  ·rcases h4 with h4 | ⟨K,c,ty,k1,k2,k3⟩
   ·exact .inl h4
   ·exact .inr ⟨K,c,ty,k1,(hk K k1).trans k2,k3⟩
  ·have hin:InR S w k es v s→InR S' w' k es v s:=fun ⟨a,cap,ievs,q1,q2,q3,q4,q5,q6⟩=>by
    refine ⟨a,cap,ievs,q1,q2,q3,RL.mono hS hw _ _ q4,q5,?_⟩
    rcases q6 with q6 | ⟨K,c,ty,r1,r2,r3,r4,r5⟩
    ·exact .inl q6
    ·exact .inr ⟨K,c,ty,r1,r2,r3,(hk0 K (.inr (by rw [←r1];exact List.mem_of_getElem? g3))).trans r4,r5⟩
   have:=h7 p es v s g1 g2 g3
   cases hole with
   | none=>exact hin this
   | some ix=>
    rcases this with ⟨a1,a2,a3,a4⟩ | ⟨a1,a2⟩
    ·exact .inl ⟨a1,a2,R.mono hS hw (Up_some hρ) _ _ a3,a4⟩
    ·exact .inr ⟨a1,hin a2⟩
theorem HeapR.q {B:Nat} {S S':Nat→Prop} {γ:Nat→Option AV} {ρ:List Loc} {h:List Blk} {w w':World} (hr:HeapR B S γ ρ h w) (hq:ExtQ S w S' w'):HeapR B S' γ ρ h w':=by
 have hw:SameOn S w w':=fun k hk=>hq.same k (hr.sle k hk)
 refine ⟨hr.len,fun b blk loc h1 h2=>(hr.blk b blk loc h1 h2).mono hq.sub hw (LocsUp.refl ρ) fun K hK=>hq.same K (hr.own b loc K h2 hK).2.1,fun b loc K h1 h2=>?_,hr.inj,fun k hk=>?_,fun g x hg=>?_,Nat.le_trans hr.bsz hq.fr.size,hr.sok⟩
 ·obtain ⟨k1,k2,k3⟩:=hr.own b loc K h1 h2
  refine ⟨fun hs=>?_,Nat.lt_of_lt_of_le k2 hq.fr.size,k3⟩
  rcases hq.new K hs with h4 | ⟨h4,_⟩
  ·exact k1 h4
  ·omega
 ·rcases hq.new k hk with h4 | ⟨_,h4⟩
  ·exact Nat.lt_of_lt_of_le (hr.sle k h4) hq.fr.size
  ·exact h4
 ·exact R.mono hq.sub hw (ρ:=none) (ρ':=none) trivial _ _ (hr.gok g x hg)
theorem HeapR.ext {B:Nat} {S S':Nat→Prop} {γ:Nat→Option AV} {ρ:List Loc} {h:List Blk} {w w':World} (hr:HeapR B S γ ρ h w) (hq:ExtQ S w S' w'):Ext B S ρ w S' ρ w':=
 ⟨hq.fr,fun k hk=>hq.same k (Nat.lt_of_lt_of_le hk hr.bsz),hq.sub,fun k hk=>hq.same k (hr.sle k hk),LocsUp.refl ρ,fun k hk=>(hq.new k hk).imp id fun h=>Nat.le_trans hr.bsz h.1⟩
theorem HeapR.Rq {B:Nat} {S S':Nat→Prop} {γ:Nat→Option AV} {ρ:List Loc} {h:List Blk} {w w':World} (hr:HeapR B S γ ρ h w) (hq:ExtQ S w S' w') {m:Option (List Loc)} {x:AV} {v:Value} (hx:R S w m x v):R S' w' m x v:=
 R.mono hq.sub (fun k hk=>hq.same k (hr.sle k hk)) (Up.refl m) x v hx
section
variable (P:Program) (γ:Nat→Option AV)
def AWP (c:Code) (Q:Exit→St→Prop) (A:St):Prop:=
 ∀ B S ρ a w,Sim B S γ ρ A a w→c.wp P (fun e a' w'=>∃ S' ρ' A',Q e A'∧Sim B S' γ ρ' A' a' w'∧Ext B S ρ w S' ρ' w') a w
def Enters (f:FuncId):Prop:=∀ args w,(callFunc f args).run P w=.ok (.enter f args) w
def SCalls (f:FuncId) (args:List AV) (h:List Blk) (Q:AV→List Blk→Prop):Prop:=
 Enters P f∧∀ B S ρ w vals,HeapR B S γ ρ h w→Rs S w (some ρ) args vals→Calls P f vals.toArray w fun e w'=>
  ∃ v h' S' ρ' v',e=.returned v'∧Q v h'∧R S' w' (some ρ') v v'∧HeapR B S' γ ρ' h' w'∧Ext B S ρ w S' ρ' w'
def QCalls (h:List Blk) (f:FuncId) (args:List AV) (k:AV→Prop):Prop:=
 ∃ v,k v∧Enters P f∧∀ B S ρ w vals,HeapR B S γ ρ h w→Rs S w (some ρ) args vals→Calls P f vals.toArray w fun e w'=>
  ∃ v' S',e=.returned v'∧R S' w' (some ρ) v v'∧ExtQ S w S' w'
def Pure (fresh:Bool) (f:FuncId) (args:List AV) (v:AV):Prop:=
 Enters P f∧∀ S w vals,(∀ k,S k→k<w.heap.size)→(∀ g x,γ g=some x→R S w none (.vp (fun _=>x) 0) (.pointer (some ⟨g,0,none⟩)))→Rs S w none args vals→Calls P f vals.toArray w fun e w'=>
  ∃ v' S',e=.returned v'∧R S' w' none v v'∧ExtQ (fun k=>fresh=false∧S k) w S' w'
def OpR (o:Oper) (A:St) (K:St→Prop):Prop:=
 ∀ B S ρ a w next Q',Sim B S γ ρ A a w→(∀ S' ρ' A' a' w',K A'→Sim B S' γ ρ' A' a' w'→Ext B S ρ w S' ρ' w'→next a' w')→o.wp P a w next Q'
def QOp (o:Oper) (e:Operand→AV) (h:List Blk) (v:AV):Prop:=
 ∀ B S ρ w (re:Operand→Value) (a:Act) next Q',HeapR B S γ ρ h w→(∀ x∈o.op.operands,R S w (some ρ) (e x) (re x)) →
  (∀ S' w' v',ExtQ S w S' w'→R S' w' (some ρ) v v'→next (a.put o.dst v') w')→o.upon P a next Q' ((execOp re o).run P w)
end
end Go.AL
namespace Go.AL
open Go
def ofCell:Value→AV
 | .bool true=>.tt
 | .bool false=>.ff
 | .int .i64 n=>.lit n
 | .int .u64 n=>if 0≤n∧n<18446744073709551616 then .u fun _=>BitVec.ofInt 64 n else .raw (.int .u64 n)
 | .slice none 0 0=>.nils
 | .pointer none=>.np
 | v=>.raw v
def ofV:Value→AV
 | .agg cs=>.agg (cs.toList.map ofCell)
 | v=>ofCell v
inductive CK where | i | u | b | sl (k:Nat)
inductive TK where
 | slice (e sz bytes:Nat) (zero:Option AV) | array (n e sz:Nat) | struct (fs:List (Nat × Nat × Option Bool))
 | int (k:IntKind) | bool | string | ptr (e:Nat) | map (k e:Nat) | misc | other
def _root_.Go.TypeDesc.isagg:TypeDesc→Bool | .struct _ | .array _ _=>true | _=>false
def nrm1 (c:CK) (v:AV):AV:=
 match c with
 | .i=>match v with | .lit n=>.i fun _=>n | v=>v
 | .b=>match v with | .tt=>.b fun _=>true | .ff=>.b fun _=>false | v=>v
 | .sl k=>match v with | .nils=>.vs k fun _=>.nil | v=>v
 | .u=>v
def nrms:List CK→List AV→List AV
 | [],vs=>vs
 | c :: cs,vs=>match vs with | []=>[] | v :: vs=>nrm1 c v :: nrms cs vs
def AV.nrm (cs:List CK) (v:AV):AV:=
 match v with
 | .agg l=>.agg (nrms cs l)
 | v=>match cs with | [c]=>nrm1 c v | _=>v
def TK.elem:TK→Nat | .slice e _ _ _=>e | .array _ e _=>e | _=>0
structure TI where
 k:TK
 sz:Nat
 zero:Option AV
 cs:List CK
 eq:List CK
def ckOf (P:Program) (t:TypeId):List CK:=
 match P.underlying t with
 | some (.int .i64)=>[.i] | some (.int .u64)=>[.u] | some .bool=>[.b] | some (.slice e)=>[.sl (((P.info? e).map (·.size)).getD 0)] | _=>[]
def cksOf (P:Program):Nat→TypeId→List CK
 | 0,_=>[]
 | f+1,t=>match P.underlying t with
  | some (.struct fs)=>fs.toList.flatMap fun x=>cksOf P f x.type
  | some (.array n e)=>(List.replicate n (cksOf P f e)).flatten
  | _=>ckOf P t
def aggOf (P:Program) (t:TypeId):Option Bool:=
 match P.underlying t with
 | some (.struct _) | some (.array _ _)=>some true
 | some _=>some false
 | none=>none
def kOf (P:Program):TypeDesc→TK
 | .slice e=>match P.info? e with | some i=>.slice e i.size i.bytes (i.zero.map ofV) | none=>.other
 | .array n e=>match P.info? e with | some i=>.array n e i.size | none=>.other
 | .struct fs=>if fs.toList.all (fun f=>(P.info? f.type).isSome) then .struct (fs.toList.map fun f=>(f.offset,((P.info? f.type).map (·.size)).getD 0,aggOf P f.type)) else .other
 | .int k=>.int k
 | .bool=>.bool
 | .string=>.string
 | .pointer e=>.ptr e
 | .map k e=>.map k e
 | _=>.misc
def flatF (P:Program) (g:TypeId→Option (List CK)):List Field→Nat→Option (List (List CK))
 | [],_=>some []
 | x :: r, o => if x.name ≠ "_" ∧ x.offset = o then match g x.type with
   | some cs=>if (P.info? x.type).map (·.size)=some cs.length∧(P.cellsOf x.type=cs.length) then (flatF P g r (o+cs.length)).map (cs :: ·) else none
   | none=>none
  else none
def flatC (P:Program):Nat→TypeId→Option (List CK)
 | 0,_=>none
 | f+1,t=>match P.underlying t with
  | some (.int .i64)=>if (P.info? t).map (·.size)=some 1 then some [.i] else none
  | some (.int .u64)=>if (P.info? t).map (·.size)=some 1 then some [.u] else none
  | some .bool=>if (P.info? t).map (·.size)=some 1 then some [.b] else none
  | some (.struct fs)=>if P.stoodInHeld t=true then none else (flatF P (flatC P f) fs.toList 0).map List.flatten
  | some (.array n e)=>match flatC P f e with
   | some cs=>if (P.info? e).map (·.size)=some cs.length∧P.cellsOf e=cs.length then some (List.replicate n cs).flatten else none
   | none=>none
  | _=>none
def eqOf (P:Program) (t:TypeId):List CK:=if P.eqGuardType P.depth t=true then [] else (flatC P 6 t).getD []
def tiOf (P:Program) (t:TypeId):TI:=
 match P.underlying t,P.info? t with
 | some d,some i=>⟨kOf P d,i.size,i.zero.map ofV,cksOf P 6 t,eqOf P t⟩
 | _,_=>⟨.other,0,none,[],[]⟩
inductive TT where
 | nil
 | node (v:TI) (l r:TT)
def TT.get:TT→Nat→TI
 | .nil,_=>⟨.other,0,none,[],[]⟩
 | .node v l r,n=>if n=0 then v else if n % 2=1 then l.get (n / 2) else r.get (n / 2-1)
def w64 (n:Int):Int:=IntKind.i64.wrap n
def br (c:AV) (p q:Unit→Prop):Prop:=
 match c with
 | .tt=>p ()
 | .ff=>q ()
 | .b x=>(∀ _:Unit,x ()=true→p ())∧(∀ _:Unit,x ()=false→q ())
 | _=>False
def vbI (op:BinOp) (x y:Unit→Int) (k:AV→Prop):Prop:=
 match op with
 | .add=>k (.i fun _=>w64 (x ()+y ()))
 | .sub=>k (.i fun _=>w64 (x ()-y ()))
 | .mul=>k (.i fun _=>w64 (x () * y ()))
 | .quo=>(∀ _:Unit,y ()≠0)∧k (.i fun _=>w64 ((x ()).tdiv (y ())))
 | .rem=>(∀ _:Unit,y ()≠0)∧k (.i fun _=>(x ()).tmod (y ()))
 | .eql=>k (.b fun _=>decide (x ()=y ()))
 | .neq=>k (.b fun _=>decide (x ()≠y ()))
 | .lss=>k (.b fun _=>decide (x ()<y ()))
 | .leq=>k (.b fun _=>decide (x ()≤y ()))
 | .gtr=>k (.b fun _=>decide (y ()<x ()))
 | .geq=>k (.b fun _=>decide (y ()≤x ()))
 | _=>False
def vbU (op:BinOp) (x y:Unit→BitVec 64) (k:AV→Prop):Prop:=
 match op with
 | .add=>k (.u fun _=>x ()+y ())
 | .sub=>k (.u fun _=>x ()-y ())
 | .mul=>k (.u fun _=>x () * y ())
 | .and=>k (.u fun _=>x () &&& y ())
 | .or=>k (.u fun _=>x () ||| y ())
 | .xor=>k (.u fun _=>x () ^^^ y ())
 | .andNot=>k (.u fun _=>x () &&& ~~~(y ()))
 | .quo=>(∀ _:Unit,y ()≠0)∧k (.u fun _=>x () / y ())
 | .rem=>(∀ _:Unit,y ()≠0)∧k (.u fun _=>x () % y ())
 | .shl=>k (.u fun _=>x () <<< (y ()).toNat)
 | .shr=>k (.u fun _=>x () >>> (y ()).toNat)
 | .eql=>k (.b fun _=>decide (x ()=y ()))
 | .neq=>k (.b fun _=>decide (x ()≠y ()))
 | .lss=>k (.b fun _=>decide ((x ()).toNat<(y ()).toNat))
 | .leq=>k (.b fun _=>decide ((x ()).toNat≤(y ()).toNat))
 | .gtr=>k (.b fun _=>decide ((y ()).toNat<(x ()).toNat))
 | .geq=>k (.b fun _=>decide ((y ()).toNat≤(x ()).toNat))
def vbUI (op:BinOp) (x:Unit→BitVec 64) (y:Unit→Int) (k:AV→Prop):Prop:=
 match op with
 | .shl=>(∀ _:Unit,0≤y ())∧k (.u fun _=>x () <<< (y ()).toNat)
 | .shr=>(∀ _:Unit,0≤y ())∧k (.u fun _=>x () >>> (y ()).toNat)
 | _=>False
def AV.bool:AV→Option (Unit→Bool)
 | .tt=>some fun _=>true
 | .ff=>some fun _=>false
 | .b x=>some x
 | _=>none
def vbB (op:BinOp) (x y:Unit→Bool) (k:AV→Prop):Prop:=
 match op with
 | .eql=>k (.b fun _=>x () == y ())
 | .neq=>k (.b fun _=>x () != y ())
 | _=>False
def cI:AV→Option (Unit→Int) | .i n=>some n | .lit n=>some fun _=>n | _=>none
def ceq (c:CK) (x y:AV):Option (Unit→Bool):=
 match c with
 | .i=>match cI x,cI y with | some a,some b=>some fun _=>decide (a ()=b ()) | _,_=>none
 | .u=>match x,y with | .u a,.u b=>some fun _=>decide (a ()=b ()) | _,_=>none
 | .b=>match x.bool,y.bool with | some a,some b=>some fun _=>a () == b () | _,_=>none
 | .sl _=>none
def ceqs:List CK→List AV→List AV→Option (Unit→Bool)
 | [],[],[]=>some fun _=>true
 | c :: cs,x :: xs,y :: ys=>match ceq c x y with
  | some f=>match ceqs cs xs ys with | some g=>some fun _=>f () && g () | none=>none
  | none=>none
 | _,_,_=>none
def vbin (t:TK) (eqs:List CK) (op:BinOp) (x y:AV) (k:AV→Prop):Prop:=
 match x with
 | .i x=>match y with
  | .i y=>vbI op x y k
  | .lit y=>vbI op x (fun _=>y) k
  | _=>False
 | .lit x=>match y with
  | .i y=>vbI op (fun _=>x) y k
  | .lit y=>vbI op (fun _=>x) (fun _=>y) k
  | _=>False
 | .u x=>match y with
  | .u y=>vbU op x y k
  | .i y=>vbUI op x y k
  | .lit y=>vbUI op x (fun _=>y) k
  | _=>False
 | .agg xs=>match y with
  | .agg ys=>match eqs.isEmpty || !(match t with | .struct _=>true | .array ..=>true | _=>false) with
   | false=>match ceqs eqs xs ys with
    | some f=>match op with
     | .eql=>k (.b f)
     | .neq=>k (.b fun _=>!(f ()))
     | _=>False
    | none=>False
   | true=>False
  | _=>False
 | x=>match t with
  | .bool=>match x.bool with
   | some x=>match y.bool with
    | some y=>vbB op x y k
    | none=>False
   | none=>False
  | _=>False
def vun (op:UnOp) (x:AV) (k:AV→Prop):Prop:=
 match op with
 | .not=>match x with
  | .tt=>k .ff
  | .ff=>k .tt
  | .b x=>k (.b fun _=>!(x ()))
  | _=>False
 | .neg=>match x with
  | .i n=>k (.i fun _=>w64 (-(n ())))
  | .lit n=>k (.i fun _=>w64 (-n))
  | _=>False
 | .xor=>match x with
  | .u x=>k (.u fun _=>~~~(x ()))
  | _=>False
 | _=>False
def vconv (src dst:TK) (x:AV) (k:AV→Prop):Prop:=
 match src with
 | .int .i64=>match dst with
  | .int .u64=>match x with
   | .i n=>k (.u fun _=>BitVec.ofInt 64 (n ()))
   | .lit n=>k (.u fun _=>BitVec.ofInt 64 n)
   | _=>False
  | .int .i64=>match x with
   | .i n=>k (.i fun _=>w64 (n ()))
   | .lit n=>k (.i fun _=>w64 n)
   | _=>False
  | _=>False
 | .int .u64=>match dst with
  | .int .i64=>match x with
   | .u x=>k (.i fun _=>(x ()).toInt)
   | _=>False
  | .int .u64=>match x with
   | .u x=>k (.u x)
   | _=>False
  | _=>False
 | _=>False
def AV.asI:AV→Int | .i n=>n () | .lit n=>n | _=>0
def AV.asU:AV→BitVec 64 | .u x=>x () | _=>0
def AV.asB:AV→Bool | .b x=>x () | .tt=>true | _=>false
def AV.asL:AV→LV | .vs _ es=>es () | _=>.nil
def AV.at (v:AV) (off:Nat):AV:=v.cells.getD off .any
def ckv (c:CK) (v:Unit→AV) (off:Nat):AV:=
 match c with
 | .i=>.i fun _=>((v ()).at off).asI
 | .u=>.u fun _=>((v ()).at off).asU
 | .b=>.b fun _=>((v ()).at off).asB
 | .sl n=>.vs n fun _=>((v ()).at off).asL
def ckvs (v:Unit→AV):Nat→List CK→List AV
 | _,[]=>[]
 | off,c :: r=>ckv c v off :: ckvs v (off+1) r
def vstay (t:TI) (v:Unit→AV) (off:Nat) (k:AV→Prop):Prop:=
 match t.k with
 | .struct _ | .array ..=>if t.cs.length=t.sz∧0<t.sz then (∀ _:Unit,((v ()).cells.drop off).take t.sz=ckvs v off t.cs)∧k (.agg (ckvs v off t.cs)) else False
 | .other=>False
 | _=>match t.cs with
  | [c]=>(∀ _:Unit,(v ()).cells[off]?=some (ckv c v off))∧k (ckv c v off)
  | _=>False
def AV.known:AV→Bool | .any=>false | .raw v=>v.oneCell' | _=>true
def vload (h:List Blk) (p:AV) (t:TI) (k:AV→Prop):Prop:=
 match p with
 | .vp v off=>match t.k with
  | .ptr _=>match (v ()).known with
   | true=>match (v ()).cells[off]? with
    | some (.vp u o)=>k (.vp u o)
    | _=>False
   | false=>False
  | .map _ _=>match (v ()).known with
   | true=>match (v ()).cells[off]? with
    | some (.vm ks vs)=>k (.vm ks vs)
    | _=>False
   | false=>False
  | _=>vstay t v off k
 | .ptr b off=>match h[b]? with
  | some (Blk.box v)=>match t.k with
   | .struct _ | .array ..=>if off+t.sz≤v.cells.length then k (.agg ((v.cells.drop off).take t.sz)) else False
   | .other=>False
   | _=>if off<v.cells.length then k (v.cells.getD off .any) else False
  | _=>False
 | .hp b g i off=>match h[b]? with
  | some (Blk.run g' _ es)=>(∀ _:Unit,g'=g∧i ()<(es ()).l.length)∧vstay t (fun _=>(es ()).l.getD (i ()) .any) off k
  | some (Blk.nest g' _ ess hole)=>match hole with
   | some (j,x)=>match t.k with
    | .struct _ | .array ..=>False
    | .other=>False
    | _=>match off with
     | 0=>(∀ _:Unit,g'=g∧i ()=j ()∧j ()<(ess ()).length)∧k x
     | _+1=>False
   | none=>False
  | _=>False
 | _=>False
def vfieldAddr (t:TK) (p:AV) (f:Nat) (k:AV→Prop):Prop:=
 match t with
 | .struct fs=>match fs[f]? with
  | some (o,s,_)=>if s=0 then False else match p with
   | .vp v off=>k (.vp v (off+o))
   | .ptr b off=>k (.ptr b (off+o))
   | .hp b g i off=>k (.hp b g i (off+o))
   | _=>False
  | none=>False
 | _=>False
def vfield (t:TK) (x:AV) (f:Nat) (k:AV→Prop):Prop:=
 match t with
 | .struct fs=>match fs[f]? with
  | some (o,s,ag)=>match x with
   | .agg cs=>match ag with
    | some true=>if s=0 then False else k (.agg ((cs.drop o).take s))
    | some false=>if o<cs.length then k (cs.getD o .any) else False
    | none=>False
   | _=>False
  | none=>False
 | _=>False
def vindexAddr (t:TK) (x ix:AV) (k:AV→Prop):Prop:=
 match t with
 | .slice _ sz _ _=>match ix with
  | .lit n=>match x with
   | .vs m es=>if m=sz then (∀ _:Unit,0≤n∧n<(es ()).l.length)∧k (.vp (fun _=>(es ()).l.getD n.toNat .any) 0) else False
   | .sl b g m off len=>if m=sz then (∀ _:Unit,0≤n∧n<len ())∧k (.hp b g (fun _=>off ()+n.toNat) 0) else False
   | _=>False
  | .i n=>match x with
   | .vs m es=>if m=sz then (∀ _:Unit,0≤n ()∧n ()<(es ()).l.length)∧k (.vp (fun _=>(es ()).l.getD (n ()).toNat .any) 0) else False
   | .sl b g m off len=>if m=sz then (∀ _:Unit,0≤n ()∧n ()<len ())∧k (.hp b g (fun _=>off ()+(n ()).toNat) 0) else False
   | _=>False
  | _=>False
 | .array m _ sz=>match ix with
  | .lit n=>if n.toNat<m then if 0≤n then match x with
    | .vp v off=>k (.vp v (off+n.toNat * sz))
    | .ptr b off=>k (.ptr b (off+n.toNat * sz))
    | .hp b g i off=>k (.hp b g i (off+n.toNat * sz))
    | _=>False
   else False else False
  | .i n=>∃ j:Nat,(∀ _:Unit,n ()=(j:Int))∧j<m∧(match x with
   | .vp v off=>k (.vp v (off+j * sz))
   | .ptr b off=>k (.ptr b (off+j * sz))
   | .hp b g i off=>k (.hp b g i (off+j * sz))
   | _=>False)
  | _=>False
 | _=>False
def vlen (t:TK) (x:AV) (k:AV→Prop):Prop:=
 match t with
 | .slice ..=>match x with
  | .vs _ es=>k (.i fun _=>(es ()).l.length)
  | .nils=>k (.lit 0)
  | .sl _ _ _ _ n=>k (.i fun _=>n ())
  | _=>False
 | _=>False
def knum (c:CK) (v:AV):Int:=match c with | .u=>(v.asU.toNat:Int) | .b=>if v.asB then 1 else 0 | _=>v.asI
def knumL:List CK→List AV→List Int
 | [],_=>[]
 | c :: cs,vs=>match vs with | []=>[] | v :: vs=>knum c v :: knumL cs vs
def knums (cs:List CK) (v:AV):List Int:=knumL cs v.cells
def mfind (cs:List CK) (ks:LV) (q:List Int):Option Nat:=ks.l.findIdx? fun v=>knums cs v == q
def mok (cs:List CK) (ks:LV):Prop:=∀ v∈ks.l,v=.agg (ckvs (fun _=>v) 0 cs)
def ckOk (c:CK) (v:AV):Bool:=
 match c with
 | .i=>match v with | .i _=>true | .lit _=>true | _=>false
 | .u=>match v with | .u _=>true | _=>false
 | .b=>match v with | .b _=>true | .tt=>true | .ff=>true | _=>false
 | .sl _=>false
def ckOks:List CK→List AV→Bool
 | [],vs=>match vs with | []=>true | _=>false
 | c :: cs,vs=>match vs with | []=>false | v :: vs=>ckOk c v && ckOks cs vs
def mval (f:Option Nat) (vs:LV) (z:AV):AV:=match f with | some i=>vs.l.getD i .any | none=>z
def keyTy (t:TI):Bool:=!t.eq.isEmpty && (match t.k with | .struct _=>true | .array ..=>true | _=>false)
def mapOf (h:List Blk) (m:AV):Option ((Unit→LV) × (Unit→LV)):=
 match m with
 | .mp b=>match h[b]? with
  | some (Blk.map ks vs)=>some (ks,vs)
  | _=>none
 | .vm ks vs=>some (ks,vs)
 | _=>none
def vlookQ (kt et:TI) (ks vs:Unit→LV) (x:AV) (ok:Bool) (k:AV→Prop):Prop:=
 match x with
 | .agg xs=>match keyTy kt && ckOks kt.eq xs with
  | true=>match et.zero with
   | some z=>match et.cs with
    | []=>match et.k with
     | .struct fs=>match fs with
      | []=>match z with
       | .agg zs=>match zs with
        | []=>(∀ _:Unit,mok kt.eq (ks ())∧∀ v∈(vs ()).l,v=.agg [])∧(match ok with | true=>k (.tup [.agg [],.b fun _=>(mfind kt.eq (ks ()) (knums kt.eq (.agg xs))).isSome]) | false=>k (.agg []))
        | _=>False
       | _=>False
      | _=>False
     | _=>False
    | c :: cs=>match cs with
     | []=>match ckOk c z && (match et.k with | .struct _=>false | .array ..=>false | .other=>false | _=>true) with
      | true=>(∀ _:Unit,mok kt.eq (ks ())∧∀ v∈(vs ()).l,v=ckv c (fun _=>v) 0) ∧
        (match ok with
        | true=>k (.tup [ckv c (fun _=>mval (mfind kt.eq (ks ()) (knums kt.eq (.agg xs))) (vs ()) z) 0,.b fun _=>(mfind kt.eq (ks ()) (knums kt.eq (.agg xs))).isSome])
        | false=>k (ckv c (fun _=>mval (mfind kt.eq (ks ()) (knums kt.eq (.agg xs))) (vs ()) z) 0))
      | false=>False
     | _=>False
   | none=>False
  | false=>False
 | _=>False
def vlookup (kt et:TI) (h:List Blk) (m x:AV) (ok:Bool) (k:AV→Prop):Prop:=
 match mapOf h m with
 | some q=>vlookQ kt et q.1 q.2 x ok k
 | none=>False
def vlenM (h:List Blk) (t:TK) (x:AV) (k:AV→Prop):Prop:=
 match t with
 | .map _ _=>match x with
  | .mp b=>match h[b]? with
   | some (Blk.map ks _)=>k (.i fun _=>(ks ()).l.length)
   | _=>False
  | _=>False
 | t=>vlen t x k
def vminmax (mx:Bool) (x y:AV) (k:AV→Prop):Prop:=
 match cI x with
 | some a=>match cI y with
  | some b=>match mx with
   | false=>k (.i fun _=>if b ()<a () then b () else a ())
   | true=>k (.i fun _=>if a ()<b () then b () else a ())
  | none=>False
 | none=>False
def vextract (x:AV) (i:Nat) (k:AV→Prop):Prop:=
 match x with
 | .tup vs=>match vs[i]? with
  | some v=>k v
  | none=>False
 | _=>False
def bld (place:Nat→Option (Nat × Nat)):List AV→List (Nat × AV)→Option (List AV)
 | cs,[]=>some cs
 | cs,(i,v) :: r=>match place i with
  | some (o,s)=>if v.cells.length=s then if o+s≤cs.length then bld place (cs.take o++v.cells++cs.drop (o+s)) r else none else none
  | none=>none
def vbuild (t:TI) (parts:List (Nat × AV)) (k:AV→Prop):Prop:=
 match t.zero with
 | some z=>if parts.all (fun p=>p.2.flat) then match t.k with
  | .struct fs=>match bld (fun i=>(fs[i]?).map fun f=>(f.1,f.2.1)) z.cells parts with
   | some cs=>k (.agg cs)
   | none=>False
  | .array _ _ sz=>match bld (fun i=>some (i * sz,sz)) z.cells parts with
   | some cs=>k (.agg cs)
   | none=>False
  | _=>False
  else False
 | none=>False
def AV.closed:AV→Bool
 | .any | .undef | .ptr .. | .hp .. | .sl .. | .mp _ | .tup _ | .v1 _=>false
 | .agg cs=>closeds cs
 | .fn _ a c=>closeds a && closeds c
 | _=>true
where closeds:List AV→Bool
 | []=>true
 | c :: r=>c.closed && closeds r
def setAll:List AV→List (Nat × AV)→List AV
 | l,[]=>l
 | l,(i,v) :: r=>setAll (l.set i v) r
def vbuildSlice0 (t:TK) (cs:List CK) (n:Nat) (parts:List (Nat × AV)) (k:AV→Prop):Prop:=
 match t with
 | .slice _ sz _ (some zero)=>if parts.all (fun p=>p.2.closed && p.2.flat && (p.2.cells.length == sz) && decide (p.1<n)) then
   if zero.closed && zero.flat && (zero.cells.length == sz) && decide (0<sz) && decide (n * sz≤16777216) then k (match n with | 0=>.nils | _+1=>.vs sz fun _=>LV.of ((setAll (List.replicate n zero) parts).map (AV.nrm cs))) else False
  else False
 | _=>False
def ownPart (parts:List (Nat × AV)):Option AV:=
 match parts with
 | [p]=>match p.1 with
  | 0=>match p.2.closed with
   | false=>some p.2
   | true=>none
  | _+1=>none
 | _=>none
def vbuild1 (t:TK) (n:Nat) (x:AV) (k:AV→Prop):Prop:=
 match t with
 | .slice _ sz _ (some zero)=>if ((n == 1) && (sz == 1) && (zero.cells.length == 1) && x.one)=true then k (.v1 x) else False
 | _=>False
def vbuildSlice (t:TK) (cs:List CK) (n:Nat) (parts:List (Nat × AV)) (k:AV→Prop):Prop:=
 match ownPart parts with
 | some x=>vbuild1 t n x k
 | none=>vbuildSlice0 t cs n parts k
def vslice (t:TK) (x:AV) (lo hi mx:Option AV) (k:AV→Prop):Prop:=
 match t with
 | .slice _ sz _ _=>match mx with
  | none=>
   match (match lo with | none=>some fun _=>(0:Int) | some (.lit n)=>some fun _=>n | some (.i n)=>some n | _=>none:Option (Unit→Int)) with
   | none=>False
   | some l=>match x with
    | .vs q es=>if q=sz then match (match hi with | none=>some fun _=>((es ()).l.length:Int) | some (.lit n)=>some fun _=>n | some (.i n)=>some n | _=>none:Option (Unit→Int)) with
     | none=>False
     | some m=>(∀ _:Unit,0≤l ()∧l ()≤m ()∧m ()≤(es ()).l.length)∧k (.vs q fun _=>LV.of (((es ()).l.drop (l ()).toNat).take ((m ()).toNat-(l ()).toNat))) else False
    | .sl b g q off n=>if q=sz then match (match hi with | none=>some fun _=>(n ():Int) | some (.lit n)=>some fun _=>n | some (.i n)=>some n | _=>none:Option (Unit→Int)) with
     | none=>False
     | some m=>(∀ _:Unit,0≤l ()∧l ()≤m ()∧m ()≤n ())∧k (.sl b g q (fun _=>off ()+(l ()).toNat) (fun _=>(m ()).toNat-(l ()).toNat)) else False
    | _=>False
  | some (.lit 0)=>match hi with
   | some (.lit 0)=>match x with
    | .vs ..=>match lo with
     | none=>k .nils
     | some (.lit 0)=>k .nils
     | _=>False
    | _=>False
   | _=>False
  | _=>False
 | _=>False
abbrev QC:=Nat→List AV→(AV→Prop)→Prop
def vq (τ:Nat→TI) (C:QC) (o:Op) (e:Operand→AV) (h:List Blk) (k:AV→Prop):Prop:=
 match o with
 | .move x=>k (e x)
 | .assign x=>k (e x)
 | .pick c x y=>br (e c) (fun _=>k (e x)) (fun _=>k (e y))
 | .build t ps=>vbuild (τ t) (ps.toList.map fun p=>(p.1,e p.2)) k
 | .buildSlice t n ps=>vbuildSlice (τ t).k (τ (τ t).k.elem).cs n (ps.toList.map fun p=>(p.1,e p.2)) k
 | .load t p=>vload h (e p) (τ t) k
 | .nilCheck p=>match e p with
  | .vp v off=>k (.vp v off)
  | .ptr b off=>k (.ptr b off)
  | .hp b g i off=>k (.hp b g i off)
  | .fn f a c=>k (.fn f a c)
  | _=>False
 | .binOp op t x y _=>vbin (τ t).k (τ t).eq op (e x) (e y) k
 | .unOp op _ x=>vun op (e x) k
 | .convert s t x=>vconv (τ s).k (τ t).k (e x) k
 | .makeFunc (.func f) a c=>k (.fn f (a.toList.map e) (c.toList.map e))
 | .slice t x lo hi mx=>vslice (τ t).k (e x) (lo.map e) (hi.map e) (mx.map e) k
 | .fieldAddr t p f=>vfieldAddr (τ t).k (e p) f k
 | .field t p f=>vfield (τ t).k (e p) f k
 | .indexAddr t x ix=>vindexAddr (τ t).k (e x) (e ix) k
 | .extract x ix=>vextract (e x) ix k
 | .call ⟨.builtin .len,args,ts⟩=>match args.toList with
  | [x]=>match ts.toList with
   | [t]=>vlenM h (τ t).k (e x) k
   | _=>False
  | _=>False
 | .call ⟨.builtin .min,args,_⟩=>match args.toList with
  | [x,y]=>vminmax false (e x) (e y) k
  | _=>False
 | .call ⟨.builtin .max,args,_⟩=>match args.toList with
  | [x,y]=>vminmax true (e x) (e y) k
  | _=>False
 | .lookup t m x ok=>match (τ t).k with
  | .map kt et=>vlookup (τ kt) (τ et) h (e m) (e x) ok k
  | _=>False
 | .call ⟨.value f,args,_⟩=>match e f with
  | .fn f a c=>C f (a++args.toList.map e++c) k
  | _=>False
 | _=>False
end Go.AL
namespace Go.AL
open Go
def Ty1:CK→Value→Prop
 | .i,v=>∃ n,v=.int .i64 n
 | .u,v=>∃ n,v=.int .u64 n
 | .b,v=>∃ b,v=.bool b
 | .sl _,_=>False
def TyL:List CK→List Value→Prop
 | [],vs=>vs=[]
 | c :: cs,vs=>∃ v r,vs=v :: r∧Ty1 c v∧TyL cs r
theorem TyL.len:∀ {cs:List CK} {vs:List Value},TyL cs vs→vs.length=cs.length
 | [],_,h=>by rw [show _=[] from h];rfl
 | _ :: _,_,⟨_,_,rfl,_,h⟩=>by simp [TyL.len h]
theorem TyL.app:∀ {cs ds:List CK} {vs:List Value},TyL (cs++ds) vs→TyL cs (vs.take cs.length)∧TyL ds (vs.drop cs.length)
 | [],ds,vs,h=>⟨by simp [TyL],by simpa using h⟩
 | c :: cs,ds,_,⟨v,r,rfl,h1,h2⟩=>⟨⟨v,_,rfl,h1,h2.app.1⟩,h2.app.2⟩
section
variable {P:Program}
def Shaped (P:Program) (t:TypeId) (v:Value) (l:List Value):Prop:=
 match P.underlying t with
 | some (.struct _) | some (.array _ _)=>v=.agg l.toArray
 | _=>l=[v]
theorem run_part {e:TypeId} {d:TypeDesc} {i:TypeInfo} (hu:P.underlying e=some d) (hi:P.info? e=some i) (w:World) (xs:List Value) (off:Nat) (h:off+i.size≤xs.length) (h1:d.isagg=false→i.size=1) :
  ∃ v,(part e xs.toArray off).run P w=.ok v w∧Shaped P e v ((xs.drop off).take i.size):=by
 unfold part isAgg Shaped
 rw [hu]
 have one:i.size=1→∃ v,xs[off]?=some v∧(xs.drop off).take i.size=[v]:=fun e=>by
  have hl:off<xs.length:=by omega
  refine ⟨xs[off],List.getElem?_eq_getElem hl,?_⟩
  rw [e,List.drop_eq_getElem_cons hl];rfl
 cases d with
 | struct fs=>exact ⟨.agg (xs.toArray.extract off (off+i.size)),by simp [run_underlying hu,sizeOf,typeInfo,hi],by simp [List.extract]⟩
 | array n e'=>exact ⟨.agg (xs.toArray.extract off (off+i.size)),by simp [run_underlying hu,sizeOf,typeInfo,hi],by simp [List.extract]⟩
 | _=>
  obtain ⟨v,hv,he⟩:=one (h1 rfl)
  exact ⟨v,by simp [run_underlying hu,hv],he⟩
def EqAtF (P:Program) (d:Nat) (e:TypeId) (cs:List CK):Prop:=
 ∀ (w:World) (x y:Value) (lx ly:List Value),Shaped P e x lx→Shaped P e y ly→TyL cs lx→TyL cs ly→∃ r:Bool,(Op.equalIn d e x y).run P w=.ok r w∧(r=true↔lx=ly)
def Okc (P:Program) (e:TypeId) (cs:List CK):Prop:=∃ d i,P.underlying e=some d∧P.info? e=some i∧i.size=cs.length∧(d.isagg=false→i.size=1)
theorem take_drop_app {l:List Value} {a b:Nat}:(l.drop a).take b++l.drop (a+b)=l.drop a:=by
 rw [←List.drop_drop,List.take_append_drop]
theorem run_fieldsF {d:Nat}:∀ (fs:List Field) (css:List (List CK)) (o:Nat) (xs ys:List Value),o≤xs.length→o≤ys.length→fs.length=css.length →
  (∀ (j : Nat) (f : Field) (cs : List CK), fs[j]? = some f → css[j]? = some cs → f.name ≠ "_" ∧ f.offset = o + ((css.take j).map List.length).sum ∧ EqAtF P d f.type cs ∧ Okc P f.type cs) →
  TyL css.flatten (xs.drop o)→TyL css.flatten (ys.drop o)→∀ w,∃ r:Bool,(Op.eqFields d xs.toArray ys.toArray fs).run P w=.ok r w∧(r=true↔xs.drop o=ys.drop o)
 | [],css,o,xs,ys,_,_,hl,_,hx,hy,w=>by
  have:css=[]:=by cases css<;>simp_all
  subst this
  have hx:xs.drop o=[]:=hx
  have hy:ys.drop o=[]:=hy
  exact ⟨true,by simp [Op.eqFields],by rw [hx,hy];simp⟩
 | f :: fs,css,o,xs,ys,hox,hoy,hl,hf,hx,hy,w=>by
  cases css with
  | nil=>simp at hl
  | cons cs css=>
   obtain ⟨h1,h2,h3,d0,i,h4,h5,h6,h7⟩:=hf 0 f cs rfl rfl
   have h2:f.offset=o:=by simpa using h2
   rw [List.flatten_cons] at hx hy
   have hxl:=hx.len
   have hyl:=hy.len
   simp only [List.length_append,List.length_drop] at hxl hyl
   obtain ⟨hx1,hx2⟩:=hx.app
   obtain ⟨hy1,hy2⟩:=hy.app
   have hxo:o+i.size≤xs.length:=by omega
   have hyo:o+i.size≤ys.length:=by omega
   obtain ⟨x,px,sx⟩:=run_part h4 h5 w xs o hxo h7
   obtain ⟨y,py,sy⟩:=run_part h4 h5 w ys o hyo h7
   rw [h6] at sx sy
   obtain ⟨r,hr,hiff⟩:=h3 w x y _ _ sx sy hx1 hy1
   obtain ⟨r',hr',hiff'⟩:=run_fieldsF fs css (o+cs.length) xs ys (by omega) (by omega) (by simpa using hl) (fun j f' cs' hj hcs=>by
    obtain ⟨k1,k2,k3⟩:=hf (j+1) f' cs' (by simpa using hj) (by simpa using hcs)
    exact ⟨k1,by rw [k2];simp;omega,k3⟩) (by rwa [List.drop_drop] at hx2) (by rwa [List.drop_drop] at hy2) w
   refine ⟨r && r',?_,?_⟩
   ·simp only [Op.eqFields,h2,if_pos h1,Sem.run_bind,px,py,hr,Result.andThen_ok]
    cases r
    ·simp
    ·simpa using hr'
   ·rw [Bool.and_eq_true,hiff,hiff']
    have ex:=take_drop_app (l:=xs) (a:=o) (b:=cs.length)
    have ey:=take_drop_app (l:=ys) (a:=o) (b:=cs.length)
    constructor
    ·rintro ⟨e1,e2⟩;rw [←ex,←ey,e1,e2]
    ·intro e
     rw [←ex,←ey] at e
     exact List.append_inj e (by rw [hx1.len,hy1.len])
theorem run_itemsF {d:Nat} {e:TypeId} {cs:List CK} (he:EqAtF P d e cs) (ho:Okc P e cs) (hc:P.cellsOf e=cs.length) (xs ys:List Value):∀ (n k:Nat),k * cs.length≤xs.length→k * cs.length≤ys.length →
  TyL (List.replicate n cs).flatten (xs.drop (k * cs.length))→TyL (List.replicate n cs).flatten (ys.drop (k * cs.length))→∀ w,∃ r:Bool,(Op.eqItems d e (P.cellsOf e) xs.toArray ys.toArray (List.range' k n)).run P w=.ok r w∧(r=true↔xs.drop (k * cs.length)=ys.drop (k * cs.length))
 | 0,k,_,_,hx,hy,w=>by
  have hx:xs.drop (k * cs.length)=[]:=hx
  have hy:ys.drop (k * cs.length)=[]:=hy
  exact ⟨true,by simp [Op.eqItems],by rw [hx,hy];simp⟩
 | n+1,k,hkx,hky,hx,hy,w=>by
  obtain ⟨d0,i,h4,h5,h6,h7⟩:=ho
  rw [List.replicate_succ,List.flatten_cons] at hx hy
  have hxl:=hx.len
  have hyl:=hy.len
  simp only [List.length_append,List.length_drop] at hxl hyl
  obtain ⟨hx1,hx2⟩:=hx.app
  obtain ⟨hy1,hy2⟩:=hy.app
  obtain ⟨x,px,sx⟩:=run_part h4 h5 w xs (k * cs.length) (by omega) h7
  obtain ⟨y,py,sy⟩:=run_part h4 h5 w ys (k * cs.length) (by omega) h7
  rw [h6] at sx sy
  obtain ⟨r,hr,hiff⟩:=he w x y _ _ sx sy hx1 hy1
  have hs:(k+1) * cs.length=k * cs.length+cs.length:=by rw [Nat.add_mul,Nat.one_mul]
  obtain ⟨r',hr',hiff'⟩:=run_itemsF he ⟨d0,i,h4,h5,h6,h7⟩ hc xs ys n (k+1) (by omega) (by omega) (by rw [hs,←List.drop_drop];exact hx2) (by rw [hs,←List.drop_drop];exact hy2) w
  refine ⟨r && r',?_,?_⟩
  ·rw [List.range'_succ]
   simp only [Op.eqItems,hc,Sem.run_bind,px,py,hr,Result.andThen_ok]
   rw [hc] at hr'
   cases r
   ·simp
   ·simpa using hr'
  ·rw [Bool.and_eq_true,hiff,hiff',hs]
   have ex:=take_drop_app (l:=xs) (a:=k * cs.length) (b:=cs.length)
   have ey:=take_drop_app (l:=ys) (a:=k * cs.length) (b:=cs.length)
   constructor
   ·rintro ⟨e1,e2⟩;rw [←ex,←ey,e1,e2]
   ·intro e
    rw [←ex,←ey] at e
    exact List.append_inj e (by rw [hx1.len,hy1.len])
theorem okc_of {g:TypeId} {cs:List CK} {d:TypeDesc} (hu:P.underlying g=some d) (hi:(P.info? g).map (·.size)=some cs.length) (h1:d.isagg=false→cs.length=1):Okc P g cs:=by
 cases hx:P.info? g with
 | none=>rw [hx] at hi;cases hi
 | some i=>
  rw [hx] at hi
  have hi:i.size=cs.length:=by simpa using hi
  exact ⟨d,i,hu,hx,hi,fun h=>by rw [hi];exact h1 h⟩
theorem flatC_one {f:Nat} {t:TypeId} {cs:List CK} {d:TypeDesc} (h:flatC P f t=some cs) (hu:P.underlying t=some d):d.isagg=false→cs.length=1:=by
 intro hd
 cases f with
 | zero=>cases h
 | succ f=>
  simp only [flatC,hu] at h
  cases d<;>simp at h<;>try (simp [TypeDesc.isagg] at hd;done)
  case bool=>obtain ⟨_,rfl⟩:=h;rfl
  case int k=>cases k<;>simp at h<;>(obtain ⟨_,rfl⟩:=h;rfl)
theorem und_of_flat {f:Nat} {t:TypeId} {cs:List CK} (h:flatC P f t=some cs):∃ d,P.underlying t=some d:=by
 cases f with
 | zero=>cases h
 | succ f=>
  simp only [flatC] at h
  cases hu:P.underlying t with
  | none=>rw [hu] at h;cases h
  | some d=>exact ⟨d,rfl⟩
theorem flatF_spec {g:TypeId→Option (List CK)}:∀ {fs:List Field} {o:Nat} {css:List (List CK)},flatF P g fs o=some css→fs.length=css.length ∧
  ∀ (j : Nat) (f : Field) (cs : List CK), fs[j]? = some f → css[j]? = some cs → f.name ≠ "_" ∧ f.offset = o + ((css.take j).map List.length).sum ∧ g f.type = some cs ∧ (P.info? f.type).map (·.size) = some cs.length
 | [],o,css,h=>by cases h;exact ⟨rfl,fun j f cs hj=>by simp at hj⟩
 | x :: r,o,css,h=>by
  unfold flatF at h
  split at h
  ·rename_i h0
   split at h
   ·rename_i cs hg
    split at h
    ·rename_i hs
     rw [Option.map_eq_some_iff] at h
     obtain ⟨css',h1,rfl⟩:=h
     obtain ⟨k1,k2⟩:=flatF_spec h1
     refine ⟨by simp [k1],fun j f cs' hj hcs=>?_⟩
     cases j with
     | zero=>simp at hj hcs;subst hj;subst hcs;exact ⟨h0.1,by simpa using h0.2,hg,hs.1⟩
     | succ j=>
      obtain ⟨m1,m2,m3⟩:=k2 j f cs' (by simpa using hj) (by simpa using hcs)
      exact ⟨m1,by rw [m2];simp;omega,m3⟩
    ·cases h
   ·cases h
  ·cases h
theorem eq_flat:∀ (f:Nat) (t:TypeId) (cs:List CK),flatC P f t=some cs→∀ d,f≤d→EqAtF P d t cs
 | 0,_,_,h,_,_=>by cases h
 | f+1,t,cs,h,d,hd=>by
  obtain ⟨d',rfl⟩:∃ d',d=d'+1:=⟨d-1,by omega⟩
  intro w x y lx ly hx hy tx ty
  obtain ⟨k,hu⟩:=und_of_flat h
  simp only [flatC,hu] at h
  cases k<;>simp at h
  case bool=>
   obtain ⟨_,rfl⟩:=h
   simp only [Shaped,hu] at hx hy
   subst hx;subst hy
   obtain ⟨_,_,e,⟨a,rfl⟩,_⟩:=tx;cases e
   obtain ⟨_,_,e,⟨b,rfl⟩,_⟩:=ty;cases e
   exact ⟨a == b,by simp [Op.equalIn,run_underlying hu],by simp⟩
  case int q=>
   cases q<;>simp at h
   all_goals
    obtain ⟨_,rfl⟩:=h
    simp only [Shaped,hu] at hx hy
    subst hx;subst hy
    obtain ⟨_,_,e,⟨a,rfl⟩,_⟩:=tx;cases e
    obtain ⟨_,_,e,⟨b,rfl⟩,_⟩:=ty;cases e
    exact ⟨a == b,by simp [Op.equalIn,run_underlying hu],by simp⟩
  case array n e=>
   split at h
   ·rename_i cs0 h0
    split at h
    ·rename_i hs
     cases h
     have hs:(P.info? e).map (·.size)=some cs0.length∧P.cellsOf e=cs0.length:=⟨by obtain ⟨a,h1,h2⟩:=hs.1;simp [h1,h2],hs.2⟩
     simp only [Shaped,hu] at hx hy
     subst hx;subst hy
     obtain ⟨k0,hu0⟩:=und_of_flat h0
     have hok:=okc_of hu0 hs.1 (flatC_one h0 hu0)
     obtain ⟨_,i0,_,hi0,_⟩:=hok
     obtain ⟨r,hr,hiff⟩:=run_itemsF (eq_flat f e cs0 h0 d' (by omega)) (okc_of hu0 hs.1 (flatC_one h0 hu0)) hs.2 lx ly n 0 (by simp) (by simp) (by simpa using tx) (by simpa using ty) w
     refine ⟨r,?_,by simpa using hiff⟩
     rw [run_equalIn_array w d' lx.toArray ly.toArray hu hi0,List.range_eq_range']
     exact hr
    ·cases h
   ·cases h
  case struct fs=>
   obtain ⟨hst,css,h1,rfl⟩:=h
   obtain ⟨k1,k2⟩:=flatF_spec h1
   simp only [Shaped,hu] at hx hy
   subst hx;subst hy
   have hfo:P.fieldsOf t=fs:=by simp [Program.fieldsOf,hu]
   obtain ⟨r,hr,hiff⟩:=run_fieldsF (d:=d') fs.toList css 0 lx ly (Nat.zero_le _) (Nat.zero_le _) k1 (fun j fl cs' hj hcs=>by
    obtain ⟨m1,m2,m3,m4⟩:=k2 j fl cs' hj hcs
    obtain ⟨k0,hu0⟩:=und_of_flat m3
    exact ⟨m1,m2,eq_flat f fl.type cs' m3 d' (by omega),okc_of hu0 m4 (flatC_one m3 hu0)⟩) (by simpa using tx) (by simpa using ty) w
   refine ⟨r,?_,by simpa using hiff⟩
   rw [run_equalIn_struct w d' t lx.toArray ly.toArray (by rw [hfo];exact hu) (by simpa using hst),hfo]
   exact hr
theorem ceqs_sound {S:Nat→Prop} {w:World} {ρ:Option (List Loc)}:∀ {cs:List CK} {xs ys:List AV} {f:Unit→Bool} {vx vy:List Value},ceqs cs xs ys=some f→Rs S w ρ xs vx→Rs S w ρ ys vy→TyL cs vx∧TyL cs vy∧(f ()=true↔vx=vy)
 | [],[],[],f,vx,vy,h,hx,hy=>by
  cases h
  have hx:vx=[]:=hx
  have hy:vy=[]:=hy
  subst hx;subst hy
  exact ⟨rfl,rfl,by simp⟩
 | c :: cs,x :: xs,y :: ys,f,vx,vy,h,hx,hy=>by
  simp only [ceqs] at h
  split at h
  ·rename_i g hg
   split at h
   ·rename_i g' hg'
    cases h
    obtain ⟨u,us,rfl,hu,hus⟩:=hx
    obtain ⟨v,vs,rfl,hv,hvs⟩:=hy
    obtain ⟨t1,t2,t3⟩:=ceqs_sound hg' hus hvs
    have key:Ty1 c u∧Ty1 c v∧(g ()=true↔u=v):=by
     cases c<;>simp only [ceq] at hg
     case i=>
      have toI:∀ {x:AV} {n:Unit→Int} {v:Value},cI x=some n→R S w ρ x v→v=.int .i64 (n ()):=fun {x n v} h hr=>by
       cases x<;>simp [cI] at h
       all_goals (subst h;exact hr)
      split at hg
      ·rename_i a b ha hb
       cases hg
       have e1:=toI ha hu;have e2:=toI hb hv
       subst e1;subst e2
       exact ⟨⟨_,rfl⟩,⟨_,rfl⟩,by simp⟩
      ·cases hg
     case u=>
      split at hg
      ·cases hg
       have hu:u=_:=hu
       have hv:v=_:=hv
       subst hu;subst hv
       refine ⟨⟨_,rfl⟩,⟨_,rfl⟩,?_⟩
       simp only [decide_eq_true_eq,Value.int.injEq,true_and]
       constructor
       ·intro e;rw [e]
       ·intro e
        apply BitVec.eq_of_toNat_eq
        exact Int.ofNat.inj e
      ·cases hg
     case b=>
      have toB:∀ {x:AV} {n:Unit→Bool} {v:Value},x.bool=some n→R S w ρ x v→v=.bool (n ()):=fun {x n v} h hr=>by
       cases x<;>simp [AV.bool] at h
       all_goals (subst h;exact hr)
      split at hg
      ·rename_i a b ha hb
       cases hg
       have e1:=toB ha hu;have e2:=toB hb hv
       subst e1;subst e2
       exact ⟨⟨_,rfl⟩,⟨_,rfl⟩,by simp⟩
      ·cases hg
     case sl=>cases hg
    refine ⟨⟨u,us,rfl,key.1,t1⟩,⟨v,vs,rfl,key.2.1,t2⟩,?_⟩
    simp only [Bool.and_eq_true,key.2.2,t3,List.cons.injEq]
   ·cases h
  ·cases h
 | [],[],_ :: _,_,_,_,h,_,_=>by cases h
 | [],_ :: _,_,_,_,_,h,_,_=>by cases h
 | _ :: _,[],_,_,_,_,h,_,_=>by cases h
 | _ :: _,_ :: _,[],_,_,_,h,_,_=>by cases h
theorem run_eqAgg {t:TypeId} {k:TypeDesc} (hu:P.underlying t=some k) (hk:k.isagg=true) (h0:(eqOf P t).isEmpty=false) {xs ys:List AV} {f:Unit→Bool} (h:ceqs (eqOf P t) xs ys=some f) {S:Nat→Prop} {w:World} {ρ:Option (List Loc)} {xv yv:Value} (hx:R S w ρ (.agg xs) xv) (hy:R S w ρ (.agg ys) yv) :
  (Op.equal t xv yv).run P w=.ok (f ()) w∧∀ op X Y,(eqGuard op t X Y xv yv).run P w=.ok () w:=by
 obtain ⟨vx,rfl,hx⟩:=hx
 obtain ⟨vy,rfl,hy⟩:=hy
 obtain ⟨t1,t2,t3⟩:=ceqs_sound h hx hy
 unfold eqOf at h0 t1 t2
 split at h0
 ·cases h0
 ·rename_i hg
  rw [if_neg hg] at t1 t2
  cases hf:flatC P 6 t with
  | none=>rw [hf] at h0;cases h0
  | some cs=>
   rw [hf] at t1 t2
   have sh:∀ v:List Value,Shaped P t (.agg v.toArray) v:=fun v=>by unfold Shaped;rw [hu];cases k<;>simp [TypeDesc.isagg] at hk ⊢
   obtain ⟨r,hr,hiff⟩:=eq_flat 6 t cs hf Op.maxDepth (by decide) w _ _ vx vy (sh vx) (sh vy) t1 t2
   refine ⟨?_,fun op X Y=>?_⟩
   ·unfold Op.equal
    rw [hr]
    congr 1
    rw [Bool.eq_iff_iff,hiff,t3]
   ·have hg':P.eqGuardType P.depth t=false:=by simpa using hg
    cases op<;>simp [eqGuard,hg']
end
end Go.AL
namespace Go.AL
open Go
section
variable {P:Program} {γ:Nat→Option AV}
theorem QOp.of_run {o:Oper} {e:Operand→AV} {h:List Blk} {v:AV}
  (hr:∀ B S ρ w (re:Operand→Value),HeapR B S γ ρ h w→(∀ x∈o.op.operands,R S w (some ρ) (e x) (re x))→∃ v',(execOp re o).run P w=.ok (.value v') w∧R S w (some ρ) v v'):QOp P γ o e h v:=by
 intro B S ρ w re a next Q' hh hx hn
 obtain ⟨v',h1,h2⟩:=hr B S ρ w re hh hx
 rw [h1]
 exact hn S w v' (ExtQ.refl S w) h2
theorem QOp.of_run' {o:Oper} {e:Operand→AV} {h:List Blk} {v:AV}
  (hr:∀ B S ρ w (re:Operand→Value),HeapR B S γ ρ h w→(∀ x∈o.op.operands,R S w (some ρ) (e x) (re x))→∃ v' S' w',(execOp re o).run P w=.ok (.value v') w'∧ExtQ S w S' w'∧R S' w' (some ρ) v v'):QOp P γ o e h v:=by
 intro B S ρ w re a next Q' hh hx hn
 obtain ⟨v',S',w',h1,h2,h3⟩:=hr B S ρ w re hh hx
 rw [h1]
 exact hn S' w' v' h2 h3
theorem wrap_u64 (x:Int):IntKind.u64.wrap x=((BitVec.ofInt 64 x).toNat:Int):=by
 rw [IntKind.wrap_u64,BitVec.toNat_ofInt,Int.toNat_of_nonneg (Int.emod_nonneg _ (by decide))]
 rfl
theorem ofInt_toNat (x:BitVec 64):BitVec.ofInt 64 (x.toNat:Int)=x:=by simp
theorem bits_u64 (op:BinOp) (x y:BitVec 64) (r:BitVec 64)
  (hr:(match op with | .and=>x &&& y | .or=>x ||| y | .xor=>x ^^^ y | _=>x &&& ~~~y)=r):bits op .u64 (x.toNat:Int) (y.toNat:Int)=(r.toNat:Int):=by
 subst hr
 unfold bits
 have e:∀ z:BitVec 64,IntKind.u64.wrap (z.toNat:Int)=(z.toNat:Int):=fun z=>by rw [wrap_u64,ofInt_toNat]
 show IntKind.u64.wrap _=_
 have hx:BitVec.ofInt IntKind.u64.bits (x.toNat:Int)=x:=ofInt_toNat x
 have hy:BitVec.ofInt IntKind.u64.bits (y.toNat:Int)=y:=ofInt_toNat y
 simp only [hx,hy]
 cases op<;>exact e _
theorem run_vbI {op:BinOp} {x y:Unit→Int} {k:AV→Prop} (t:TypeId) (h:vbI op x y k) :
  ∃ v,k v∧∀ w S ρ,∃ v',(binOp op t (.int .i64 (x ())) (.int .i64 (y ()))).run P w=.ok v' w∧R S w ρ v v':=by
 cases op<;>simp only [vbI] at h
 case add=>exact ⟨_,h,fun w S ρ=>⟨_,by rw [binOp_add];rfl,rfl⟩⟩
 case sub=>exact ⟨_,h,fun w S ρ=>⟨_,by rw [binOp_sub];rfl,rfl⟩⟩
 case mul=>exact ⟨_,h,fun w S ρ=>⟨_,by rw [binOp_mul];rfl,rfl⟩⟩
 case quo=>exact ⟨_,h.2,fun w S ρ=>⟨_,by rw [binOp_quo,Op.intDiv,if_neg (h.1 ())];rfl,rfl⟩⟩
 case rem=>exact ⟨_,h.2,fun w S ρ=>⟨_,by rw [binOp_rem,Op.intDiv,if_neg (h.1 ())];rfl,rfl⟩⟩
 case eql=>exact ⟨_,h,fun w S ρ=>⟨_,by rw [binOp_eql];rfl,by simp [R];rfl⟩⟩
 case neq=>exact ⟨_,h,fun w S ρ=>⟨_,by rw [binOp_neq];rfl,by simp [R,bne,BEq.beq]⟩⟩
 case lss=>exact ⟨_,h,fun w S ρ=>⟨_,by rw [binOp_lss];rfl,rfl⟩⟩
 case leq=>exact ⟨_,h,fun w S ρ=>⟨_,by rw [binOp_leq];rfl,rfl⟩⟩
 case gtr=>exact ⟨_,h,fun w S ρ=>⟨_,by rw [binOp_gtr];rfl,rfl⟩⟩
 case geq=>exact ⟨_,h,fun w S ρ=>⟨_,by rw [binOp_geq];rfl,rfl⟩⟩
theorem shl_u64 (x:BitVec 64) (n:Nat):IntKind.u64.wrap ((x.toNat:Int) * 2 ^ (min n IntKind.u64.bits))=((x <<< n).toNat:Int):=by
 have hb:IntKind.u64.bits=64:=rfl
 rw [IntKind.wrap_u64,hb,BitVec.toNat_shiftLeft,Nat.shiftLeft_eq]
 have h2:((x.toNat:Int) * 2 ^ (min n 64)) % 18446744073709551616=((x.toNat * 2 ^ (min n 64) % 18446744073709551616:Nat):Int):=by simp
 rw [h2]
 congr 1
 by_cases h:n≤64
 ·rw [Nat.min_eq_left h]
 ·rw [Nat.min_eq_right (by omega)]
  have e:2 ^ n=2 ^ 64 * 2 ^ (n-64):=by rw [←Nat.pow_add];congr 1;omega
  rw [e,←Nat.mul_assoc,Nat.mul_right_comm]
  simp
theorem shr_u64 (x:BitVec 64) (n:Nat):((x.toNat:Int).fdiv (2 ^ (min n IntKind.u64.bits)))=((x >>> n).toNat:Int):=by
 have hb:IntKind.u64.bits=64:=rfl
 rw [hb,BitVec.toNat_ushiftRight,Nat.shiftRight_eq_div_pow]
 have hp:(0:Int)≤2 ^ (min n 64):=Int.pow_nonneg (by decide)
 rw [Int.fdiv_eq_ediv_of_nonneg _ hp]
 have h2:((x.toNat:Int) / 2 ^ (min n 64))=((x.toNat / 2 ^ (min n 64):Nat):Int):=by simp
 rw [h2]
 congr 1
 by_cases h:n≤64
 ·rw [Nat.min_eq_left h]
 ·rw [Nat.min_eq_right (by omega),Nat.div_eq_of_lt x.isLt,Nat.div_eq_of_lt (Nat.lt_of_lt_of_le x.isLt (Nat.pow_le_pow_right (by decide) (by omega)))]
theorem run_shift_shl {yk:IntKind} (t:TypeId) (x:BitVec 64) (y:Int) (h:0≤y) (w:World):(binOp .shl t (.int .u64 (x.toNat:Int)) (.int yk y)).run P w=.ok (.int .u64 ((x <<< y.toNat).toNat:Int)) w:=by
 rw [binOp_shl,Op.shift,if_neg (by omega)]
 show Sem.run P (pure (Value.int .u64 (IntKind.u64.wrap _))) w=_
 rw [shl_u64];rfl
theorem run_shift_shr {yk:IntKind} (t:TypeId) (x:BitVec 64) (y:Int) (h:0≤y) (w:World):(binOp .shr t (.int .u64 (x.toNat:Int)) (.int yk y)).run P w=.ok (.int .u64 ((x >>> y.toNat).toNat:Int)) w:=by
 rw [binOp_shr,Op.shift,if_neg (by omega)]
 show Sem.run P (pure (Value.int .u64 _)) w=_
 rw [shr_u64];rfl
theorem toNat_inj' (x y:BitVec 64):((x.toNat:Int)=(y.toNat:Int))↔x=y:=by
 rw [Int.ofNat_inj];exact ⟨BitVec.eq_of_toNat_eq,fun h=>by rw [h]⟩
theorem run_vbU {op:BinOp} {x y:Unit→BitVec 64} {k:AV→Prop} (t:TypeId) (h:vbU op x y k) :
  ∃ v,k v∧∀ w S ρ,∃ v',(binOp op t (.int .u64 ((x ()).toNat:Int)) (.int .u64 ((y ()).toNat:Int))).run P w=.ok v' w∧R S w ρ v v':=by
 have hne:y ()≠0→¬ (((y ()).toNat:Int)=0):=fun h0 e=>h0 (BitVec.eq_of_toNat_eq (by simpa using e))
 cases op<;>simp only [vbU] at h
 case add=>exact ⟨_,h,fun w S ρ=>⟨_,by rw [binOp_add];rfl,by simp only [R];rw [wrap_u64,BitVec.ofInt_add];simp⟩⟩
 case sub=>exact ⟨_,h,fun w S ρ=>⟨_,by rw [binOp_sub];rfl,by simp only [R];rw [wrap_u64,Int.sub_eq_add_neg,BitVec.ofInt_add,BitVec.ofInt_neg];simp [BitVec.sub_eq_add_neg]⟩⟩
 case mul=>exact ⟨_,h,fun w S ρ=>⟨_,by rw [binOp_mul];rfl,by simp only [R];rw [wrap_u64,BitVec.ofInt_mul];simp⟩⟩
 case and=>exact ⟨_,h,fun w S ρ=>⟨_,by rw [binOp_and,intBits_and];rfl,by simp only [R];rw [bits_u64 _ _ _ _ rfl]⟩⟩
 case or=>exact ⟨_,h,fun w S ρ=>⟨_,by rw [binOp_or,intBits_or];rfl,by simp only [R];rw [bits_u64 _ _ _ _ rfl]⟩⟩
 case xor=>exact ⟨_,h,fun w S ρ=>⟨_,by rw [binOp_xor,intBits_xor];rfl,by simp only [R];rw [bits_u64 _ _ _ _ rfl]⟩⟩
 case andNot=>exact ⟨_,h,fun w S ρ=>⟨_,by rw [binOp_andNot,intBits_andNot];rfl,by simp only [R];rw [bits_u64 _ _ _ _ rfl]⟩⟩
 case quo=>exact ⟨_,h.2,fun w S ρ=>⟨_,by rw [binOp_quo,Op.intDiv,if_neg (hne (h.1 ()))];rfl,by
  simp only [R];rw [wrap_u64,←Int.ofNat_tdiv];simp only [BitVec.ofInt_natCast,BitVec.udiv_def]⟩⟩
 case rem=>exact ⟨_,h.2,fun w S ρ=>⟨_,by rw [binOp_rem,Op.intDiv,if_neg (hne (h.1 ()))];rfl,by
  simp only [R];rw [←Int.ofNat_tmod,BitVec.toNat_umod]⟩⟩
 case shl=>exact ⟨_,h,fun w S ρ=>⟨_,run_shift_shl t _ _ (by omega) w,by simp [R]⟩⟩
 case shr=>exact ⟨_,h,fun w S ρ=>⟨_,run_shift_shr t _ _ (by omega) w,by simp [R]⟩⟩
 case eql=>exact ⟨_,h,fun w S ρ=>⟨_,by rw [binOp_eql];rfl,by simp only [R];congr 1;rw [Bool.eq_iff_iff];simp [toNat_inj']⟩⟩
 case neq=>exact ⟨_,h,fun w S ρ=>⟨_,by rw [binOp_neq];rfl,by simp only [R];congr 1;rw [Bool.eq_iff_iff];simp [toNat_inj']⟩⟩
 case lss=>exact ⟨_,h,fun w S ρ=>⟨_,by rw [binOp_lss];rfl,by simp [R]⟩⟩
 case leq=>exact ⟨_,h,fun w S ρ=>⟨_,by rw [binOp_leq];rfl,by simp [R]⟩⟩
 case gtr=>exact ⟨_,h,fun w S ρ=>⟨_,by rw [binOp_gtr];rfl,by simp [R]⟩⟩
 case geq=>exact ⟨_,h,fun w S ρ=>⟨_,by rw [binOp_geq];rfl,by simp [R]⟩⟩
theorem tk_other {t:TypeId} (h:(tiOf P t).k≠.other):∃ d i,P.underlying t=some d∧P.info? t=some i∧tiOf P t=⟨kOf P d,i.size,i.zero.map ofV,cksOf P 6 t,eqOf P t⟩:=by
 unfold tiOf at *
 cases hd:P.underlying t with
 | none=>simp [hd] at h
 | some d=>cases hi:P.info? t with
  | none=>simp [hd,hi] at h
  | some i=>exact ⟨d,i,rfl,rfl,by simp⟩
theorem tk_bool {t:TypeId} (h:(tiOf P t).k=.bool):P.underlying t=some .bool:=by
 obtain ⟨d,i,h1,h2,h3⟩:=tk_other (P:=P) (t:=t) (by rw [h];simp)
 rw [h3] at h
 cases d<;>simp [kOf] at h
 case bool=>exact h1
 all_goals (split at h<;>simp at h)
theorem tk_int {t:TypeId} {k:IntKind} (h:(tiOf P t).k=.int k):P.underlying t=some (.int k):=by
 obtain ⟨d,i,h1,h2,h3⟩:=tk_other (P:=P) (t:=t) (by rw [h];simp)
 rw [h3] at h
 cases d<;>simp [kOf] at h
 case int=>subst h;exact h1
 all_goals (split at h<;>simp at h)
theorem tk_slice {t:TypeId} {e sz by':Nat} {z:Option AV} (h:(tiOf P t).k=.slice e sz by' z):P.underlying t=some (.slice e)∧∃ i,P.info? e=some i∧i.size=sz∧i.bytes=by'∧i.zero.map ofV=z:=by
 obtain ⟨d,i,h1,h2,h3⟩:=tk_other (P:=P) (t:=t) (by rw [h];simp)
 rw [h3] at h
 cases d<;>simp [kOf] at h
 all_goals (split at h<;>simp at h)
 rename_i x hx
 obtain ⟨rfl,h4,h5,h6⟩:=h
 exact ⟨h1,x,hx,h4,h5,h6⟩
theorem tk_array {t:TypeId} {n e sz:Nat} (h:(tiOf P t).k=.array n e sz):P.underlying t=some (.array n e)∧∃ i,P.info? e=some i∧i.size=sz:=by
 obtain ⟨d,i,h1,h2,h3⟩:=tk_other (P:=P) (t:=t) (by rw [h];simp)
 rw [h3] at h
 cases d<;>simp [kOf] at h
 all_goals (split at h<;>simp at h)
 rename_i x hx
 obtain ⟨rfl,rfl,h4⟩:=h
 exact ⟨h1,x,hx,h4⟩
theorem tk_struct {t:TypeId} {fs:List (Nat × Nat × Option Bool)} (h:(tiOf P t).k=.struct fs):∃ fd,P.underlying t=some (.struct fd)∧(fs=fd.toList.map fun f=>(f.offset,((P.info? f.type).map (·.size)).getD 0,aggOf P f.type))∧∀ f∈fd.toList,(P.info? f.type).isSome=true:=by
 obtain ⟨d,i,h1,h2,h3⟩:=tk_other (P:=P) (t:=t) (by rw [h];simp)
 rw [h3] at h
 cases d<;>simp [kOf] at h
 all_goals (split at h<;>simp at h)
 case struct.isTrue fd hf=>
  refine ⟨fd,h1,h.symm,fun f hm=>?_⟩
  obtain ⟨i,hi,rfl⟩:=List.mem_iff_getElem.1 hm
  simpa using hf i (by simpa using hi)
theorem run_isAgg {t:TypeId} {d:TypeDesc} (h:P.underlying t=some d) (w:World):(isAgg t).run P w=.ok d.isagg w:=by
 simp only [isAgg,Sem.run_bind,run_underlying h,Result.andThen_ok]
 cases d<;>rfl
theorem run_typeInfo {t:TypeId} {i:TypeInfo} (h:P.info? t=some i) (w:World):(typeInfo t).run P w=.ok i w:=by simp [typeInfo,h]
theorem run_sizeOf {t:TypeId} {i:TypeInfo} (h:P.info? t=some i) (w:World):(sizeOf t).run P w=.ok i.size w:=by simp [sizeOf,run_typeInfo h]
theorem run_zeroValue {t:TypeId} {i:TypeInfo} {z:Value} (h:P.info? t=some i) (hz:i.zero=some z) (w:World):(zeroValue t).run P w=.ok z w:=by simp [zeroValue,run_typeInfo h,hz]
theorem run_vbin {op:BinOp} {x y:AV} {k:AV→Prop} (t:TypeId) (h:vbin (tiOf P t).k (tiOf P t).eq op x y k) :
  ∃ v,k v∧∀ w S ρ xv yv (X Y:Operand),R S w ρ x xv→R S w ρ y yv→∃ v',(do eqGuard op t X Y xv yv;binOp op t xv yv:Sem Value).run P w=.ok v' w∧R S w ρ v v':=by
 have int:∀ (x y:Unit→Int),vbI op x y k→∃ v,k v∧∀ w S ρ (X Y:Operand),∃ v',(do eqGuard op t X Y (.int .i64 (x ())) (.int .i64 (y ()));binOp op t (.int .i64 (x ())) (.int .i64 (y ())):Sem Value).run P w=.ok v' w∧R S w ρ v v':=by
  intro x y h
  obtain ⟨v,h1,h2⟩:=run_vbI (P:=P) t h
  refine ⟨v,h1,fun w S ρ X Y=>?_⟩
  obtain ⟨v',h3,h4⟩:=h2 w S ρ
  exact ⟨v',by rw [eqGuard_at_int];simpa using h3,h4⟩
 have ui:∀ (x:Unit→BitVec 64) (y:Unit→Int),vbUI op x y k→∃ v,k v∧∀ w S ρ (X Y:Operand),∃ v',(do eqGuard op t X Y (.int .u64 ((x ()).toNat:Int)) (.int .i64 (y ()));binOp op t (.int .u64 ((x ()).toNat:Int)) (.int .i64 (y ())):Sem Value).run P w=.ok v' w∧R S w ρ v v':=by
  intro x y h
  cases op<;>simp only [vbUI] at h
  case shl=>exact ⟨_,h.2,fun w S ρ X Y=>⟨_,by rw [eqGuard_at_int];simpa using run_shift_shl t _ _ (h.1 ()) w,by simp [R]⟩⟩
  case shr=>exact ⟨_,h.2,fun w S ρ X Y=>⟨_,by rw [eqGuard_at_int];simpa using run_shift_shr t _ _ (h.1 ()) w,by simp [R]⟩⟩
 unfold vbin at h
 split at h
 ·rename_i x
  split at h
  ·rename_i y
   obtain ⟨v,h1,h2⟩:=int x y h
   exact ⟨v,h1,fun w S ρ xv yv X Y hx hy=>by simp only [R] at hx hy;subst hx;subst hy;exact h2 w S ρ X Y⟩
  ·rename_i y
   obtain ⟨v,h1,h2⟩:=int x (fun _=>y) h
   exact ⟨v,h1,fun w S ρ xv yv X Y hx hy=>by simp only [R] at hx hy;subst hx;subst hy;exact h2 w S ρ X Y⟩
  ·exact h.elim
 ·rename_i x
  split at h
  ·rename_i y
   obtain ⟨v,h1,h2⟩:=int (fun _=>x) y h
   exact ⟨v,h1,fun w S ρ xv yv X Y hx hy=>by simp only [R] at hx hy;subst hx;subst hy;exact h2 w S ρ X Y⟩
  ·rename_i y
   obtain ⟨v,h1,h2⟩:=int (fun _=>x) (fun _=>y) h
   exact ⟨v,h1,fun w S ρ xv yv X Y hx hy=>by simp only [R] at hx hy;subst hx;subst hy;exact h2 w S ρ X Y⟩
  ·exact h.elim
 ·rename_i x
  split at h
  ·rename_i y
   obtain ⟨v,h1,h2⟩:=run_vbU (P:=P) t h
   refine ⟨v,h1,fun w S ρ xv yv X Y hx hy=>?_⟩
   simp only [R] at hx hy;subst hx;subst hy
   obtain ⟨v',h3,h4⟩:=h2 w S ρ
   exact ⟨v',by rw [eqGuard_at_int];simpa using h3,h4⟩
  ·rename_i y
   obtain ⟨v,h1,h2⟩:=ui x y h
   exact ⟨v,h1,fun w S ρ xv yv X Y hx hy=>by simp only [R] at hx hy;subst hx;subst hy;exact h2 w S ρ X Y⟩
  ·rename_i y
   obtain ⟨v,h1,h2⟩:=ui x (fun _=>y) h
   exact ⟨v,h1,fun w S ρ xv yv X Y hx hy=>by simp only [R] at hx hy;subst hx;subst hy;exact h2 w S ρ X Y⟩
  ·exact h.elim
 ·rename_i xs
  split at h
  ·rename_i ys
   split at h
   ·rename_i hb
    rw [Bool.or_eq_false_iff] at hb
    obtain ⟨hb1,hb2⟩:=hb
    split at h
    ·rename_i f hf
     obtain ⟨_,i,_,_,h3⟩:=tk_other (P:=P) (t:=t) (fun e=>by rw [e] at hb2;cases hb2)
     have hd:∃ d,P.underlying t=some d∧d.isagg=true:=by
      cases hk:(tiOf P t).k with
      | struct fs=>obtain ⟨fd,h1,_⟩:=tk_struct hk;exact ⟨_,h1,rfl⟩
      | array n e sz=>obtain ⟨h1,_⟩:=tk_array hk;exact ⟨_,h1,rfl⟩
      | _=>rw [hk] at hb2;simp at hb2
     obtain ⟨d,hu,hd⟩:=hd
     have he:(tiOf P t).eq=eqOf P t:=by rw [h3]
     rw [he] at hb1 hf
     cases op<;>simp only at h<;>first | exact h.elim | skip
     ·refine ⟨_,h,fun w S ρ xv yv X Y hx hy=>?_⟩
      obtain ⟨r1,r2⟩:=run_eqAgg hu hd hb1 hf hx hy
      obtain ⟨vx,rfl,_⟩:=hx
      obtain ⟨vy,rfl,_⟩:=hy
      exact ⟨.bool (f ()),by simp only [Sem.run_bind,r2,Result.andThen_ok,binOp,r1,Sem.run_pure],rfl⟩
     ·refine ⟨_,h,fun w S ρ xv yv X Y hx hy=>?_⟩
      obtain ⟨r1,r2⟩:=run_eqAgg hu hd hb1 hf hx hy
      obtain ⟨vx,rfl,_⟩:=hx
      obtain ⟨vy,rfl,_⟩:=hy
      exact ⟨.bool (!(f ())),by simp only [Sem.run_bind,r2,Result.andThen_ok,binOp,r1,Sem.run_pure],rfl⟩
    ·exact h.elim
   ·exact h.elim
  ·exact h.elim
 ·rename_i x _ _ _ _
  split at h
  ·rename_i htk
   have ht:=tk_bool htk
   split at h
   ·rename_i bx hbx
    split at h
    ·rename_i bz hby
     have rb:∀ (a:AV) (f:Unit→Bool),a.bool=some f→∀ w S ρ v,R S w ρ a v→v=.bool (f ()):=by
      intro a f ha w S ρ v hv
      cases a<;>simp [AV.bool] at ha<;>subst ha<;>exact hv
     cases op<;>simp only [vbB] at h
     case eql=>
      refine ⟨_,h,fun w S ρ xv yv X Y hx hy=>?_⟩
      rw [rb _ _ hbx _ _ _ _ hx,rb _ _ hby _ _ _ _ hy]
      exact ⟨_,by rw [eqGuard_at_bool];simpa using run_eql_bool w t _ _ ht,rfl⟩
     case neq=>
      refine ⟨_,h,fun w S ρ xv yv X Y hx hy=>?_⟩
      rw [rb _ _ hbx _ _ _ _ hx,rb _ _ hby _ _ _ _ hy]
      exact ⟨_,by rw [eqGuard_at_bool];simpa using run_neq_bool w t _ _ ht,by simp [R,bne]⟩
    ·exact h.elim
   ·exact h.elim
  ·exact h.elim
end
end Go.AL
namespace Go.AL
open Go
section
variable {P:Program}
theorem run_loadCellsFrom' (b off:Nat) (w:World):∀ (vals:List Value) (i:Nat) (acc:Array Value),(∀ (j:Nat) (c:Value),vals[j]?=some c→w.cell? ⟨b,off+(i+j),none⟩=some c) →
  (loadCellsFrom ⟨b,off,none⟩ i vals.length acc).run P w=.ok (acc++vals.toArray) w
 | [],i,acc,_=>by simp [loadCellsFrom]
 | v :: vals,i,acc,h=>by
  have h0:=h 0 v rfl
  simp only [Nat.add_zero] at h0
  simp only [List.length_cons,loadCellsFrom,Sem.run_bind,Addr.add_lit,run_load,h0,Result.andThen_ok]
  rw [run_loadCellsFrom' b off w vals (i+1) (acc.push v) (fun j c hc=>by have:=h (j+1) c (by simpa using hc);rw [show i+1+j=i+(j+1) from by omega];exact this)]
  simp
theorem run_loadCells' (b off:Nat) (w:World) (vals:List Value) (h:∀ (j:Nat) (c:Value),vals[j]?=some c→w.cell? ⟨b,off+j,none⟩=some c) :
  (loadCells ⟨b,off,none⟩ vals.length).run P w=.ok vals.toArray w:=by
 unfold loadCells
 rw [run_loadCellsFrom' b off w vals 0 #[] (fun j c hc=>by simpa using h j c hc)]
 simp
theorem run_loadVar_one {t:TypeId} {d:TypeDesc} (hd:P.underlying t=some d) (hn:d.isagg=false) (b off:Nat) (w:World) (v:Value) (h:w.cell? ⟨b,off,none⟩=some v) :
  (loadVar t ⟨b,off,none⟩).run P w=.ok v w:=by
 simp only [loadVar,Sem.run_bind,run_isAgg hd,Result.andThen_ok,hn,Bool.false_eq_true,if_false]
 simp [h]
theorem run_loadVar_agg {t:TypeId} {d:TypeDesc} {i:TypeInfo} (hd:P.underlying t=some d) (hi:P.info? t=some i) (hn:d.isagg=true) (b off:Nat) (w:World) (vals:List Value)
  (hl:vals.length=i.size) (h:∀ (j:Nat) (c:Value),vals[j]?=some c→w.cell? ⟨b,off+j,none⟩=some c) :
  (loadVar t ⟨b,off,none⟩).run P w=.ok (.agg vals.toArray) w:=by
 simp only [loadVar,Sem.run_bind,run_isAgg hd,Result.andThen_ok,hn,if_true,run_sizeOf hi]
 rw [←hl,run_loadCells' b off w vals h]
 rfl
theorem ckvs_length (v:Unit→AV):∀ (cs:List CK) (off:Nat),(ckvs v off cs).length=cs.length
 | [],_=>rfl
 | _ :: cs,off=>by simp [ckvs,ckvs_length v cs (off+1)]
theorem R_cells' {S:Nat→Prop} {w:World} {ρ:Option (List Loc)} {x:AV} {v:Value} (h:R S w ρ x v) (h1:x.known=true):Rs S w ρ x.cells v.cells.toList:=by
 cases x
 case any=>cases h1
 case agg cs=>
  simp only [R] at h
  obtain ⟨vals,rfl,h2⟩:=h
  simpa [AV.cells,Value.cells] using h2
 case undef=>have h0:=h;simp only [R] at h;subst h;exact ⟨_,[],rfl,h0,rfl⟩
 case tup=>have h0:=h;obtain ⟨vals,rfl,h2⟩:=h;exact ⟨_,[],rfl,h0,rfl⟩
 all_goals
  have h2:=R_one h (by first | rfl | exact h1)
  rw [cells_of_one h2]
  exact ⟨v,[],rfl,h,rfl⟩
theorem known_of_cells {x:AV} {off n:Nat} {l:List AV} (h:(x.cells.drop off).take n=l) (hl:∀ c∈l,c.known=true) (h0:l≠[]):x.known=true:=by
 cases x<;>first
  | rfl
  | (
   simp only [AV.cells] at h
   cases off with
   | succ o=>simp at h;exact (h0 (by first | exact h | exact h.symm)).elim
   | zero=>cases n with
    | zero=>simp at h;exact (h0 (by first | exact h | exact h.symm)).elim
    | succ n=>simp at h;subst h;exact hl _ (by simp))
theorem known_ckv (c:CK) (v:Unit→AV) (off:Nat):(ckv c v off).known=true:=by cases c<;>rfl
theorem known_ckvs (v:Unit→AV):∀ (cs:List CK) (off:Nat),∀ c∈ckvs v off cs,c.known=true
 | [],_,c,h=>by cases h
 | x :: cs,off,c,h=>by
  simp only [ckvs,List.mem_cons] at h
  rcases h with rfl | h
  ·exact known_ckv _ _ _
  ·exact known_ckvs v cs (off+1) c h
theorem Rs_none {S:Nat→Prop} {w:World} {ρ:List Loc} {cs:List AV} {vals:List Value} (h:Rs S w none cs vals):Rs S w (some ρ) cs vals:=
 Rs.mono (fun _ h=>h) (fun _ _=>rfl) (ρ:=none) (ρ':=some ρ) trivial cs vals h
theorem R_none {S:Nat→Prop} {w:World} {ρ:List Loc} {c:AV} {v:Value} (h:R S w none c v):R S w (some ρ) c v:=
 R.mono (fun _ h=>h) (fun _ _=>rfl) (ρ:=none) (ρ':=some ρ) trivial c v h
theorem tk_agg {t:TypeId} {d:TypeDesc} (hd:P.underlying t=some d) (hk:(tiOf P t).k≠.other):(d.isagg=true↔(∃ fs,(tiOf P t).k=.struct fs)∨∃ n e sz,(tiOf P t).k=.array n e sz):=by
 obtain ⟨d',i,h1,h2,h3⟩:=tk_other hk
 obtain rfl:d=d':=by rw [hd] at h1;exact Option.some.inj h1
 rw [h3] at hk ⊢
 cases d<;>simp [TypeDesc.isagg,kOf] at hk ⊢
 all_goals (split<;>simp_all)
theorem run_vstay {t:TypeId} {v:Unit→AV} {off:Nat} {k:AV→Prop} (h:vstay (tiOf P t) v off k) :
  ∃ x,k x∧∀ S w ρ (b o:Nat) (xv:Value),R S w none (v ()) xv→(∀ j c,xv.cells[j]?=some c→w.cell? ⟨b,o+j,none⟩=some c)→∃ x',(loadVar t ⟨b,o+off,none⟩).run P w=.ok x' w∧R S w (some ρ) x x':=by
 have hk:(tiOf P t).k≠.other:=by intro e;simp [vstay,e] at h
 obtain ⟨d,i,h1,h2,h3⟩:=tk_other hk
 have hagg:=tk_agg h1 hk
 have aggs:d.isagg=true→(if (tiOf P t).cs.length=(tiOf P t).sz∧0<(tiOf P t).sz then (∀ _:Unit,((v ()).cells.drop off).take (tiOf P t).sz=ckvs v off (tiOf P t).cs)∧k (.agg (ckvs v off (tiOf P t).cs)) else False) →
   ∃ x,k x∧∀ S w ρ (b o:Nat) (xv:Value),R S w none (v ()) xv→(∀ j c,xv.cells[j]?=some c→w.cell? ⟨b,o+j,none⟩=some c)→∃ x',(loadVar t ⟨b,o+off,none⟩).run P w=.ok x' w∧R S w (some ρ) x x':=by
  intro ha h
  split at h
  ·rename_i hsz
   obtain ⟨hc,hkx⟩:=h
   have hc:=hc ()
   refine ⟨_,hkx,fun S w ρ b o xv hr hm=>?_⟩
   have hne:ckvs v off (tiOf P t).cs≠[]:=by intro e;have:=ckvs_length v (tiOf P t).cs off;rw [e] at this;simp at this;omega
   have hkn:=known_of_cells hc (known_ckvs v _ off) hne
   have hcs:=R_cells' hr hkn
   have h4:=Rs_take (Rs_drop hcs off) (tiOf P t).sz
   rw [hc] at h4
   have hlen:=Rs_len h4
   rw [ckvs_length,hsz.1] at hlen
   refine ⟨_,run_loadVar_agg h1 h2 ha b (o+off) w ((xv.cells.toList.drop off).take (tiOf P t).sz) (by rw [hlen,h3]) (fun j c hj=>?_),⟨_,rfl,Rs_none h4⟩⟩
   rw [List.getElem?_take] at hj
   split at hj
   ·rw [List.getElem?_drop] at hj
    rw [Nat.add_assoc]
    exact hm _ _ (by simpa using hj)
   ·cases hj
  ·exact h.elim
 have ones:d.isagg=false→(match (tiOf P t).cs with | [c]=>(∀ _:Unit,(v ()).cells[off]?=some (ckv c v off))∧k (ckv c v off) | _=>False) →
   ∃ x,k x∧∀ S w ρ (b o:Nat) (xv:Value),R S w none (v ()) xv→(∀ j c,xv.cells[j]?=some c→w.cell? ⟨b,o+j,none⟩=some c)→∃ x',(loadVar t ⟨b,o+off,none⟩).run P w=.ok x' w∧R S w (some ρ) x x':=by
  intro ha h
  split at h
  ·rename_i c hcs
   obtain ⟨hc,hkx⟩:=h
   have hc:=hc ()
   refine ⟨_,hkx,fun S w ρ b o xv hr hm=>?_⟩
   have hkn:(v ()).known=true:=known_of_cells (n:=1) (off:=off) (l:=[ckv c v off]) (by
    rw [List.take_one];rw [List.head?_drop];rw [hc];rfl) (by intro x hx;simp at hx;subst hx;exact known_ckv _ _ _) (by simp)
   obtain ⟨u,hu,hru⟩:=Rs_get (R_cells' hr hkn) hc
   exact ⟨u,run_loadVar_one h1 ha b (o+off) w u (hm off u (by simpa using hu)),R_none hru⟩
  ·exact h.elim
 unfold vstay at h
 split at h
 ·rename_i fs hfs;exact aggs (hagg.2 (.inl ⟨fs,hfs⟩)) h
 ·rename_i n e sz hfs;exact aggs (hagg.2 (.inr ⟨n,e,sz,hfs⟩)) h
 ·exact h.elim
 ·rename_i hn1 hn2 hn3
  refine ones ?_ h
  cases hx:d.isagg with
  | false=>rfl
  | true=>
   rcases hagg.1 hx with ⟨fs,hfs⟩ | ⟨n,e,sz,hfs⟩
   ·exact (hn1 fs hfs).elim
   ·exact (hn2 n e sz hfs).elim
end
end Go.AL
namespace Go.AL
open Go
section
variable {P:Program} {γ:Nat→Option AV}
theorem cell_heap {w:World} {K:Nat} {c:Array Value} {ty:TypeId} {fr:Nat × Nat} (h:w.heap[K]?=some (.cells c ty fr)) (j:Nat):w.cell? ⟨K,j,none⟩=c[j]?:=by
 simp [World.cell?,h]
theorem getElem?_getD {l:List AV} {i:Nat} (h:i<l.length):l[i]?=some (l.getD i .any):=by
 rw [List.getD_eq_getElem?_getD,List.getElem?_eq_getElem h];rfl
def TK.isAgg':TK→Bool | .struct _ | .array ..=>true | _=>false
theorem run_vload {t:TypeId} {h:List Blk} {p:AV} {k:AV→Prop} (hv:vload h p (tiOf P t) k) :
  ∃ x,k x∧∀ B S ρ w p',HeapR B S γ ρ h w→R S w (some ρ) p p'→∃ x',(Instr.loadAt t p').run P w=.ok x' w∧R S w (some ρ) x x':=by
 unfold vload at hv
 split at hv
 ·rename_i v off
  split at hv
  ·rename_i et hkt
   split at hv
   ·rename_i hkn
    split at hv
    ·rename_i u o hc
     refine ⟨_,hv,fun B S ρ w p' hh hp=>?_⟩
     obtain ⟨a,xv,rfl,h4,h5,h6⟩:=hp
     have hk:(tiOf P t).k≠.other:=by rw [hkt];simp
     obtain ⟨d,i,h1,h2,h3⟩:=tk_other hk
     have hagg:=tk_agg h1 hk
     have ha:d.isagg=false:=by
      cases hx:d.isagg with
      | false=>rfl
      | true=>rcases hagg.1 hx with ⟨fs,hfs⟩ | ⟨n,e,sz,hfs⟩<;>(rw [hkt] at hfs;cases hfs)
     obtain ⟨y,hy,hry⟩:=Rs_get (R_cells' h4 hkn) hc
     have hr:=run_loadVar_one (P:=P) h1 ha a.block (a.off+off) w y (h6 off y (by simpa using hy))
     exact ⟨y,by simpa [Instr.loadAt,Instr.sureAddr] using hr,R_none hry⟩
    ·exact hv.elim
   ·exact hv.elim
  ·rename_i kt et hkt
   split at hv
   ·rename_i hkn
    split at hv
    ·rename_i ks vs hc
     refine ⟨_,hv,fun B S ρ w p' hh hp=>?_⟩
     obtain ⟨a,xv,rfl,h4,h5,h6⟩:=hp
     have hk:(tiOf P t).k≠.other:=by rw [hkt];simp
     obtain ⟨d,i,h1,h2,h3⟩:=tk_other hk
     have hagg:=tk_agg h1 hk
     have ha:d.isagg=false:=by
      cases hx:d.isagg with
      | false=>rfl
      | true=>rcases hagg.1 hx with ⟨fs,hfs⟩ | ⟨n,e,sz,hfs⟩<;>(rw [hkt] at hfs;cases hfs)
     obtain ⟨y,hy,hry⟩:=Rs_get (R_cells' h4 hkn) hc
     have hr:=run_loadVar_one (P:=P) h1 ha a.block (a.off+off) w y (h6 off y (by simpa using hy))
     exact ⟨y,by simpa [Instr.loadAt,Instr.sureAddr] using hr,R_none hry⟩
    ·exact hv.elim
   ·exact hv.elim
  ·obtain ⟨x,h1,h2⟩:=run_vstay hv
   refine ⟨x,h1,fun B S ρ w p' hh hp=>?_⟩
   obtain ⟨a,xv,rfl,h4,h5,h6⟩:=hp
   obtain ⟨x',h7,h8⟩:=h2 S w ρ a.block a.off xv h4 h6
   exact ⟨x',by simpa [Instr.loadAt,Instr.sureAddr] using h7,h8⟩
 ·rename_i b off
  split at hv
  ·rename_i v hb
   have hk:(tiOf P t).k≠.other:=by intro e;simp [e] at hv
   obtain ⟨d,i,h1,h2,h3⟩:=tk_other hk
   have hagg:=tk_agg h1 hk
   have common:∀ B S ρ w p',HeapR B S γ ρ h w→R S w (some ρ) (.ptr b off) p'→∃ K xv,p'=.pointer (some ⟨K,off,none⟩)∧R S w (some ρ) v xv∧Rs S w (some ρ) v.cells xv.cells.toList∧∀ j,w.cell? ⟨K,j,none⟩=xv.cells[j]?:=by
    intro B S ρ w p' hh hp
    obtain ⟨l,loc,K,hl,k1,k2,k3,rfl⟩:=hp
    cases hl
    obtain ⟨_,K',ty,xv,k4,k5,k6,k7⟩:=hh.blk b _ loc hb k1
    rw [k3] at k4;cases k4
    exact ⟨K,xv,rfl,k6,(R_cells k6 k7).1,cell_heap k5⟩
   have aggs:d.isagg=true→(if off+(tiOf P t).sz≤v.cells.length then k (.agg ((v.cells.drop off).take (tiOf P t).sz)) else False) →
     ∃ x,k x∧∀ B S ρ w p',HeapR B S γ ρ h w→R S w (some ρ) (.ptr b off) p'→∃ x',(Instr.loadAt t p').run P w=.ok x' w∧R S w (some ρ) x x':=by
    intro ha hv
    split at hv
    ·rename_i hsz
     refine ⟨_,hv,fun B S ρ w p' hh hp=>?_⟩
     obtain ⟨K,xv,rfl,_,k1,k2⟩:=common B S ρ w p' hh hp
     have h4:=Rs_take (Rs_drop k1 off) (tiOf P t).sz
     have hlen:=Rs_len h4
     have hr:=run_loadVar_agg (P:=P) h1 h2 ha K off w ((xv.cells.toList.drop off).take (tiOf P t).sz) (by rw [hlen];simp [h3] at hsz ⊢;omega) (fun j c hj=>by
      rw [List.getElem?_take] at hj
      split at hj
      ·rw [List.getElem?_drop] at hj;rw [k2];simpa using hj
      ·cases hj)
     exact ⟨_,by simpa [Instr.loadAt,Instr.sureAddr] using hr,⟨_,rfl,h4⟩⟩
    ·exact hv.elim
   have ones:d.isagg=false→(if off<v.cells.length then k (v.cells.getD off .any) else False) →
     ∃ x,k x∧∀ B S ρ w p',HeapR B S γ ρ h w→R S w (some ρ) (.ptr b off) p'→∃ x',(Instr.loadAt t p').run P w=.ok x' w∧R S w (some ρ) x x':=by
    intro ha hv
    split at hv
    ·rename_i hsz
     refine ⟨_,hv,fun B S ρ w p' hh hp=>?_⟩
     obtain ⟨K,xv,rfl,_,k1,k2⟩:=common B S ρ w p' hh hp
     obtain ⟨u,hu,hru⟩:=Rs_get k1 (getElem?_getD hsz)
     have hr:=run_loadVar_one (P:=P) h1 ha K off w u (by rw [k2];simpa using hu)
     exact ⟨u,by simpa [Instr.loadAt,Instr.sureAddr] using hr,hru⟩
    ·exact hv.elim
   split at hv
   ·rename_i fs hfs;exact aggs (hagg.2 (.inl ⟨fs,hfs⟩)) hv
   ·rename_i n e sz hfs;exact aggs (hagg.2 (.inr ⟨n,e,sz,hfs⟩)) hv
   ·exact hv.elim
   ·rename_i hn1 hn2 hn3
    refine ones ?_ hv
    cases hx:d.isagg with
    | false=>rfl
    | true=>
     rcases hagg.1 hx with ⟨fs,hfs⟩ | ⟨n,e,sz,hfs⟩
     ·exact (hn1 fs hfs).elim
     ·exact (hn2 n e sz hfs).elim
  ·exact hv.elim
 ·rename_i b g i off
  split at hv
  ·rename_i g' kk es hb
   obtain ⟨hc,hv⟩:=hv
   obtain ⟨rfl,hi⟩:=hc ()
   obtain ⟨x,h1,h2⟩:=run_vstay hv
   refine ⟨x,h1,fun B S ρ w p' hh hp=>?_⟩
   obtain ⟨l,loc,ab,ao,hl,k1,k2,k3,rfl,k4⟩:=hp
   cases hl
   obtain ⟨_,k5,_,evs,k6,_,k8⟩:=hh.blk b _ loc hb k1
   obtain ⟨k9,rfl,_⟩:=k4 k5
   have k6':=(RL_iff _ _ _ _).1 k6
   obtain ⟨ev,hev,hre⟩:=Rs_get k6' (getElem?_getD hi)
   rcases k8 with ⟨_,hnil⟩ | ⟨K',c,ty,m1,m2,m3,m4,m5⟩
   ·subst hnil;simp at hev
   ·rw [k9] at m1;cases m1
    obtain ⟨x',h7,h8⟩:=h2 S w ρ ab (i () * loc.e) ev hre (fun j c' hj=>by rw [cell_heap m2];exact (m5 _ _ hev).2 j c' hj)
    exact ⟨x',by simpa [Instr.loadAt,Instr.sureAddr] using h7,h8⟩
  ·rename_i g' kk ess hole hb
   split at hv
   ·rename_i j x
    have main:(tiOf P t).k≠.other→((tiOf P t).k.isAgg'=false)→off=0→((∀ _:Unit,g'=g∧i ()=j ()∧j ()<(ess ()).length)∧k x) →
      ∃ x,k x∧∀ B S ρ w p',HeapR B S γ ρ h w→R S w (some ρ) (.hp b g i off) p'→∃ x',(Instr.loadAt t p').run P w=.ok x' w∧R S w (some ρ) x x':=by
     intro hk hna ho hv2
     clear hv
     have hv:=hv2
     clear hv2
     subst ho
     obtain ⟨d,ti,h1,h2,h3⟩:=tk_other hk
     have hagg:=tk_agg h1 hk
     have ha:d.isagg=false:=by
      cases hx:d.isagg with
      | false=>rfl
      | true=>rcases hagg.1 hx with ⟨fs,hfs⟩ | ⟨n,e,sz,hfs⟩<;>(rw [hfs] at hna;cases hna)
     obtain ⟨hc,hv⟩:=hv
     obtain ⟨rfl,hij,hjl⟩:=hc ()
     refine ⟨_,hv,fun B S ρ w p' hh hp=>?_⟩
     obtain ⟨l,loc,ab,ao,hl,k1,k2,k3,rfl,k4⟩:=hp
     cases hl
     obtain ⟨_,k5,k6,evs,k7,k8,k9,k10⟩:=hh.blk b _ loc hb k1
     obtain ⟨m1,rfl,_⟩:=k4 k5
     have hjv:j ()<evs.length:=by omega
     have hcell:=k10 (j ()) _ _ _ (List.getElem?_eq_getElem hjl) (List.getElem?_eq_getElem hjv) (List.getElem?_eq_getElem (by omega))
     rcases hcell with ⟨_,_,c3,c4⟩ | ⟨c1,_⟩
     ·rcases k7 with ⟨e1,_⟩ | ⟨K,c,ty,e1,e2,e3,e4,e5⟩
      ·rw [m1] at e1;cases e1
      ·rw [m1] at e1;cases e1
       have hr:=run_loadVar_one (P:=P) h1 ha ab (i () * loc.e+0) w evs[j ()] (by
        rw [cell_heap e2,k6,hij,Nat.mul_one,Nat.add_zero]
        exact e5 _ _ (List.getElem?_eq_getElem hjv))
       exact ⟨_,by simpa [Instr.loadAt,Instr.sureAddr] using hr,c3⟩
     ·exact absurd rfl c1
    split at hv
    ·exact hv.elim
    ·exact hv.elim
    ·exact hv.elim
    ·rename_i n1 n2 n3
     cases off with
     | succ _=>exact hv.elim
     | zero=>
     refine main n3 ?_ rfl hv
     cases hq:(tiOf P t).k<;>first | rfl | (exact absurd hq (n1 _)) | (exact absurd hq (n2 _ _ _))
   ·exact hv.elim
  ·exact hv.elim
 ·exact hv.elim
theorem add_add' (b o n:Nat):Addr.add ⟨b,o,none⟩ n=⟨b,o+n,none⟩:=Addr.add_lit b o n
theorem run_vfieldAddr {t:TypeId} {p:AV} {f:Nat} {k:AV→Prop} (hv:vfieldAddr (tiOf P t).k p f k) :
  ∃ x,k x∧∀ S w ρ p',R S w (some ρ) p p'→∃ x',(Instr.fieldAt t p' f).run P w=.ok x' w∧R S w (some ρ) x x':=by
 unfold vfieldAddr at hv
 split at hv
 ·rename_i fs hfs
  obtain ⟨fd,h1,h2,_⟩:=tk_struct hfs
  split at hv
  ·rename_i o s ag hf
   split at hv
   ·exact hv.elim
   ·rename_i hs
    rw [h2,List.getElem?_map] at hf
    obtain ⟨fl,hfl,he⟩:∃ fl,fd.toList[f]?=some fl∧(fl.offset,((P.info? fl.type).map (·.size)).getD 0,aggOf P fl.type)=(o,s,ag):=by
     cases hx:fd.toList[f]? with
     | none=>simp [hx] at hf
     | some fl=>exact ⟨fl,rfl,by simpa [hx] using hf⟩
    simp only [Prod.mk.injEq] at he
    obtain ⟨rfl,e2,_⟩:=he
    obtain ⟨i,hi⟩:∃ i,P.info? fl.type=some i:=by
     cases hx:P.info? fl.type with
     | none=>simp [hx] at e2;exact absurd e2.symm hs
     | some i=>exact ⟨i,rfl⟩
    have his:i.size≠0:=by rw [hi] at e2;simp at e2;omega
    have run:∀ (b off:Nat) (w:World),(Instr.fieldAt t (.pointer (some ⟨b,off,none⟩)) f).run P w=.ok (.pointer (some ⟨b,off+fl.offset,none⟩)) w:=by
     intro b off w
     have hfl':fd[f]?=some fl:=by simpa using hfl
     simp [Instr.fieldAt,run_underlying h1,hfl',Instr.sureAddr,fieldPlace,run_sizeOf hi,his,add_add']
    split at hv
    ·refine ⟨_,hv,fun S w ρ p' hp=>?_⟩
     obtain ⟨a,xv,rfl,k1,k2,k3⟩:=hp
     exact ⟨_,run _ _ _,⟨a,xv,by rw [Nat.add_assoc],k1,k2,k3⟩⟩
    ·refine ⟨_,hv,fun S w ρ p' hp=>?_⟩
     obtain ⟨l,loc,K,k0,k1,k2,k3,rfl⟩:=hp
     exact ⟨_,run _ _ _,⟨l,loc,K,k0,k1,k2,k3,rfl⟩⟩
    ·refine ⟨_,hv,fun S w ρ p' hp=>?_⟩
     obtain ⟨l,loc,ab,ao,k0,k1,k2,k3,rfl,k5⟩:=hp
     exact ⟨_,run _ _ _,⟨l,loc,ab,_,k0,k1,k2,k3,rfl,fun e=>⟨(k5 e).1,by rw [(k5 e).2.1,Nat.add_assoc],(k5 e).2.2⟩⟩⟩
    ·exact hv.elim
  ·exact hv.elim
 ·exact hv.elim
theorem run_part_one {t:TypeId} {d:TypeDesc} (hd:P.underlying t=some d) (hn:d.isagg=false) (cs:Array Value) (o:Nat) (v:Value) (w:World) (h:cs[o]?=some v):(part t cs o).run P w=.ok v w:=by
 simp [part,run_isAgg hd,hn,h]
theorem run_part_agg {t:TypeId} {d:TypeDesc} {i:TypeInfo} (hd:P.underlying t=some d) (hi:P.info? t=some i) (hn:d.isagg=true) (cs:Array Value) (o:Nat) (w:World):(part t cs o).run P w=.ok (.agg (cs.extract o (o+i.size))) w:=by
 simp [part,run_isAgg hd,hn,run_sizeOf hi]
theorem aggOf_some {t:TypeId} {b:Bool} (h:aggOf P t=some b):∃ d,P.underlying t=some d∧d.isagg=b:=by
 unfold aggOf at h
 cases hd:P.underlying t with
 | none=>simp [hd] at h
 | some d=>exact ⟨d,rfl,by cases d<;>simp_all [TypeDesc.isagg]⟩
theorem run_vfield {t:TypeId} {x:AV} {f:Nat} {k:AV→Prop} (hv:vfield (tiOf P t).k x f k) :
  ∃ y,k y∧∀ S w ρ x',R S w (some ρ) x x'→∃ y',(Instr.field t x' f).run P w=.ok y' w∧R S w (some ρ) y y':=by
 unfold vfield at hv
 split at hv
 ·rename_i fs hfs
  obtain ⟨fd,h1,h2,_⟩:=tk_struct hfs
  split at hv
  ·rename_i o s ag hf
   rw [h2,List.getElem?_map] at hf
   obtain ⟨fl,hfl,he⟩:∃ fl,fd.toList[f]?=some fl∧(fl.offset,((P.info? fl.type).map (·.size)).getD 0,aggOf P fl.type)=(o,s,ag):=by
    cases hx:fd.toList[f]? with
    | none=>simp [hx] at hf
    | some fl=>exact ⟨fl,rfl,by simpa [hx] using hf⟩
   simp only [Prod.mk.injEq] at he
   obtain ⟨rfl,e2,e3⟩:=he
   have hfl':fd[f]?=some fl:=by simpa using hfl
   split at hv
   ·rename_i cs
    split at hv
    ·obtain ⟨d,hd,hda⟩:=aggOf_some e3
     split at hv
     ·exact hv.elim
     ·rename_i hs
      obtain ⟨i,hi⟩:∃ i,P.info? fl.type=some i:=by
       cases hx:P.info? fl.type with
       | none=>simp [hx] at e2;exact absurd e2.symm hs
       | some i=>exact ⟨i,rfl⟩
      have his:i.size=s:=by rw [hi] at e2;simpa using e2
      refine ⟨_,hv,fun S w ρ x' hx=>?_⟩
      obtain ⟨vals,rfl,hr⟩:=hx
      refine ⟨.agg (vals.toArray.extract fl.offset (fl.offset+i.size)),by simp [Instr.field,run_underlying h1,hfl',asAgg,run_part_agg hd hi hda],⟨(vals.drop fl.offset).take s,?_,Rs_take (Rs_drop hr _) _⟩⟩
      rw [his];simp [List.extract_eq_take_drop]
    ·obtain ⟨d,hd,hda⟩:=aggOf_some e3
     split at hv
     ·rename_i hs
      refine ⟨_,hv,fun S w ρ x' hx=>?_⟩
      obtain ⟨vals,rfl,hr⟩:=hx
      obtain ⟨u,hu,hru⟩:=Rs_get hr (getElem?_getD hs)
      exact ⟨u,by simp [Instr.field,run_underlying h1,hfl',asAgg,run_part_one hd hda _ _ u w (show vals.toArray[fl.offset]?=some u by simpa using hu)],hru⟩
     ·exact hv.elim
    ·exact hv.elim
   ·exact hv.elim
  ·exact hv.elim
 ·exact hv.elim
end
end Go.AL
namespace Go.AL
open Go
section
variable {P:Program} {γ:Nat→Option AV}
theorem run_indexAt' {t e:TypeId} {i:TypeInfo} (ht:P.underlying t=some (.slice e)) (hi:P.info? e=some i) (b o len cap:Nat) (n:Int) (h:0≤n∧n<len) (w:World) :
  (Instr.indexAt t (.slice (some ⟨b,o,none⟩) len cap) (.int .i64 n)).run P w=.ok (.pointer (some ⟨b,o+n.toNat * i.size,none⟩)) w:=by
 simp [Instr.indexAt,run_underlying ht,asIntOf,h,run_sizeOf hi,add_add']
theorem run_indexAtArr' {t e:TypeId} {m:Nat} {i:TypeInfo} (ht:P.underlying t=some (.array m e)) (hi:P.info? e=some i) (b o:Nat) (n:Int) (h:0≤n∧n<m) (w:World) :
  (Instr.indexAt t (.pointer (some ⟨b,o,none⟩)) (.int .i64 n)).run P w=.ok (.pointer (some ⟨b,o+n.toNat * i.size,none⟩)) w:=by
 simp [Instr.indexAt,run_underlying ht,asIntOf,h,run_sizeOf hi,add_add',Instr.sureAddr]
theorem run_vindexAddr {t:TypeId} {x ix:AV} {k:AV→Prop} (hv:vindexAddr (tiOf P t).k x ix k) :
  ∃ y,k y∧∀ B S ρ h w x' ix',HeapR B S γ ρ h w→R S w (some ρ) x x'→R S w (some ρ) ix ix'→∃ y',(Instr.indexAt t x' ix').run P w=.ok y' w∧R S w (some ρ) y y':=by
 have slice:∀ (e sz by':Nat) (z:Option AV),(tiOf P t).k=.slice e sz by' z→∀ n:Int,
   (∀ es,(0≤n∧n<(LV.l es).length)→∀ S w (ρ:List Loc) x',R S w (some ρ) (.vs sz fun _=>es) x'→∃ y',(Instr.indexAt t x' (.int .i64 n)).run P w=.ok y' w∧R S w (some ρ) (.vp (fun _=>es.l.getD n.toNat .any) 0) y') ∧
   (∀ b g off len,(0≤n∧n<((len:Nat):Int))→∀ S w (ρ:List Loc) x',R S w (some ρ) (.sl b g sz (fun _=>off) (fun _=>len)) x'→∃ y',(Instr.indexAt t x' (.int .i64 n)).run P w=.ok y' w∧R S w (some ρ) (.hp b g (fun _=>off+n.toNat) 0) y'):=by
  intro e sz by' z hk n
  obtain ⟨h1,i,h2,h3,_,_⟩:=tk_slice hk
  constructor
  ·intro es hn S w ρ x' hx
   obtain ⟨a,cap,evs,rfl,k1,k2,k3⟩:=hx
   have k2':=(RL_iff _ _ _ _).1 k2
   have hlen:evs.length=es.l.length:=Rs_len k2'
   have hlt:n.toNat<es.l.length:=by omega
   obtain ⟨ev,hev,hre⟩:=Rs_get k2' (getElem?_getD hlt)
   rcases k3 with rfl | ⟨⟨ab,ao,asp⟩,rfl,k4,k5,k6⟩
   ·simp at hev
   ·simp at k4;subst k4
    refine ⟨_,run_indexAt' h1 h2 ab ao evs.length cap n ⟨hn.1,by omega⟩ w,⟨⟨ab,ao+n.toNat * i.size,none⟩,ev,rfl,hre,k5,fun j c hj=>?_⟩⟩
    rw [h3,Nat.add_assoc]
    exact (k6 _ _ hev).2 j c hj
  ·intro b g off len hn S w ρ x' hx
   obtain ⟨l,loc,a,cap,k0,k1,k2,k3,k4,rfl,k6,k7,k8⟩:=hx
   simp only at k6 k8
   rcases k7 with rfl | ⟨ab,ao,rfl⟩
   ·omega
   ·refine ⟨_,run_indexAt' h1 h2 ab ao len cap n hn w,⟨l,loc,ab,_,k0,k1,k2,k4,rfl,fun e=>?_⟩⟩
    rcases k8 e with ⟨_,h0,_⟩ | ⟨K,m1,m2,m3⟩
    ·omega
    ·rcases m2 with m2 | m2
     ·omega
     simp only [Option.some.injEq,Addr.mk.injEq] at m2
     obtain ⟨rfl,rfl,_⟩:=m2
     exact ⟨m1,by rw [h3,←k3,Nat.add_mul];rfl,Nat.le_trans (Nat.mul_le_mul_right _ (by show off+n.toNat+1≤off+cap;omega)) m3⟩
 have array:∀ (m e sz:Nat),(tiOf P t).k=.array m e sz→∀ n:Int,n.toNat<m→0≤n →
   ((∀ v off,k (.vp v (off+n.toNat * sz))→∃ y,k y∧∀ S w (ρ:List Loc) x',R S w (some ρ) (.vp v off) x'→∃ y',(Instr.indexAt t x' (.int .i64 n)).run P w=.ok y' w∧R S w (some ρ) y y') ∧
    (∀ b off,k (.ptr b (off+n.toNat * sz))→∃ y,k y∧∀ S w (ρ:List Loc) x',R S w (some ρ) (.ptr b off) x'→∃ y',(Instr.indexAt t x' (.int .i64 n)).run P w=.ok y' w∧R S w (some ρ) y y') ∧
    (∀ b g j off,k (.hp b g j (off+n.toNat * sz))→∃ y,k y∧∀ S w (ρ:List Loc) x',R S w (some ρ) (.hp b g j off) x'→∃ y',(Instr.indexAt t x' (.int .i64 n)).run P w=.ok y' w∧R S w (some ρ) y y')):=by
  intro m e sz hk n hn h0
  obtain ⟨h1,i,h2,h3⟩:=tk_array hk
  subst h3
  refine ⟨fun v off hv=>⟨_,hv,fun S w ρ x' hx=>?_⟩,fun b off hv=>⟨_,hv,fun S w ρ x' hx=>?_⟩,fun b g j off hv=>⟨_,hv,fun S w ρ x' hx=>?_⟩⟩
  ·obtain ⟨a,xv,rfl,k1,k2,k3⟩:=hx
   exact ⟨_,run_indexAtArr' h1 h2 _ _ n ⟨h0,by omega⟩ w,⟨a,xv,by rw [Nat.add_assoc],k1,k2,k3⟩⟩
  ·obtain ⟨l,loc,K,k0,k1,k2,k3,rfl⟩:=hx
   exact ⟨_,run_indexAtArr' h1 h2 _ _ n ⟨h0,by omega⟩ w,⟨l,loc,K,k0,k1,k2,k3,rfl⟩⟩
  ·obtain ⟨l,loc,ab,ao,k0,k1,k2,k3,rfl,k5⟩:=hx
   exact ⟨_,run_indexAtArr' h1 h2 _ _ n ⟨h0,by omega⟩ w,⟨l,loc,ab,_,k0,k1,k2,k3,rfl,fun e=>⟨(k5 e).1,by rw [(k5 e).2.1,Nat.add_assoc],(k5 e).2.2⟩⟩⟩
 unfold vindexAddr at hv
 split at hv
 ·rename_i e sz by' z hk
  have sl:=slice e sz by' z hk
  split at hv
  ·rename_i n
   split at hv
   ·rename_i m es
    split at hv
    ·rename_i hm;subst hm
     exact ⟨_,hv.2,fun B S ρ h w x' ix' _ hx hix=>by simp only [R] at hix;subst hix;exact (sl n).1 (es ()) (hv.1 ()) S w ρ x' hx⟩
    ·exact hv.elim
   ·rename_i b g m off len
    split at hv
    ·rename_i hm;subst hm
     exact ⟨_,hv.2,fun B S ρ h w x' ix' _ hx hix=>by simp only [R] at hix;subst hix;exact (sl n).2 b g (off ()) (len ()) (hv.1 ()) S w ρ x' hx⟩
    ·exact hv.elim
   ·exact hv.elim
  ·rename_i n
   split at hv
   ·rename_i m es
    split at hv
    ·rename_i hm;subst hm
     exact ⟨_,hv.2,fun B S ρ h w x' ix' _ hx hix=>by simp only [R] at hix;subst hix;exact (sl (n ())).1 (es ()) (hv.1 ()) S w ρ x' hx⟩
    ·exact hv.elim
   ·rename_i b g m off len
    split at hv
    ·rename_i hm;subst hm
     exact ⟨_,hv.2,fun B S ρ h w x' ix' _ hx hix=>by simp only [R] at hix;subst hix;exact (sl (n ())).2 b g (off ()) (len ()) (hv.1 ()) S w ρ x' hx⟩
    ·exact hv.elim
   ·exact hv.elim
  ·exact hv.elim
 ·rename_i m e sz hk
  have ar:=array m e sz hk
  split at hv
  ·rename_i n
   split at hv
   ·rename_i hn
    split at hv
    ·rename_i h0
     obtain ⟨a1,a2,a3⟩:=ar n hn h0
     split at hv
     ·obtain ⟨y,h1,h2⟩:=a1 _ _ hv
      exact ⟨y,h1,fun B S ρ h w x' ix' _ hx hix=>by simp only [R] at hix;subst hix;exact h2 S w ρ x' hx⟩
     ·obtain ⟨y,h1,h2⟩:=a2 _ _ hv
      exact ⟨y,h1,fun B S ρ h w x' ix' _ hx hix=>by simp only [R] at hix;subst hix;exact h2 S w ρ x' hx⟩
     ·obtain ⟨y,h1,h2⟩:=a3 _ _ _ _ hv
      exact ⟨y,h1,fun B S ρ h w x' ix' _ hx hix=>by simp only [R] at hix;subst hix;exact h2 S w ρ x' hx⟩
     ·exact hv.elim
    ·exact hv.elim
   ·exact hv.elim
  ·rename_i n
   obtain ⟨j,hj,hjm,hv⟩:=hv
   have hj':=hj ()
   obtain ⟨a1,a2,a3⟩:=ar (j:Int) (by omega) (by omega)
   split at hv
   ·obtain ⟨y,h1,h2⟩:=a1 _ _ hv
    exact ⟨y,h1,fun B S ρ h w x' ix' _ hx hix=>by simp only [R] at hix;rw [hj'] at hix;subst hix;exact h2 S w ρ x' hx⟩
   ·obtain ⟨y,h1,h2⟩:=a2 _ _ hv
    exact ⟨y,h1,fun B S ρ h w x' ix' _ hx hix=>by simp only [R] at hix;rw [hj'] at hix;subst hix;exact h2 S w ρ x' hx⟩
   ·obtain ⟨y,h1,h2⟩:=a3 _ _ _ _ hv
    exact ⟨y,h1,fun B S ρ h w x' ix' _ hx hix=>by simp only [R] at hix;rw [hj'] at hix;subst hix;exact h2 S w ρ x' hx⟩
   ·exact hv.elim
  ·exact hv.elim
 ·exact hv.elim
theorem run_len' {t ty e:TypeId} (ht:P.underlying t=some (.slice e)) (a:Option Addr) (n c:Nat) (w:World):(Builtin.len_ #[t] ty #[.slice a n c]).run P w=.ok (.int .i64 n) w:=by
 simp [Builtin.len_,run_underlying ht,goInt]
theorem run_vlen {t ty:TypeId} {x:AV} {k:AV→Prop} (hv:vlen (tiOf P t).k x k) :
  ∃ y,k y∧∀ S w ρ x',R S w (some ρ) x x'→∃ y',(Builtin.len_ #[t] ty #[x']).run P w=.ok y' w∧R S w (some ρ) y y':=by
 unfold vlen at hv
 split at hv
 ·rename_i e sz by' z hk
  obtain ⟨h1,_⟩:=tk_slice hk
  split at hv
  ·refine ⟨_,hv,fun S w ρ x' hx=>?_⟩
   obtain ⟨a,cap,evs,rfl,k1,k2,k3⟩:=hx
   have hlen:=Rs_len ((RL_iff _ _ _ _).1 k2)
   exact ⟨_,run_len' h1 _ _ _ w,by simp only [R];rw [hlen]⟩
  ·refine ⟨_,hv,fun S w ρ x' hx=>?_⟩
   obtain ⟨a,rfl⟩:=hx
   exact ⟨_,run_len' h1 _ _ _ w,rfl⟩
  ·refine ⟨_,hv,fun S w ρ x' hx=>?_⟩
   obtain ⟨l,loc,a,cap,k0,k1,k2,k3,k4,rfl,_⟩:=hx
   exact ⟨_,run_len' h1 _ _ _ w,rfl⟩
  ·exact hv.elim
 ·exact hv.elim
theorem run_vextract {x:AV} {i:Nat} {k:AV→Prop} (hv:vextract x i k) :
  ∃ y,k y∧∀ S w ρ x',R S w (some ρ) x x'→∃ y',(Instr.extract x' i).run P w=.ok y' w∧R S w (some ρ) y y':=by
 unfold vextract at hv
 split at hv
 ·split at hv
  ·rename_i v hi
   refine ⟨_,hv,fun S w ρ x' hx=>?_⟩
   obtain ⟨vals,rfl,hr⟩:=hx
   obtain ⟨u,hu,hru⟩:=Rs_get hr hi
   exact ⟨u,by simp [Instr.extract,hu],hru⟩
  ·exact hv.elim
 ·exact hv.elim
end
end Go.AL
namespace Go.AL
open Go
section
variable {P:Program} {γ:Nat→Option AV}
theorem R_ofCell {S:Nat→Prop} {w:World} {ρ:Option (List Loc)} (v:Value):R S w ρ (ofCell v) v:=by
 unfold ofCell
 split
 ·rfl
 ·rfl
 ·rfl
 ·rename_i n
  split
  ·rename_i h
   simp only [R]
   rw [BitVec.toNat_ofInt,Int.emod_eq_of_lt h.1 (by simpa using h.2),Int.toNat_of_nonneg h.1]
  ·rfl
 ·exact ⟨none,rfl⟩
 ·rfl
 ·rfl
theorem Rs_ofCell {S:Nat→Prop} {w:World} {ρ:Option (List Loc)} (vs:List Value):Rs S w ρ (vs.map ofCell) vs:=by
 induction vs with
 | nil=>rfl
 | cons v vs ih=>exact ⟨v,vs,rfl,R_ofCell v,ih⟩
theorem R_ofV {S:Nat→Prop} {w:World} {ρ:Option (List Loc)} (v:Value):R S w ρ (ofV v) v:=by
 unfold ofV
 split
 ·rename_i cs
  exact ⟨cs.toList,by simp,Rs_ofCell _⟩
 ·exact R_ofCell v
theorem ofCell_cells (v:Value):(ofCell v).cells=[ofCell v]:=by
 cases v<;>simp only [ofCell]<;>(repeat' split)<;>rfl
theorem R_nrm1 {S:Nat→Prop} {w:World} {ρ:Option (List Loc)} (c:CK) {v:AV} {x:Value} (h:R S w ρ v x):R S w ρ (nrm1 c v) x:=by
 cases c<;>simp only [nrm1]<;>(try split)<;>first | exact h | skip
 obtain ⟨a,rfl⟩:=h
 exact ⟨a,0,[],rfl,Nat.le_refl _,rfl,.inl rfl⟩
theorem Rs_nrms {S:Nat→Prop} {w:World} {ρ:Option (List Loc)}:∀ (cs:List CK) {vs:List AV} {xs:List Value},Rs S w ρ vs xs→Rs S w ρ (nrms cs vs) xs
 | [],vs,xs,h=>h
 | c :: cs,[],xs,h=>h
 | c :: cs,v :: vs,xs,⟨x,r,h1,h2,h3⟩=>⟨x,r,h1,R_nrm1 c h2,Rs_nrms cs h3⟩
theorem R_nrm {S:Nat→Prop} {w:World} {ρ:Option (List Loc)} (cs:List CK) {v:AV} {x:Value} (h:R S w ρ v x):R S w ρ (v.nrm cs) x:=by
 unfold AV.nrm
 split
 ·obtain ⟨vals,h1,h2⟩:=h
  exact ⟨vals,h1,Rs_nrms cs h2⟩
 ·split
  ·exact R_nrm1 _ h
  ·exact h
theorem Rs_nrm {S:Nat→Prop} {w:World} {ρ:Option (List Loc)} (cs:List CK):∀ {vs:List AV} {xs:List Value},Rs S w ρ vs xs→Rs S w ρ (vs.map (AV.nrm cs)) xs
 | [],xs,h=>h
 | v :: vs,xs,⟨x,r,h1,h2,h3⟩=>⟨x,r,h1,R_nrm cs h2,Rs_nrm cs h3⟩
theorem Rs_ofV {S:Nat→Prop} {w:World} {ρ:Option (List Loc)} (v:Value):Rs S w ρ (ofV v).cells v.cells.toList:=by
 unfold ofV
 split
 ·rename_i cs
  exact Rs_ofCell _
 ·rename_i h
  rw [ofCell_cells]
  have hv:v.cells=#[v]:=by cases v<;>first | rfl | exact absurd rfl (h _)
  rw [hv]
  exact ⟨v,[],rfl,R_ofCell v,rfl⟩
theorem foldl_set (vs:List Value):∀ (cs:List Value) (off j0:Nat),off+j0+vs.length≤cs.length →
  (vs.zipIdx j0).foldl (fun (cs:Array Value) (x:Value × Nat)=>cs.setIfInBounds (off+x.2) x.1) cs.toArray=(cs.take (off+j0)++vs++cs.drop (off+j0+vs.length)).toArray:=by
 induction vs with
 | nil=>intro cs off j0 h;simp
 | cons v vs ih=>
  intro cs off j0 h
  simp only [List.length_cons] at h
  simp only [List.zipIdx_cons,List.foldl_cons,List.setIfInBounds_toArray]
  rw [ih (cs.set (off+j0) v) off (j0+1) (by simp;omega)]
  congr 1
  have e:off+(j0+1)=off+j0+1:=by omega
  rw [e,List.take_set,List.drop_set,if_pos (by omega)]
  rw [List.take_succ_eq_append_getElem (by omega)]
  rw [List.set_append_right _ _ (by simp;omega)]
  have e2:off+j0+1+vs.length=off+j0+(vs.length+1):=by omega
  have e3:off+j0-min (off+j0) cs.length=0:=by omega
  simp [e2,e3]
def PartsR (S:Nat→Prop) (w:World) (ρ:Option (List Loc)) (ps:List (Nat × AV)) (qs:List (Nat × Value)):Prop:=
 ps.map (·.1)=qs.map (·.1)∧Rs S w ρ (ps.map (·.2)) (qs.map (·.2))
theorem run_bld {S:Nat→Prop} {w:World} {ρ:Option (List Loc)} {place:Nat→Option (Nat × Nat)} {ps:List (Nat × AV)}:∀ {cs:List AV} {vals:List Value} {qs:List (Nat × Value)} {out:List AV},
  PartsR S w ρ ps qs→(∀ p∈ps,p.2.flat=true)→Rs S w ρ cs vals→bld place cs ps=some out→∃ vals',Instr.fill place vals.toArray qs=some vals'.toArray∧Rs S w ρ out vals':=by
 induction ps with
 | nil=>
  intro cs vals qs out hp _ hr hb
  obtain ⟨h1,_⟩:=hp
  have:qs=[]:=by cases qs<;>simp_all
  subst this
  simp only [bld,Option.some.injEq] at hb
  subst hb
  exact ⟨vals,rfl,hr⟩
 | cons p ps ih=>
  intro cs vals qs out hp hf hr hb
  obtain ⟨i,v⟩:=p
  obtain ⟨h1,h2⟩:=hp
  cases qs with
  | nil=>simp at h1
  | cons q qs=>
   obtain ⟨i',u⟩:=q
   simp only [List.map_cons,List.cons.injEq] at h1 h2
   obtain ⟨rfl,h1⟩:=h1
   obtain ⟨x,xs,he,hvu,hrest⟩:=h2
   simp only [List.cons.injEq] at he
   obtain ⟨rfl,rfl⟩:=he
   simp only [bld] at hb
   split at hb
   ·rename_i o s hpl
    split at hb
    ·rename_i hs
     split at hb
     ·rename_i hos
      have hc:=(R_cells hvu (hf (i,v) (by simp))).1
      have hl1:u.cells.size=v.cells.length:=by have:=Rs_len hc;simpa using this
      have hl2:=Rs_len hr
      have hr':Rs S w ρ (cs.take o++v.cells++cs.drop (o+s)) (vals.take o++u.cells.toList++vals.drop (o+s)):=Rs_append (Rs_append (Rs_take hr o) hc) (Rs_drop hr _)
      obtain ⟨vals',k1,k2⟩:=ih (qs:=qs) ⟨h1,hrest⟩ (fun p hp=>hf p (by simp [hp])) hr' hb
      refine ⟨vals',?_,k2⟩
      simp only [Instr.fill,hpl]
      have hcond:(u.cells.size≠s || o+u.cells.size > vals.toArray.size)=false:=by
       simp only [ne_eq,Bool.or_eq_false_iff,decide_eq_false_iff_not,Decidable.not_not,gt_iff_lt,Nat.not_lt,List.size_toArray];omega
      simp only [hcond,Bool.false_eq_true,if_false]
      have hfold:=foldl_set u.cells.toList vals o 0 (by simp;omega)
      have hz:u.cells.zipIdx.foldl (fun cs x=>match x with | (c,j)=>cs.setIfInBounds (o+j) c) vals.toArray=(vals.take o++u.cells.toList++vals.drop (o+s)).toArray:=by
       have e2:o+0+u.cells.toList.length=o+s:=by simp;omega
       rw [Nat.add_zero] at hfold
       rw [show o+u.cells.toList.length=o+s from by simp;omega] at hfold
       rw [←hfold]
       rw [←Array.foldl_toList]
       rw [Array.toList_zipIdx]
      rw [hz];exact k1
     ·cases hb
    ·cases hb
   ·cases hb
theorem PartsR.of {S:Nat→Prop} {w:World} {ρ:Option (List Loc)} {e:Operand→AV} {re:Operand→Value}:∀ (ps:List (Nat × Operand)),(∀ p∈ps,R S w ρ (e p.2) (re p.2)) →
  PartsR S w ρ (ps.map fun p=>(p.1,e p.2)) (ps.map fun p=>(p.1,re p.2)):=by
 intro ps h
 refine ⟨by simp,?_⟩
 induction ps with
 | nil=>rfl
 | cons p ps ih=>exact ⟨_,_,rfl,h p (by simp),ih fun q hq=>h q (by simp [hq])⟩
theorem run_places (fd:List Field) (h:∀ f∈fd,(P.info? f.type).isSome=true) (w:World) :
  (fd.mapM (m:=Sem) fun f=>do pure (f.offset,←sizeOf f.type)).run P w=.ok (fd.map fun f=>(f.offset,((P.info? f.type).map (·.size)).getD 0)) w:=by
 induction fd with
 | nil=>rfl
 | cons f fd ih=>
  obtain ⟨i,hi⟩:=Option.isSome_iff_exists.1 (h f (by simp))
  rw [List.mapM_cons]
  simp only [Sem.run_bind,run_sizeOf hi,Result.andThen_ok,Sem.run_pure,List.map_cons,hi]
  rw [ih fun g hg=>h g (by simp [hg])]
  rfl
theorem run_vbuild {t:TypeId} {parts:List (Nat × AV)} {k:AV→Prop} (hv:vbuild (tiOf P t) parts k) :
  ∃ y,k y∧∀ S w ρ (qs:Array (Nat × Value)),PartsR S w (some ρ) parts qs.toList→∃ y',(Instr.build t qs).run P w=.ok y' w∧R S w (some ρ) y y':=by
 unfold vbuild at hv
 split at hv
 ·rename_i z hz
  split at hv
  ·rename_i hf
   simp only [List.all_eq_true] at hf
   have hk:(tiOf P t).k≠.other:=by intro e;simp [e] at hv
   obtain ⟨d,i,h1,h2,h3⟩:=tk_other hk
   obtain ⟨zv,hzv,rfl⟩:∃ zv,i.zero=some zv∧z=ofV zv:=by
    rw [h3] at hz
    cases hx:i.zero with
    | none=>simp [hx] at hz
    | some zv=>exact ⟨zv,rfl,by simpa [hx] using hz.symm⟩
   split at hv
   ·rename_i fs hfs
    obtain ⟨fd,e1,e2,e3⟩:=tk_struct hfs
    split at hv
    ·rename_i cs hb
     refine ⟨_,hv,fun S w ρ qs hp=>?_⟩
     obtain ⟨vals',k1,k2⟩:=run_bld (place:=fun (i:Nat)=>(fs[i]?).map fun (f:Nat × Nat × Option Bool)=>(f.1,f.2.1)) hp hf (Rs_ofV zv) hb
     refine ⟨.agg vals'.toArray,?_,⟨vals',rfl,k2⟩⟩
     have hpl:(fun (i:Nat)=>((fd.toList.map fun f=>(f.offset,((P.info? f.type).map (·.size)).getD 0)).toArray)[i]?)=(fun (i:Nat)=>(fs[i]?).map fun (f:Nat × Nat × Option Bool)=>(f.1,f.2.1)):=by
      funext j;rw [e2];simp only [List.getElem?_toArray,List.getElem?_map]
      cases fd.toList[j]?<;>rfl
     simp only [Instr.build,Sem.run_bind,run_zeroValue h2 hzv,Result.andThen_ok,run_underlying e1]
     have hm:(fd.mapM (m:=Sem) fun f=>do pure (f.offset,←sizeOf f.type)).run P w=.ok (fd.toList.map fun f=>(f.offset,((P.info? f.type).map (·.size)).getD 0)).toArray w:=by
      rw [Array.mapM_eq_mapM_toList]
      simp only [Sem.run_map,run_places fd.toList e3 w,Result.andThen_ok]
     rw [hm]
     simp only [Result.andThen_ok]
     rw [hpl,show zv.cells=zv.cells.toList.toArray from by simp,k1]
     rfl
    ·exact hv.elim
   ·rename_i n e sz hfs
    obtain ⟨e1,ie,e2,e3⟩:=tk_array hfs
    split at hv
    ·rename_i cs hb
     refine ⟨_,hv,fun S w ρ qs hp=>?_⟩
     obtain ⟨vals',k1,k2⟩:=run_bld (place:=fun i=>some (i * sz,sz)) hp hf (Rs_ofV zv) hb
     refine ⟨.agg vals'.toArray,?_,⟨vals',rfl,k2⟩⟩
     simp only [Instr.build,Sem.run_bind,run_zeroValue h2 hzv,Result.andThen_ok,run_underlying e1,run_sizeOf e2]
     rw [e3,show zv.cells=zv.cells.toList.toArray from by simp,k1]
     rfl
    ·exact hv.elim
   ·exact hv.elim
  ·exact hv.elim
 ·exact hv.elim
mutual
theorem closed_R {S:Nat→Prop} {w:World} {ρ:Option (List Loc)} (x:AV) (v:Value) (hc:x.closed=true) (h:R S w ρ x v):R S w none x v:=by
 match x with
 | .any | .undef | .ptr .. | .hp .. | .sl .. | .mp _ | .tup _ | .v1 _=>simp [AV.closed] at hc
 | .tt | .ff | .b _ | .lit _ | .i _ | .u _ | .raw _ | .np | .nils | .vp .. | .vs .. | .vm ..=>exact h
 | .agg cs=>
  obtain ⟨vals,h1,h2⟩:=h
  exact ⟨vals,h1,closed_Rs cs vals (by simpa [AV.closed] using hc) h2⟩
 | .fn f a c=>
  obtain ⟨fv,cv,h1,h2,h3⟩:=h
  simp only [AV.closed,Bool.and_eq_true] at hc
  exact ⟨fv,cv,h1,closed_Rs a fv hc.1 h2,closed_Rs c cv hc.2 h3⟩
theorem closed_Rs {S:Nat→Prop} {w:World} {ρ:Option (List Loc)} (cs:List AV) (vals:List Value) (hc:AV.closed.closeds cs=true) (h:Rs S w ρ cs vals):Rs S w none cs vals:=by
 match cs with
 | []=>exact h
 | c :: cs=>
  obtain ⟨x,xs,h1,h2,h3⟩:=h
  simp only [AV.closed.closeds,Bool.and_eq_true] at hc
  exact ⟨x,xs,h1,closed_R c x hc.1 h2,closed_Rs cs xs hc.2 h3⟩
end
end
end Go.AL
namespace Go.AL
open Go Go.RowKit
section
variable {P:Program} {γ:Nat→Option AV}
def flat (evs:List Value):List Value:=(evs.map fun e=>e.cells.toList).flatten
theorem flat_length {sz:Nat}:∀ {evs:List Value},(∀ e∈evs,e.cells.size=sz)→(flat evs).length=evs.length * sz
 | [],_=>by simp [flat]
 | e :: evs,h=>by
  have ih:=flat_length (evs:=evs) fun x hx=>h x (by simp [hx])
  have h0:=h e (by simp)
  simp only [flat,List.map_cons,List.flatten_cons,List.length_append,Array.length_toList,List.length_cons,h0] at ih ⊢
  rw [ih,Nat.add_mul];omega
theorem flat_append (a b:List Value):flat (a++b)=flat a++flat b:=by simp [flat]
theorem flat_take {sz:Nat} {evs:List Value} (h:∀ e∈evs,e.cells.size=sz) (i:Nat) (hi:i≤evs.length):(flat evs).take (i * sz)=flat (evs.take i):=by
 have e:flat evs=flat (evs.take i)++flat (evs.drop i):=by rw [←flat_append,List.take_append_drop]
 have hl:(flat (evs.take i)).length=i * sz:=by rw [flat_length (sz:=sz) fun x hx=>h x (List.mem_of_mem_take hx)];simp [Nat.min_eq_left hi]
 rw [e,←hl,List.take_left]
theorem flat_drop {sz:Nat} {evs:List Value} (h:∀ e∈evs,e.cells.size=sz) (i:Nat) (hi:i≤evs.length):(flat evs).drop (i * sz)=flat (evs.drop i):=by
 have e:flat evs=flat (evs.take i)++flat (evs.drop i):=by rw [←flat_append,List.take_append_drop]
 have hl:(flat (evs.take i)).length=i * sz:=by rw [flat_length (sz:=sz) fun x hx=>h x (List.mem_of_mem_take hx)];simp [Nat.min_eq_left hi]
 rw [e,←hl,List.drop_left]
theorem flat_set {sz:Nat} {evs:List Value} (h:∀ e∈evs,e.cells.size=sz) (i:Nat) (hi:i<evs.length) (v:Value) :
  flat (evs.set i v)=(flat evs).take (i * sz)++v.cells.toList++(flat evs).drop (i * sz+sz):=by
 rw [List.set_eq_take_append_cons_drop,if_pos hi,flat_append,flat_take h i (by omega)]
 have e:i * sz+sz=(i+1) * sz:=by rw [Nat.add_mul];omega
 rw [e,flat_drop h (i+1) (by omega)]
 simp [flat]
theorem flat_get {sz:Nat}:∀ {evs:List Value},(∀ e∈evs,e.cells.size=sz)→∀ {i:Nat} {ev:Value},evs[i]?=some ev→∀ {j:Nat} {c:Value},ev.cells[j]?=some c→(flat evs)[i * sz+j]?=some c
 | [],_,i,ev,hi,_,_,_=>by simp at hi
 | e :: evs,h,i,ev,hi,j,c,hj=>by
  have h0:=h e (by simp)
  simp only [flat,List.map_cons,List.flatten_cons]
  cases i with
  | zero=>
   simp at hi;subst hi
   have hlt:j<e.cells.size:=(Array.getElem?_eq_some_iff.1 hj).1
   rw [List.getElem?_append_left (by simp;omega)]
   simpa using hj
  | succ i=>
   have ih:=flat_get (evs:=evs) (fun x hx=>h x (by simp [hx])) (by simpa using hi) hj
   rw [List.getElem?_append_right (by simp [h0,Nat.add_mul];omega)]
   have e2:(i+1) * sz+j-e.cells.toList.length=i * sz+j:=by simp [h0,Nat.add_mul];omega
   rw [e2];exact ih
theorem range_mod (z:Array Value) (sz:Nat) (hz:z.size=sz):∀ n:Nat,(List.range (n * sz)).map (fun j=>z[j % z.size]!)=(List.replicate n z.toList).flatten:=by
 intro n
 induction n with
 | zero=>simp
 | succ n ih=>
  rw [Nat.add_mul,Nat.one_mul,List.range_add,List.map_append,ih]
  rw [List.replicate_succ',List.flatten_append]
  congr 1
  simp only [List.flatten_cons,List.flatten_nil,List.append_nil]
  apply List.ext_getElem
  ·simp [hz]
  ·intro j h1 h2
   simp only [List.length_map,List.length_range] at h1
   simp only [List.getElem_map,List.getElem_range,hz]
   have:(n * sz+j) % sz=j:=by rw [Nat.mul_comm,Nat.mul_add_mod,Nat.mod_eq_of_lt h1]
   simp only [this]
   rw [getElem!_pos z j (by omega)]
   simp
theorem flat_replicate (n:Nat) (z:Value):flat (List.replicate n z)=(List.replicate n z.cells.toList).flatten:=by simp [flat]
def setAllV:List Value→List (Nat × Value)→List Value
 | l,[]=>l
 | l,(i,v) :: r=>setAllV (l.set i v) r
theorem setAllV_length:∀ (qs:List (Nat × Value)) (l:List Value),(setAllV l qs).length=l.length
 | [],_=>rfl
 | (i,v) :: qs,l=>by simp [setAllV,setAllV_length qs]
theorem run_fill_slice {sz:Nat}:∀ (qs:List (Nat × Value)) (evs:List Value),(∀ e∈evs,e.cells.size=sz)→(∀ q∈qs,q.2.cells.size=sz∧q.1<evs.length) →
  Instr.fill (fun i=>some (i * sz,sz)) (flat evs).toArray qs=some (flat (setAllV evs qs)).toArray∧∀ e∈setAllV evs qs,e.cells.size=sz
 | [],evs,h,_=>⟨rfl,h⟩
 | (i,v) :: qs,evs,h,hq=>by
  obtain ⟨h1,h2⟩:=hq (i,v) (by simp)
  simp only at h1 h2
  have hs:∀ e∈evs.set i v,e.cells.size=sz:=fun e he=>by
   rcases List.mem_or_eq_of_mem_set he with h3 | rfl
   ·exact h e h3
   ·exact h1
  have ih:=run_fill_slice qs (evs.set i v) hs (fun q hm=>by have:=hq q (by simp [hm]);simpa using this)
  refine ⟨?_,ih.2⟩
  have hl:=flat_length h
  have hle:i * sz+sz≤evs.length * sz:=by
   have:(i+1) * sz≤evs.length * sz:=Nat.mul_le_mul_right _ h2
   rw [Nat.add_mul] at this;omega
  simp only [Instr.fill]
  have hcond:(v.cells.size≠sz || i * sz+v.cells.size > (flat evs).toArray.size)=false:=by
   simp only [ne_eq,Bool.or_eq_false_iff,decide_eq_false_iff_not,Decidable.not_not,gt_iff_lt,Nat.not_lt,List.size_toArray];omega
  simp only [hcond,Bool.false_eq_true,if_false]
  have hfold:=foldl_set v.cells.toList (flat evs) (i * sz) 0 (by simp;omega)
  have hz:v.cells.zipIdx.foldl (fun cs x=>match x with | (c,j)=>cs.setIfInBounds (i * sz+j) c) (flat evs).toArray=(flat (evs.set i v)).toArray:=by
   rw [Nat.add_zero,show i * sz+v.cells.toList.length=i * sz+sz from by simp;omega] at hfold
   rw [flat_set h i h2,←hfold,←Array.foldl_toList,Array.toList_zipIdx]
  rw [hz];exact ih.1
theorem Rs_setAll {S:Nat→Prop} {w:World} {ρ:Option (List Loc)}:∀ {ps:List (Nat × AV)} {qs:List (Nat × Value)} {es:List AV} {evs:List Value},PartsR S w ρ ps qs→Rs S w ρ es evs→Rs S w ρ (setAll es ps) (setAllV evs qs):=by
 intro ps
 induction ps with
 | nil=>
  intro qs es evs hp hr
  have:qs=[]:=by have:=hp.1;cases qs<;>simp_all
  subst this;exact hr
 | cons p ps ih=>
  intro qs es evs hp hr
  obtain ⟨i,v⟩:=p
  obtain ⟨h1,h2⟩:=hp
  cases qs with
  | nil=>simp at h1
  | cons q qs=>
   obtain ⟨i',u⟩:=q
   simp only [List.map_cons,List.cons.injEq] at h1 h2
   obtain ⟨rfl,h1⟩:=h1
   obtain ⟨x,xs,he,hvu,hrest⟩:=h2
   simp only [List.cons.injEq] at he
   obtain ⟨rfl,rfl⟩:=he
   exact ih (qs:=qs) ⟨h1,hrest⟩ (Rs_set hr i hvu)
theorem run_vbuildSlice0 {t:TypeId} {cs:List CK} {n:Nat} {parts:List (Nat × AV)} {k:AV→Prop} (hv:vbuildSlice0 (tiOf P t).k cs n parts k) :
  ∃ y,k y∧∀ B S ρ h w (qs:Array (Nat × Value)),HeapR B S γ ρ h w→PartsR S w (some ρ) parts qs.toList→∃ y' S' w',(Instr.buildSlice t n qs).run P w=.ok y' w'∧ExtQ S w S' w'∧R S' w' (some ρ) y y':=by
 unfold vbuildSlice0 at hv
 split at hv
 ·rename_i e sz by' zero hk
  obtain ⟨h1,i,h2,h3,_,h5⟩:=tk_slice hk
  split at hv
  ·rename_i hp0
   simp only [List.all_eq_true,Bool.and_eq_true,beq_iff_eq,decide_eq_true_eq] at hp0
   split at hv
   ·rename_i hz0
    simp only [Bool.and_eq_true,beq_iff_eq,decide_eq_true_eq] at hz0
    obtain ⟨⟨⟨⟨hz1,hz2⟩,hz3⟩,hz4⟩,hz5⟩:=hz0
    obtain ⟨zv,hzv,rfl⟩:∃ zv,i.zero=some zv∧zero=ofV zv:=by
     cases hx:i.zero with
     | none=>simp [hx] at h5
     | some zv=>exact ⟨zv,rfl,by simpa [hx] using h5.symm⟩
    have hzc:zv.cells.size=sz:=by
     have:=Rs_len (Rs_ofV (S:=fun _=>True) (w:=default) (ρ:=none) zv)
     simpa [hz3] using this
    refine ⟨_,hv,fun B S ρ h w qs hh hp=>?_⟩
    have hrep:∀ e∈List.replicate n zv,e.cells.size=sz:=fun e he=>by rw [List.eq_of_mem_replicate he];exact hzc
    have hqs:∀ q∈qs.toList,(q.2.cells.size=sz∧q.1<(List.replicate n zv).length):=by
     intro q hq
     obtain ⟨j,hj,rfl⟩:=List.mem_iff_getElem.1 hq
     obtain ⟨k1,k2⟩:=hp
     have hjp:j<parts.length:=by have:=congrArg List.length k1;simp at this;simp at hj;omega
     have hfst:parts[j].1=(qs.toList[j]).1:=by
      have:=congrArg (fun l=>l[j]?) k1
      simpa [List.getElem?_eq_getElem hjp,List.getElem?_eq_getElem hj] using this
     have hr:R S w (some ρ) parts[j].2 (qs.toList[j]).2:=(Rs_iff.1 k2).2 j _ _ (by simp [List.getElem?_eq_getElem hjp]) (by simp [List.getElem?_eq_getElem hj])
     have hpj:=hp0 parts[j] (List.getElem_mem hjp)
     refine ⟨?_,by rw [←hfst];simpa using hpj.2⟩
     have:=Rs_len (R_cells hr hpj.1.1.2).1
     simpa [hpj.1.2] using this
    obtain ⟨f1,f2⟩:=run_fill_slice qs.toList (List.replicate n zv) hrep hqs
    have hnsz:¬ n * i.size > 2 ^ 24:=by rw [h3];omega
    refine ⟨.slice (some ⟨w.heap.size,0,none⟩) n n,fun k=>S k∨k=w.heap.size,w.alloc (.cells (flat (setAllV (List.replicate n zv) qs.toList)).toArray e),?_,?_,?_⟩
    ·simp only [Instr.buildSlice,Sem.run_bind,run_underlying h1,Result.andThen_ok,run_sizeOf h2,hnsz,if_false]
     by_cases hn0:n * i.size=0
     ·have hn:n=0:=by rcases Nat.mul_eq_zero.1 hn0 with h | h<;>omega
      subst hn
      simp only [hn0,if_true]
      have hq0:qs.toList=[]:=by
       cases hq:qs.toList with
       | nil=>rfl
       | cons q _=>have:=(hqs q (by simp [hq])).2;simp at this
      rw [hq0] at f1 ⊢
      simp [Instr.fill,newRow,setAllV,flat,Array.range_zero']
     ·simp only [hn0,if_false,Sem.run_bind,run_zeroValue h2 hzv,Result.andThen_ok,Sem.run_pure]
      have hz:((Array.range (n * i.size)).map fun x=>zv.cells[x % zv.cells.size]!)=(flat (List.replicate n zv)).toArray:=by
       rw [flat_replicate,←range_mod zv.cells sz hzc n,h3]
       rw [←List.map_toArray]
       congr 1
       exact Array.ext (by simp) (by intro j h1 h2;simp)
      rw [hz,h3,f1]
      simp [newRow]
    ·have hsz:w.heap.size<(w.alloc (.cells (flat (setAllV (List.replicate n zv) qs.toList)).toArray e)).heap.size:=by simp
     exact ⟨Fr.cells _ _ _,fun k hk=>Below.heap_alloc w _ k hk,fun k hk=>.inl hk,fun k hk=>by
      rcases hk with hk | rfl
      ·exact .inl hk
      ·exact .inr ⟨Nat.le_refl _,hsz⟩⟩
    ·have hsw:SameOn S w (w.alloc (.cells (flat (setAllV (List.replicate n zv) qs.toList)).toArray e)):=fun k hk=>Below.heap_alloc w _ k (hh.sle k hk)
     have hlen:(setAllV (List.replicate n zv) qs.toList).length=n:=by rw [setAllV_length];simp
     suffices hfin:R (fun k=>S k∨k=w.heap.size) (w.alloc (.cells (flat (setAllV (List.replicate n zv) qs.toList)).toArray e)) (some ρ) (.vs sz fun _=>LV.of ((setAll (List.replicate n (ofV zv)) parts).map (AV.nrm cs))) (.slice (some ⟨w.heap.size,0,none⟩) n n) by
      cases n with
      | zero=>exact ⟨_,rfl⟩
      | succ n=>exact hfin
     refine ⟨some ⟨w.heap.size,0,none⟩,n,setAllV (List.replicate n zv) qs.toList,by rw [hlen],by omega,?_,.inr ⟨_,rfl,rfl,.inr rfl,fun j ev hj=>⟨f2 ev (List.mem_of_getElem? hj),fun c x hx=>?_⟩⟩⟩
     ·rw [RL_iff,LV.l_of]
      refine Rs.mono (S:=S) (w:=w) (fun k hk=>.inl hk) hsw (ρ:=none) (ρ':=none) trivial _ _ ?_
      refine Rs_nrm cs (Rs_setAll (ρ:=none) ⟨hp.1,?_⟩ (Rs_replicate (R_ofV zv) n))
      have hcl:∀ (ps:List AV),(∀ p∈ps,p.closed=true)→AV.closed.closeds ps=true:=by
       intro ps
       induction ps with
       | nil=>intro _;rfl
       | cons p ps ih=>intro hps;simp only [AV.closed.closeds,Bool.and_eq_true];exact ⟨hps p (by simp),ih fun q hq=>hps q (by simp [hq])⟩
      exact closed_Rs _ _ (hcl _ fun p hp'=>by
       obtain ⟨q,hq,rfl⟩:=List.mem_map.1 hp'
       exact (hp0 q hq).1.1.1) hp.2
     ·rw [cell_heap (heap_alloc_new w _)]
      have:=flat_get f2 hj hx
      simpa using this
   ·exact hv.elim
  ·exact hv.elim
 ·exact hv.elim
theorem ownPart_some {parts:List (Nat × AV)} {x:AV} (h:ownPart parts=some x):parts=[(0,x)]:=by
 unfold ownPart at h
 split at h
 ·rename_i p
  obtain ⟨a,b⟩:=p
  cases a with
  | zero=>
   simp only at h
   split at h
   ·cases h;rfl
   ·cases h
  | succ _=>cases h
 ·cases h
theorem run_vbuildSlice {t:TypeId} {cs:List CK} {n:Nat} {parts:List (Nat × AV)} {k:AV→Prop} (hv:vbuildSlice (tiOf P t).k cs n parts k) :
  ∃ y,k y∧∀ B S ρ h w (qs:Array (Nat × Value)),HeapR B S γ ρ h w→PartsR S w (some ρ) parts qs.toList→∃ y' S' w',(Instr.buildSlice t n qs).run P w=.ok y' w'∧ExtQ S w S' w'∧R S' w' (some ρ) y y':=by
 unfold vbuildSlice at hv
 split at hv
 ·rename_i x hx
  obtain rfl:=ownPart_some hx
  unfold vbuild1 at hv
  split at hv
  ·rename_i e sz by' zero hk
   obtain ⟨h1,i,h2,h3,_,h5⟩:=tk_slice hk
   split at hv
   ·rename_i hz0
    simp only [Bool.and_eq_true,beq_iff_eq] at hz0
    obtain ⟨⟨⟨rfl,rfl⟩,hz3⟩,hone⟩:=hz0
    obtain ⟨zv,hzv,rfl⟩:∃ zv,i.zero=some zv∧zero=ofV zv:=by
     cases hx:i.zero with
     | none=>simp [hx] at h5
     | some zv=>exact ⟨zv,rfl,by simpa [hx] using h5.symm⟩
    have hzc:zv.cells.size=1:=by
     have:=Rs_len (Rs_ofV (S:=fun _=>True) (w:=default) (ρ:=none) zv)
     simpa [hz3] using this
    refine ⟨_,hv,fun B S ρ h w qs hh hp=>?_⟩
    obtain ⟨p1,p2⟩:=hp
    obtain ⟨v,hq⟩:∃ v,qs.toList=[(0,v)]:=by
     match hq:qs.toList,p1,p2 with
     | [(a,b)],p1,_=>simp at p1;subst p1;exact ⟨b,rfl⟩
     | [],p1,_=>simp at p1
     | _ :: _ :: _,p1,_=>simp at p1
    rw [hq] at p2
    obtain ⟨v',_,e1,hr,e2⟩:=p2
    cases e1
    have hv1:=R_one hr hone
    have hvc:=cells_of_one hv1
    have hrep:∀ e∈List.replicate 1 zv,e.cells.size=1:=fun e he=>by rw [List.eq_of_mem_replicate he];exact hzc
    obtain ⟨f1,f2⟩:=run_fill_slice (sz:=1) qs.toList (List.replicate 1 zv) hrep (by rw [hq];intro q hq';simp at hq';subst hq';rw [hvc];simp)
    have hfl:flat (setAllV (List.replicate 1 zv) qs.toList)=[v]:=by rw [hq];simp [setAllV,flat,hvc]
    rw [hfl] at f1
    refine ⟨.slice (some ⟨w.heap.size,0,none⟩) 1 1,fun k=>S k∨k=w.heap.size,w.alloc (.cells [v].toArray e),?_,?_,?_⟩
    ·simp only [Instr.buildSlice,Sem.run_bind,run_underlying h1,Result.andThen_ok,run_sizeOf h2]
     rw [if_neg (by rw [h3];omega)]
     rw [if_neg (by rw [h3];omega)]
     simp only [Sem.run_bind,run_zeroValue h2 hzv,Result.andThen_ok,Sem.run_pure]
     have hz:((Array.range (1 * i.size)).map fun x=>zv.cells[x % zv.cells.size]!)=(flat (List.replicate 1 zv)).toArray:=by
      rw [flat_replicate,←range_mod zv.cells 1 hzc 1,h3]
      rw [←List.map_toArray]
      congr 1
      first | done | exact Array.ext (by simp) (by intro j h1 h2;simp)
     rw [hz,h3,f1]
     simp [newRow]
    ·exact ⟨Fr.cells _ _ _,fun k hk=>Below.heap_alloc w _ k hk,fun k hk=>.inl hk,fun k hk=>by
      rcases hk with hk | rfl
      ·exact .inl hk
      ·exact .inr ⟨Nat.le_refl _,by simp⟩⟩
    ·have hsw:SameOn S w (w.alloc (.cells [v].toArray e)):=fun k hk=>Below.heap_alloc w _ k (hh.sle k hk)
     refine ⟨w.heap.size,0,1,v,rfl,Nat.le_refl _,.inr rfl,hv1,?_,R.mono (fun k hk=>.inl hk) hsw (Up.refl (some ρ)) _ _ hr⟩
     rw [cell_heap (heap_alloc_new w _)];rfl
   ·exact hv.elim
  ·exact hv.elim
 ·exact run_vbuildSlice0 hv
end
end Go.AL
namespace Go.AL
open Go Go.RowKit
section
variable {P:Program} {γ:Nat→Option AV}
theorem run_sliceBound (n:Int) (y:Nat) (code:BoundsCode) (h:0≤n∧n≤y) (w:World):(Instr.sliceBound (.int .i64 n) y code).run P w=.ok n.toNat w:=by
 simp [Instr.sliceBound,asIntOf,h]
def boundOf (x:Option AV) (d:Int):Option Int:=
 match x with | none=>some d | some (.lit n)=>some n | some (.i n)=>some (n ()) | _=>none
theorem run_slice' {t e:TypeId} {i:TypeInfo} (ht:P.underlying t=some (.slice e)) (hi:P.info? e=some i) (a:Option Addr) (len cap:Nat) (lo hi':Option Value) (l h:Nat)
  (hlo:(lo=none∧l=0)∨lo=some (.int .i64 l)) (hhi:(hi'=none∧h=len)∨hi'=some (.int .i64 h)) (h1:l≤h) (h2:h≤len) (h3:len≤cap) (w:World) :
  (Instr.sliceAt t (.slice a len cap) lo hi' none).run P w=.ok (.slice (if cap=l then a else a.map (·.add (l * i.size))) (h-l) (cap-l)) w:=by
 have hb:(Instr.sliceBounds true len cap lo hi' none).run P w=.ok (l,h,cap) w:=by
  unfold Instr.sliceBounds
  rcases hhi with ⟨rfl,rfl⟩ | rfl<;>rcases hlo with ⟨rfl,rfl⟩ | rfl
  ·simp
  ·simp [run_sliceBound _ _ _ (show (0:Int)≤(l:Int)∧(l:Int)≤(h:Nat) from ⟨by omega,by omega⟩)]
  ·simp [run_sliceBound _ _ _ (show (0:Int)≤(h:Int)∧(h:Int)≤(cap:Nat) from ⟨by omega,by omega⟩)]
  ·simp [run_sliceBound _ _ _ (show (0:Int)≤(h:Int)∧(h:Int)≤(cap:Nat) from ⟨by omega,by omega⟩),run_sliceBound _ _ _ (show (0:Int)≤(l:Int)∧(l:Int)≤(h:Nat) from ⟨by omega,by omega⟩)]
 simp only [Instr.sliceAt,Sem.run_bind,run_underlying ht,Result.andThen_ok,Instr.slice,hb,run_sizeOf hi,Sem.run_pure]
theorem bound_R {S:Nat→Prop} {w:World} {ρ:List Loc} {x:Option AV} {x':Option Value} (hx:x.elim (x'=none) fun y=>∃ y',x'=some y'∧R S w (some ρ) y y') {d n:Int} (h:boundOf x d=some n) :
  (x'=none∧n=d)∨x'=some (.int .i64 n):=by
 cases x with
 | none=>simp only [boundOf,Option.some.injEq] at h;exact .inl ⟨hx,h.symm⟩
 | some y=>
  obtain ⟨y',rfl,hy⟩:=hx
  cases y<;>simp [boundOf] at h<;>subst h<;>simp only [R] at hy<;>subst hy<;>exact .inr rfl
theorem run_vslice {t:TypeId} {x:AV} {lo hi mx:Option AV} {k:AV→Prop} (hv:vslice (tiOf P t).k x lo hi mx k) :
  ∃ y,k y∧∀ S w ρ x' lo' hi' mx',R S w (some ρ) x x'→(lo.elim (lo'=none) fun y=>∃ y',lo'=some y'∧R S w (some ρ) y y')→(hi.elim (hi'=none) fun y=>∃ y',hi'=some y'∧R S w (some ρ) y y')→(mx.elim (mx'=none) fun y=>∃ y',mx'=some y'∧R S w (some ρ) y y') →
   ∃ y',(Instr.sliceAt t x' lo' hi' mx').run P w=.ok y' w∧R S w (some ρ) y y':=by
 unfold vslice at hv
 split at hv
 ·rename_i e sz by' z hk
  obtain ⟨h1,i,h2,h3,_⟩:=tk_slice hk
  split at hv
  ·split at hv
   ·exact hv.elim
   ·rename_i l hl
    have hl':boundOf lo 0=some (l ()):=by
     cases lo with
     | none=>simp at hl;subst hl;rfl
     | some y=>cases y<;>simp at hl<;>subst hl<;>rfl
    split at hv
    ·rename_i q es
     split at hv
     ·rename_i hq;subst hq
      split at hv
      ·exact hv.elim
      ·rename_i m hm
       have hm':boundOf hi ((es ()).l.length)=some (m ()):=by
        cases hi with
        | none=>simp at hm;subst hm;rfl
        | some y=>cases y<;>simp at hm<;>subst hm<;>rfl
       obtain ⟨hc,hv⟩:=hv
       have hc:=hc ()
       refine ⟨_,hv,fun S w ρ x' lo' hi' mx' hx hlo hhi hmx=>?_⟩
       obtain ⟨a,cap,evs,rfl,k1,k2,k3⟩:=hx
       have k2':=(RL_iff _ _ _ _).1 k2
       have hlen:evs.length=(es ()).l.length:=Rs_len k2'
       simp only [Option.elim] at hmx
       subst hmx
       obtain ⟨ln,hln⟩:∃ ln:Nat,l ()=ln:=⟨(l ()).toNat,by omega⟩
       obtain ⟨mn,hmn⟩:∃ mn:Nat,m ()=mn:=⟨(m ()).toNat,by omega⟩
       have b1:=bound_R hlo hl'
       have b2:=bound_R hhi hm'
       rw [hln] at b1 hc;rw [hmn] at b2 hc
       have hr:=run_slice' (P:=P) h1 h2 a evs.length cap lo' hi' ln mn (b1.imp (fun h=>⟨h.1,by omega⟩) id) (b2.imp (fun h=>⟨h.1,by omega⟩) id) (by omega) (by omega) k1 w
       refine ⟨_,hr,?_⟩
       have hlt:((evs.drop ln).take (mn-ln)).length=mn-ln:=by simp;omega
       refine ⟨_,cap-ln,(evs.drop ln).take (mn-ln),by rw [hlt],by rw [hlt];omega,?_,?_⟩
       ·rw [RL_iff,LV.l_of,hln,hmn]
        exact Rs_take (Rs_drop k2' _) _
       ·rcases k3 with rfl | ⟨⟨ab,ao,asp⟩,rfl,k4,k5,k6⟩
        ·left;simp
        ·simp at k4;subst k4
         by_cases hcl:cap=ln
         ·left;apply List.eq_nil_of_length_eq_zero;rw [hlt];omega
         ·right
          refine ⟨⟨ab,ao+ln * i.size,none⟩,by rw [if_neg hcl];simp [add_add'],rfl,k5,fun j ev hj=>?_⟩
          rw [List.getElem?_take] at hj
          split at hj
          ·rw [List.getElem?_drop] at hj
           obtain ⟨c1,c2⟩:=k6 _ _ hj
           refine ⟨c1,fun j' c hc'=>?_⟩
           have:=c2 j' c hc'
           rw [h3]
           rw [Nat.add_mul] at this
           rw [show ao+ln * q+(j * q+j')=ao+(ln * q+j * q+j') from by omega]
           exact this
          ·cases hj
     ·exact hv.elim
    ·rename_i b g q off n
     split at hv
     ·rename_i hq;subst hq
      split at hv
      ·exact hv.elim
      ·rename_i m hm
       have hm':boundOf hi (n ())=some (m ()):=by
        cases hi with
        | none=>simp at hm;subst hm;rfl
        | some y=>cases y<;>simp at hm<;>subst hm<;>rfl
       obtain ⟨hc,hv⟩:=hv
       have hc:=hc ()
       refine ⟨_,hv,fun S w ρ x' lo' hi' mx' hx hlo hhi hmx=>?_⟩
       obtain ⟨ll,loc,a,cap,c0,c1,c2,c3,c4,rfl,c6,c7,c8⟩:=hx
       simp only [Option.elim] at hmx
       subst hmx
       obtain ⟨ln,hln⟩:∃ ln:Nat,l ()=ln:=⟨(l ()).toNat,by omega⟩
       obtain ⟨mn,hmn⟩:∃ mn:Nat,m ()=mn:=⟨(m ()).toNat,by omega⟩
       have b1:=bound_R hlo hl'
       have b2:=bound_R hhi hm'
       rw [hln] at b1 hc;rw [hmn] at b2 hc
       have hr:=run_slice' (P:=P) h1 h2 a (n ()) cap lo' hi' ln mn (b1.imp (fun h=>⟨h.1,by omega⟩) id) (b2.imp (fun h=>⟨h.1,by omega⟩) id) (by omega) (by omega) c6 w
       refine ⟨_,hr,ll,loc,(if cap=ln then a else a.map (·.add (ln * i.size))),cap-ln,c0,c1,c2,c3,c4,by rw [hln,hmn];simp,by rw [hln,hmn];simp;omega,?_,fun eg=>?_⟩
       ·by_cases hcl:cap=ln
        ·left;omega
        ·right
         rcases c7 with c7 | ⟨ab,ao,rfl⟩
         ·omega
         ·exact ⟨ab,ao+ln * i.size,by rw [if_neg hcl];simp [add_add']⟩
       ·rcases c8 eg with ⟨d1,d2,d3⟩ | ⟨K,d1,d2,d3⟩
        ·exact .inl ⟨d1,by omega,by rw [hln];simp;omega⟩
        ·refine .inr ⟨K,d1,?_,by
          rw [hln];simp only [Int.toNat_natCast]
          refine Nat.le_trans (Nat.mul_le_mul_right _ ?_) d3
          omega⟩
         by_cases hcl:cap=ln
         ·left;omega
         ·right
          rcases d2 with d2 | d2
          ·omega
          ·rw [if_neg hcl,d2,hln,h3,c3]
           simp [add_add',Nat.add_mul]
     ·exact hv.elim
    ·exact hv.elim
  ·split at hv
   ·split at hv
    ·rename_i vk ves
     have common:(lo=none∨lo=some (.lit 0))→k .nils→∃ y,k y∧∀ S w ρ x' lo' hi' mx',R S w (some ρ) (.vs vk ves) x'→(lo.elim (lo'=none) fun y=>∃ y',lo'=some y'∧R S w (some ρ) y y')→(Option.elim (some (AV.lit 0)) (hi'=none) fun y=>∃ y',hi'=some y'∧R S w (some ρ) y y')→(Option.elim (some (AV.lit 0)) (mx'=none) fun y=>∃ y',mx'=some y'∧R S w (some ρ) y y') →
       ∃ y',(Instr.sliceAt t x' lo' hi' mx').run P w=.ok y' w∧R S w (some ρ) y y':=by
      intro hlo hv
      refine ⟨_,hv,fun S w ρ x' lo' hi' mx' hx hlo' hhi hmx=>?_⟩
      obtain ⟨a,cap,evs,rfl,k1,_⟩:=hx
      obtain ⟨_,rfl,hhi⟩:=hhi
      obtain ⟨_,rfl,hmx⟩:=hmx
      simp only [R] at hhi hmx
      subst hhi;subst hmx
      have hb:(Instr.sliceBounds true evs.length cap lo' (some (.int .i64 0)) (some (.int .i64 0))).run P w=.ok (0,0,0) w:=by
       unfold Instr.sliceBounds
       have s0:∀ y code,(Instr.sliceBound (.int .i64 0) y code).run P w=.ok 0 w:=fun y code=>run_sliceBound 0 y code ⟨by omega,by omega⟩ w
       rcases hlo with rfl | rfl
       ·simp only [Option.elim] at hlo';subst hlo';simp [s0]
       ·obtain ⟨_,rfl,hz⟩:=hlo'
        simp only [R] at hz;subst hz
        simp [s0]
      refine ⟨.slice a 0 0,?_,⟨a,rfl⟩⟩
      simp only [Instr.sliceAt,Sem.run_bind,run_underlying h1,Result.andThen_ok,Instr.slice,hb,run_sizeOf h2,Sem.run_pure]
      simp
     split at hv
     ·exact common (.inl rfl) hv
     ·exact common (.inr rfl) hv
     ·exact hv.elim
    ·exact hv.elim
   ·exact hv.elim
  ·exact hv.elim
 ·exact hv.elim
end
end Go.AL
namespace Go.AL
open Go Go.RowKit
section
variable {P:Program} {γ:Nat→Option AV}
theorem br_val {c:AV} {p q:Unit→Prop} (h:br c p q):(∃ x:Bool,(∀ S w ρ v,R S w ρ c v→v=.bool x)∧(if x then p () else q ())):=by
 unfold br at h
 split at h
 ·exact ⟨true,fun S w ρ v hv=>hv,h⟩
 ·exact ⟨false,fun S w ρ v hv=>hv,h⟩
 ·rename_i x
  cases hx:x () with
  | true=>exact ⟨true,fun S w ρ v hv=>by simp only [R] at hv;rw [hv,hx],h.1 () hx⟩
  | false=>exact ⟨false,fun S w ρ v hv=>by simp only [R] at hv;rw [hv,hx],h.2 () hx⟩
 ·exact h.elim
theorem Rs_map {S:Nat→Prop} {w:World} {ρ:Option (List Loc)} {e:Operand→AV} {re:Operand→Value}:∀ (xs:List Operand),(∀ x∈xs,R S w ρ (e x) (re x))→Rs S w ρ (xs.map e) (xs.map re)
 | [],_=>rfl
 | x :: xs,h=>⟨_,_,rfl,h x (by simp),Rs_map xs fun y hy=>h y (by simp [hy])⟩
theorem opt_R {S:Nat→Prop} {w:World} {ρ:Option (List Loc)} {e:Operand→AV} {re:Operand→Value} (x:Option Operand) (h:∀ y∈x.toArray,R S w ρ (e y) (re y)) :
  (x.map e).elim (x.map re=none) fun y=>∃ y',x.map re=some y'∧R S w ρ y y':=by
 cases x with
 | none=>rfl
 | some y=>exact ⟨_,rfl,h y (by simp)⟩
theorem toInt_wrap (x:BitVec 64):IntKind.i64.wrap (x.toNat:Int)=x.toInt:=by
 have h:=x.isLt
 rw [BitVec.toInt_eq_toNat_cond,IntKind.wrap_i64]
 split<;>omega
theorem run_vun {op:UnOp} {x:AV} {k:AV→Prop} (hv:vun op x k):∃ y,k y∧∀ S w ρ x',R S w (some ρ) x x'→∃ y',(Op.unary op x').run P w=.ok y' w∧R S w (some ρ) y y':=by
 cases op<;>simp only [vun] at hv
 case not=>
  split at hv
  ·exact ⟨_,hv,fun S w ρ x' hx=>by simp only [R] at hx;subst hx;exact ⟨_,rfl,rfl⟩⟩
  ·exact ⟨_,hv,fun S w ρ x' hx=>by simp only [R] at hx;subst hx;exact ⟨_,rfl,rfl⟩⟩
  ·exact ⟨_,hv,fun S w ρ x' hx=>by simp only [R] at hx;subst hx;exact ⟨_,rfl,rfl⟩⟩
  ·exact hv.elim
 case neg=>
  split at hv
  ·exact ⟨_,hv,fun S w ρ x' hx=>by simp only [R] at hx;subst hx;exact ⟨_,rfl,by simp only [R,w64];congr 2;omega⟩⟩
  ·exact ⟨_,hv,fun S w ρ x' hx=>by simp only [R] at hx;subst hx;exact ⟨_,rfl,by simp only [R,w64];congr 2;omega⟩⟩
  ·exact hv.elim
 case xor=>
  split at hv
  ·rename_i u
   refine ⟨_,hv,fun S w ρ x' hx=>?_⟩
   simp only [R] at hx;subst hx
   refine ⟨_,rfl,?_⟩
   simp only [R]
   have h:=bits_u64 .xor (BitVec.allOnes 64) (u ()) _ rfl
   have e:((BitVec.allOnes 64).toNat:Int)=IntKind.u64.max:=by decide
   rw [e] at h
   have e2:BitVec.allOnes 64 ^^^ u () = ~~~ (u ()):=BitVec.not_def.symm
   simp only [e2] at h
   exact congrArg (Value.int .u64) h
  ·exact hv.elim
theorem run_vconv {s t:TypeId} {x:AV} {k:AV→Prop} (hv:vconv (tiOf P s).k (tiOf P t).k x k) :
  ∃ y,k y∧∀ S w ρ x',R S w (some ρ) x x'→∃ y',(convert s t x').run P w=.ok y' w∧R S w (some ρ) y y':=by
 have conv:∀ (ks kt:IntKind) (n:Int),(tiOf P s).k=.int ks→(tiOf P t).k=.int kt→∀ w,(convert s t (.int ks n)).run P w=.ok (.int kt (kt.wrap n)) w:=by
  intro ks kt n h1 h2 w
  have e1:=tk_int h1;have e2:=tk_int h2
  simp [convert,run_underlying e1,run_underlying e2,Conv.intToInt]
 unfold vconv at hv
 split at hv
 ·rename_i hs
  split at hv
  ·rename_i ht
   split at hv
   ·exact ⟨_,hv,fun S w ρ x' hx=>by simp only [R] at hx;subst hx;exact ⟨_,conv _ _ _ hs ht w,by simp only [R];rw [wrap_u64]⟩⟩
   ·exact ⟨_,hv,fun S w ρ x' hx=>by simp only [R] at hx;subst hx;exact ⟨_,conv _ _ _ hs ht w,by simp only [R];rw [wrap_u64]⟩⟩
   ·exact hv.elim
  ·rename_i ht
   split at hv
   ·exact ⟨_,hv,fun S w ρ x' hx=>by simp only [R] at hx;subst hx;exact ⟨_,conv _ _ _ hs ht w,rfl⟩⟩
   ·exact ⟨_,hv,fun S w ρ x' hx=>by simp only [R] at hx;subst hx;exact ⟨_,conv _ _ _ hs ht w,rfl⟩⟩
   ·exact hv.elim
  ·exact hv.elim
 ·rename_i hs
  split at hv
  ·rename_i ht
   split at hv
   ·refine ⟨_,hv,fun S w ρ x' hx=>by
     simp only [R] at hx;subst hx
     refine ⟨_,conv _ _ _ hs ht w,?_⟩
     simp only [R]
     congr 1
     exact toInt_wrap _⟩
   ·exact hv.elim
  ·rename_i ht
   split at hv
   ·exact ⟨_,hv,fun S w ρ x' hx=>by simp only [R] at hx;subst hx;exact ⟨_,conv _ _ _ hs ht w,by simp only [R];rw [wrap_u64,ofInt_toNat]⟩⟩
   ·exact hv.elim
  ·exact hv.elim
 ·exact hv.elim
end
end Go.AL
namespace Go.AL
open Go Go.RowKit
section
variable {P:Program} {γ:Nat→Option AV}
theorem chk_flat (em:Bool):∀ (f:Nat) (t:TypeId) (cs:List CK),flatC P f t=some cs→∀ d,f≤d→∀ (w:World) (x:Value) (lx:List Value),Shaped P t x lx→TyL cs lx→(Instr.checkKey em d t x).run P w=.ok () w
 | 0,_,_,h,_,_=>by cases h
 | f+1,t,cs,h,d,hd=>by
  obtain ⟨d',rfl⟩:∃ d',d=d'+1:=⟨d-1,by omega⟩
  intro w x lx hx tx
  obtain ⟨k,hu⟩:=und_of_flat h
  simp only [flatC,hu] at h
  rw [Instr.checkKey]
  simp only [Sem.run_bind,run_underlying hu,Result.andThen_ok]
  cases k<;>simp at h
  case bool=>
   obtain ⟨_,rfl⟩:=h
   simp only [Shaped,hu] at hx;subst hx
   obtain ⟨_,_,e,⟨a,rfl⟩,_⟩:=tx;cases e
   rfl
  case int q=>
   cases q<;>simp at h
   all_goals
    obtain ⟨_,rfl⟩:=h
    simp only [Shaped,hu] at hx;subst hx
    obtain ⟨_,_,e,⟨a,rfl⟩,_⟩:=tx;cases e
    rfl
  case array n e=>
   split at h
   ·rename_i cs0 h0
    split at h
    ·rename_i hs
     cases h
     have hs:(P.info? e).map (·.size)=some cs0.length∧P.cellsOf e=cs0.length:=⟨by obtain ⟨a,h1,h2⟩:=hs.1;simp [h1,h2],hs.2⟩
     simp only [Shaped,hu] at hx
     subst hx
     obtain ⟨k0,hu0⟩:=und_of_flat h0
     obtain ⟨d0,i0,m1,m2,m3,m4⟩:=okc_of hu0 hs.1 (flatC_one h0 hu0)
     simp only [Std.Legacy.Range.forIn_eq_forIn_range',Std.Legacy.Range.size,Nat.sub_zero,Nat.add_one_sub_one,Nat.div_one]
     have key:∀ (n k:Nat),k * cs0.length≤lx.length→TyL (List.replicate n cs0).flatten (lx.drop (k * cs0.length))→∀ j,k≤j→j<k+n→∃ a,(part e lx.toArray (j * i0.size)).run P w=.ok a w∧(Instr.checkKey em d' e a).run P w=.ok () w:=by
      intro n
      induction n with
      | zero=>intro k _ _ j h1 h2;omega
      | succ n ih=>
       intro k hk ht j h1 h2
       rw [List.replicate_succ,List.flatten_cons] at ht
       have hl:=ht.len
       simp only [List.length_append,List.length_drop] at hl
       obtain ⟨ht1,ht2⟩:=ht.app
       by_cases e0:j=k
       ·subst e0
        obtain ⟨a,p1,p2⟩:=run_part m1 m2 w lx (j * cs0.length) (by omega) m4
        rw [m3] at p2 ⊢
        exact ⟨a,p1,chk_flat em f e cs0 h0 d' (by omega) w a _ p2 ht1⟩
       ·have hs:(k+1) * cs0.length=k * cs0.length+cs0.length:=by rw [Nat.add_mul,Nat.one_mul]
        exact ih (k+1) (by omega) (by rw [hs,←List.drop_drop];exact ht2) j (by omega) (by omega)
     have each:∀ j∈List.range' 0 n,∃ a,(part e lx.toArray (j * i0.size)).run P w=.ok a w∧(Instr.checkKey em d' e a).run P w=.ok () w:=fun j hj=>
      key n 0 (by simp) (by simpa using tx) j (by omega) (by have:=List.mem_range'_1.1 hj;omega)
     generalize List.range' 0 n=is at each
     induction is with
     | nil=>simp
     | cons j is ih=>
      obtain ⟨a,p1,p2⟩:=each j (by simp)
      simp only [List.forIn_cons,Sem.run_bind,run_sizeOf m2,Result.andThen_ok,p1,p2,Sem.run_pure]
      simpa only [Sem.run_bind,Sem.run_pure,ne_eq] using ih fun y hy=>each y (by simp [hy])
    ·cases h
   ·cases h
  case struct fs=>
   obtain ⟨hst,css,h1,rfl⟩:=h
   obtain ⟨k1,k2⟩:=flatF_spec h1
   simp only [Shaped,hu] at hx
   subst hx
   dsimp only
   rw [←Array.forIn_toList]
   have each:∀ (L:List Field) (css:List (List CK)) (o:Nat),o≤lx.length→L.length=css.length →
     (∀ (j : Nat) (fl : Field) (cs : List CK), L[j]? = some fl → css[j]? = some cs → fl.name ≠ "_" ∧ fl.offset = o + ((css.take j).map List.length).sum ∧ flatC P f fl.type = some cs ∧ (P.info? fl.type).map (·.size) = some cs.length) →
     TyL css.flatten (lx.drop o) → ∀ fl ∈ L, fl.name ≠ "_" ∧ ∃ a, (part fl.type lx.toArray fl.offset).run P w = .ok a w ∧ (Instr.checkKey em d' fl.type a).run P w = .ok () w := by
    intro L
    induction L with
    | nil=>intro _ _ _ _ _ _ fl hfl;cases hfl
    | cons f0 L ih=>
     intro css o ho hl hj ht fl hfl
     cases css with
     | nil=>simp at hl
     | cons cs css=>
      obtain ⟨m1,m2,m3,m4⟩:=hj 0 f0 cs rfl rfl
      have m2:f0.offset=o:=by simpa using m2
      rw [List.flatten_cons] at ht
      have hxl:=ht.len
      simp only [List.length_append,List.length_drop] at hxl
      obtain ⟨ht1,ht2⟩:=ht.app
      rcases List.mem_cons.1 hfl with rfl | hfl
      ·obtain ⟨k0,hu0⟩:=und_of_flat m3
       obtain ⟨d0,i0,q1,q2,q3,q4⟩:=okc_of hu0 m4 (flatC_one m3 hu0)
       obtain ⟨a,p1,p2⟩:=run_part q1 q2 w lx o (by omega) q4
       rw [q3] at p2
       exact ⟨m1,a,by rw [m2];exact p1,chk_flat em f _ cs m3 d' (by omega) w a _ p2 ht1⟩
      ·exact ih css (o+cs.length) (by omega) (by simpa using hl) (fun j f' cs' h1 h2=>by
        obtain ⟨n1,n2,n3⟩:=hj (j+1) f' cs' (by simpa using h1) (by simpa using h2)
        exact ⟨n1,by rw [n2];simp;omega,n3⟩) (by rwa [List.drop_drop] at ht2) fl hfl
   have each:=each fs.toList css 0 (Nat.zero_le _) k1 (fun j fl cs' hj hcs=>k2 j fl cs' hj hcs) (by simpa using tx)
   generalize fs.toList=L at each
   induction L with
   | nil=>simp
   | cons f0 L ih=>
    obtain ⟨hn,a,p1,p2⟩:=each f0 (by simp)
    simp only [List.forIn_cons,Sem.run_bind,hn,ne_eq,not_false_eq_true,if_true,Result.andThen_ok,p1,p2,Sem.run_pure]
    simpa only [Sem.run_bind,Sem.run_pure,ne_eq] using ih fun y hy=>each y (by simp [hy])
def vnum:Value→Int | .int _ n=>n | .bool b=>if b then 1 else 0 | _=>0
def vnums (v:Value):List Int:=v.cells.toList.map vnum
theorem vnum_inj:∀ {cs:List CK} {x y:List Value},TyL cs x→TyL cs y→(x.map vnum=y.map vnum↔x=y)
 | [],x,y,hx,hy=>by
  have hx:x=[]:=hx
  have hy:y=[]:=hy
  subst hx;subst hy;simp
 | c :: cs,_,_,⟨v,r,rfl,h1,h2⟩,⟨v',r',rfl,h3,h4⟩=>by
  have ih:=vnum_inj h2 h4
  have h0:vnum v=vnum v'↔v=v':=by
   cases c
   case i=>obtain ⟨n,rfl⟩:=h1;obtain ⟨m,rfl⟩:=h3;simp [vnum]
   case u=>obtain ⟨n,rfl⟩:=h1;obtain ⟨m,rfl⟩:=h3;simp [vnum]
   case b=>obtain ⟨n,rfl⟩:=h1;obtain ⟨m,rfl⟩:=h3;cases n<;>cases m<;>simp [vnum]
   case sl=>exact h1.elim
  simp [h0,ih]
theorem sameBits_refl {cs:List CK} {x:List Value} (h:TyL cs x) (m:Nat):Instr.sameBits (m+1) (.agg x.toArray) (.agg x.toArray)=true:=by
 simp only [Instr.sameBits,beq_self_eq_true,Bool.true_and]
 induction cs generalizing x with
 | nil=>
  have h:x=[]:=h
  subst h;simp
 | cons c cs ih=>
  obtain ⟨v,r,rfl,h1,h2⟩:=h
  have:=ih h2
  have hv:Instr.sameBits m v v=true:=by
   cases c
   case i=>obtain ⟨n,rfl⟩:=h1;simp [Instr.sameBits]
   case u=>obtain ⟨n,rfl⟩:=h1;simp [Instr.sameBits]
   case b=>obtain ⟨n,rfl⟩:=h1;simp [Instr.sameBits]
   case sl=>exact h1.elim
  simp only [List.toList_toArray,List.zip_cons_cons,List.all_cons,hv,Bool.true_and] at this ⊢
  exact this
def efind (es:List MapEntry) (q:List Int):Option Nat:=es.findIdx? fun e=>vnums e.key == q
def keyed (cs:List CK) (es:List MapEntry):Prop:=∀ e∈es,∃ l,e.key=.agg l.toArray∧TyL cs l
theorem run_findAsking_flat {kt:TypeId} {kd:TypeDesc} {cs:List CK} (hu:P.underlying kt=some kd) (hk:kd.isagg=true) (hf:flatC P 6 kt=some cs) {x:List Value} (hx:TyL cs x) (w:World) :
  ∀ (es:List MapEntry) (i:Nat),keyed cs es→(Instr.findAsking kt (.agg x.toArray) es i).run P w=.ok ((efind es (x.map vnum)).bind fun j=>(es[j]?).map fun e=>(i+j,e.val)) w
 | [],i,_=>by simp [Instr.findAsking,efind]
 | e :: es,i,h=>by
  obtain ⟨l,h1,h2⟩:=h e (by simp)
  have sh:∀ v:List Value,Shaped P kt (.agg v.toArray) v:=fun v=>by unfold Shaped;rw [hu];cases kd<;>simp [TypeDesc.isagg] at hk ⊢
  obtain ⟨r,hr,hiff⟩:=eq_flat 6 kt cs hf Op.maxDepth (by decide) w _ _ x l (sh x) (sh l) hx h2
  have ih:=run_findAsking_flat hu hk hf hx w es (i+1) fun e he=>h e (by simp [he])
  have hvn:(vnums e.key == x.map vnum)=r:=by
   rw [Bool.eq_iff_iff,beq_iff_eq,hiff,h1]
   have:=vnum_inj h2 hx
   simp only [vnums,Value.cells,List.toList_toArray,this,eq_comm]
  simp only [Instr.findAsking,h1,Op.equal,Sem.run_bind,hr,Result.andThen_ok]
  unfold efind
  rw [List.findIdx?_cons,hvn]
  cases r with
  | true=>simp
  | false=>
   rw [if_neg (by simp),ih]
   unfold efind
   cases hq:List.findIdx? (fun e=>vnums e.key == x.map vnum) es with
   | none=>simp
   | some j=>simp [Nat.add_assoc,Nat.add_comm 1 j]
theorem run_findKey_flat {kt:TypeId} {kd:TypeDesc} {cs:List CK} (hu:P.underlying kt=some kd) (hk:kd.isagg=true) (hf:flatC P 6 kt=some cs) {x:List Value} (hx:TyL cs x) (w:World) (es:List MapEntry) (h:keyed cs es) :
  (Instr.findKey kt (.agg x.toArray) es).run P w=.ok ((efind es (x.map vnum)).bind fun j=>(es[j]?).map fun e=>(j,e.val)) w:=by
 have hw:(match P.underlying kt with | some (.array _ _) | some (.struct _)=>true | _=>false)=true:=by rw [hu];cases kd<;>simp [TypeDesc.isagg] at hk ⊢
 rw [run_findKey_eq (P:=P) (w:=w) hw (.agg x.toArray) es,run_findAsking_flat hu hk hf hx w es 0 h]
 simp
theorem run_checkKey_flat {kt:TypeId} {kd:TypeDesc} {cs:List CK} (hu:P.underlying kt=some kd) (hk:kd.isagg=true) (hf:flatC P 6 kt=some cs) {x:List Value} (hx:TyL cs x) (em:Bool) (w:World):(Instr.checkKey em 10000 kt (.agg x.toArray)).run P w=.ok () w:=
 chk_flat em 6 kt cs hf 10000 (by decide) w _ x (by unfold Shaped;rw [hu];cases kd<;>simp [TypeDesc.isagg] at hk ⊢) hx
end
end Go.AL
namespace Go.AL
open Go Go.RowKit
section
variable {P:Program} {γ:Nat→Option AV}
theorem tk_map {t:TypeId} {k e:Nat} (h:(tiOf P t).k=.map k e):P.underlying t=some (.map k e):=by
 obtain ⟨d,i,h1,h2,h3⟩:=tk_other (P:=P) (t:=t) (by rw [h];simp)
 rw [h3] at h
 cases d<;>simp [kOf] at h
 case map=>obtain ⟨rfl,rfl⟩:=h;exact h1
 all_goals (split at h<;>simp at h)
theorem ti_zero {t:TypeId} {z:AV} (h:(tiOf P t).zero=some z):∃ i zv,P.info? t=some i∧i.zero=some zv∧z=ofV zv:=by
 unfold tiOf at h
 split at h
 ·rename_i d i h1 h2
  simp only [Option.map_eq_some_iff] at h
  obtain ⟨zv,h3,h4⟩:=h
  exact ⟨i,zv,h2,h3,h4.symm⟩
 ·cases h
theorem keyTy_spec {t:TypeId} (h:keyTy (tiOf P t)=true):∃ d,P.underlying t=some d∧d.isagg=true∧flatC P 6 t=some (tiOf P t).eq:=by
 simp only [keyTy,Bool.and_eq_true,Bool.not_eq_true'] at h
 obtain ⟨h1,h2⟩:=h
 obtain ⟨_,i,e1,e2,e3⟩:=tk_other (P:=P) (t:=t) (fun e=>by rw [e] at h2;cases h2)
 have he:(tiOf P t).eq=eqOf P t:=by rw [e3]
 have hd:∃ d,P.underlying t=some d∧d.isagg=true:=by
  cases hk:(tiOf P t).k with
  | struct fs=>obtain ⟨fd,h1,_⟩:=tk_struct hk;exact ⟨_,h1,rfl⟩
  | array n e sz=>obtain ⟨h1,_⟩:=tk_array hk;exact ⟨_,h1,rfl⟩
  | _=>rw [hk] at h2;simp at h2
 obtain ⟨d,hu,hd⟩:=hd
 refine ⟨d,hu,hd,?_⟩
 rw [he] at h1 ⊢
 unfold eqOf at h1 ⊢
 split at h1
 ·cases h1
 ·rename_i hg
  rw [if_neg hg]
  cases hf:flatC P 6 t with
  | none=>rw [hf] at h1;cases h1
  | some cs=>rfl
section
variable {S:Nat→Prop} {w:World} {ρ:Option (List Loc)}
theorem ckOk_spec {c:CK} {v:AV} {x:Value} (h:ckOk c v=true) (hr:R S w ρ v x):Ty1 c x∧vnum x=knum c v:=by
 cases c<;>cases v<;>simp [ckOk] at h<;>simp only [R] at hr<;>subst hr
 case i.lit=>exact ⟨⟨_,rfl⟩,rfl⟩
 case i.i=>exact ⟨⟨_,rfl⟩,rfl⟩
 case u.u=>exact ⟨⟨_,rfl⟩,rfl⟩
 case b.tt=>exact ⟨⟨_,rfl⟩,rfl⟩
 case b.ff=>exact ⟨⟨_,rfl⟩,rfl⟩
 case b.b=>exact ⟨⟨_,rfl⟩,rfl⟩
theorem ckOks_spec:∀ {cs:List CK} {vs:List AV} {xs:List Value},ckOks cs vs=true→Rs S w ρ vs xs→TyL cs xs∧xs.map vnum=knumL cs vs
 | [],[],xs,_,hr=>by
  have hr:xs=[]:=hr
  subst hr;exact ⟨rfl,rfl⟩
 | [],_ :: _,_,h,_=>by cases h
 | _ :: _,[],_,h,_=>by cases h
 | c :: cs,v :: vs,_,h,⟨x,xs,rfl,h1,h2⟩=>by
  simp only [ckOks,Bool.and_eq_true] at h
  obtain ⟨a1,a2⟩:=ckOk_spec h.1 h1
  obtain ⟨b1,b2⟩:=ckOks_spec h.2 h2
  exact ⟨⟨x,xs,rfl,a1,b1⟩,by simp [knumL,a2,b2]⟩
theorem ckv_ok {c:CK} {v:AV} (h:ckOk c v=true) (u:Unit→AV) (off:Nat):ckOk c (ckv c u off)=true:=by cases c<;>first | rfl | cases h
theorem ckvs_ok:∀ {cs:List CK} {vs:List AV},ckOks cs vs=true→∀ (u:Unit→AV) (off:Nat),ckOks cs (ckvs u off cs)=true
 | [],_,_,_,_=>rfl
 | c :: cs,[],h,_,_=>by cases h
 | c :: cs,v :: vs,h,u,off=>by
  simp only [ckOks,Bool.and_eq_true] at h
  simp only [ckvs,ckOks,ckv_ok h.1,ckvs_ok h.2,Bool.and_true]
theorem ckv_of_ok {c:CK} {v:AV} {x:Value} (h:ckOk c v=true) (hr:R S w ρ v x):R S w ρ (ckv c (fun _=>v) 0) x:=by
 cases c<;>cases v<;>simp [ckOk] at h<;>exact hr
theorem ckOk_closed {c:CK} {v:AV} (h:ckOk c v=true):v.closed=true:=by cases c<;>cases v<;>first | rfl | cases h
theorem ckOks_closed:∀ {cs:List CK} {vs:List AV},ckOks cs vs=true→AV.closed.closeds vs=true
 | [],[],_=>rfl
 | [],_ :: _,h=>by cases h
 | _ :: _,[],h=>by cases h
 | c :: cs,v :: vs,h=>by
  simp only [ckOks,Bool.and_eq_true] at h
  simp only [AV.closed.closeds,ckOk_closed h.1,ckOks_closed h.2,Bool.and_true]
end
theorem findIdx_congr {α β:Type}:∀ {l:List α} {l':List β} {p:α→Bool} {q:β→Bool},l.length=l'.length→(∀ (i:Nat) a b,l[i]?=some a→l'[i]?=some b→p a=q b)→l.findIdx? p=l'.findIdx? q
 | [],[],_,_,_,_=>rfl
 | [],_ :: _,_,_,h,_=>by cases h
 | _ :: _,[],_,_,h,_=>by cases h
 | a :: l,b :: l',p,q,h,hp=>by
  rw [List.findIdx?_cons,List.findIdx?_cons,hp 0 a b rfl rfl,findIdx_congr (l:=l) (l':=l') (by simpa using h) fun i x y h1 h2=>hp (i+1) x y (by simpa using h1) (by simpa using h2)]
theorem map_facts {cs:List CK} {S:Nat→Prop} {w:World} {ks:LV} {kv:List Value} {ent:List MapEntry} (hok:mok cs ks) (hns:∀ (u:Unit→AV) off,ckOks cs (ckvs u off cs)=true) (hR:RL S w ks kv) (he:ent.map (·.key)=kv) :
  keyed cs ent∧∀ q,efind ent q=mfind cs ks q:=by
 have hr:=(RL_iff _ _ _ _).1 hR
 have one:∀ (i:Nat) (e:MapEntry),ent[i]?=some e→∃ v,ks.l[i]?=some v∧∃ l,e.key=.agg l.toArray∧TyL cs l∧l.map vnum=knums cs v:=fun i e hi=>by
  have hkv:kv[i]?=some e.key:=by rw [←he];simp [hi]
  obtain ⟨v,h1,h2⟩:=Rs_get' hr hkv
  refine ⟨v,h1,?_⟩
  have hv:=hok v (List.mem_of_getElem? h1)
  generalize hu:(fun (_:Unit)=>v)=u at hv
  rw [hv] at h2
  obtain ⟨l,h3,h4⟩:=h2
  obtain ⟨t1,t2⟩:=ckOks_spec (hns u 0) h4
  exact ⟨l,h3,t1,by rw [t2,hv];rfl⟩
 refine ⟨fun e hm=>?_,fun q=>?_⟩
 ·obtain ⟨i,hi⟩:=List.getElem?_of_mem hm
  obtain ⟨_,_,l,h1,h2,_⟩:=one i e hi
  exact ⟨l,h1,h2⟩
 ·refine findIdx_congr ?_ fun i e v h1 h2=>?_
  ·have:=Rs_len hr
   rw [←he] at this
   simpa using this
  ·obtain ⟨v',h3,l,h4,h5,h6⟩:=one i e h1
   rw [h2] at h3;cases h3
   rw [h4,←h6];simp [vnums,Value.cells]
theorem mapOf_R {h:List Blk} {m:AV} {ks vs:Unit→LV} (hm:mapOf h m=some (ks,vs)) {B:Nat} {S:Nat→Prop} {ρ:List Loc} {w:World} {m':Value} (hh:HeapR B S γ ρ h w) (hr:R S w (some ρ) m m') :
  ∃ (K:Nat) (kv vv:List Value) (ent:Array MapEntry) (clock:Nat),m'=.map (some K)∧w.heap[K]?=some (Obj.map ent clock)∧RL S w (ks ()) kv∧RL S w (vs ()) vv∧ent.toList.map (·.key)=kv∧ent.toList.map (·.val)=vv:=by
 unfold mapOf at hm
 split at hm
 ·rename_i b
  split at hm
  ·rename_i ks' vs' hb
   cases hm
   obtain ⟨l,loc,K,hl,h2,h3,h4,rfl⟩:=hr
   cases hl
   obtain ⟨_,K',kv,vv,ent,clock,k1,k2,k3,k4,k5,k6⟩:=hh.blk b _ loc hb h2
   rw [h4] at k1;cases k1
   exact ⟨K,kv,vv,ent,clock,rfl,k2,k3,k4,k5,k6⟩
  ·cases hm
 ·cases hm
  obtain ⟨K,kv,vv,ent,clock,rfl,_,k2,k3,k4,k5,k6⟩:=hr
  exact ⟨K,kv,vv,ent,clock,rfl,k2,k3,k4,k5,k6⟩
 ·cases hm
theorem run_vlookup {t kt et:TypeId} {h:List Blk} {m x:AV} {ok:Bool} {k:AV→Prop} (ht:(tiOf P t).k=.map kt et) (hv:vlookup (tiOf P kt) (tiOf P et) h m x ok k) :
  ∃ v,k v∧∀ B S ρ w m' x',HeapR B S γ ρ h w→R S w (some ρ) m m'→R S w (some ρ) x x'→∃ v',(Instr.lookup t m' x' ok).run P w=.ok v' w∧R S w (some ρ) v v':=by
 have hmap:=tk_map ht
 unfold vlookup at hv
 cases hb:mapOf h m with
 | none=>rw [hb] at hv;exact hv.elim
 | some q=>
  obtain ⟨ks,vs⟩:=q
  rw [hb] at hv
  simp only at hv
  unfold vlookQ at hv
  focus
   split at hv
   ·rename_i xs
    split at hv
    ·rename_i hkt
     rw [Bool.and_eq_true] at hkt
     obtain ⟨kd,hu,hagg,hf⟩:=keyTy_spec hkt.1
     generalize hcs:(tiOf P kt).eq=cs at hv hkt hf
     split at hv
     ·rename_i z hz
      have key:∀ (v:AV),mok cs (ks ())→(∀ (B:Nat) (S:Nat→Prop) (ρ:List Loc) (w:World) (K:Nat) (kv vv:List Value) (ent:Array MapEntry) (clock:Nat),HeapR B S γ ρ h w→RL S w (vs ()) vv→w.heap[K]?=some (Obj.map ent clock)→ent.toList.map (·.key)=kv→ent.toList.map (·.val)=vv→RL S w (ks ()) kv→∀ zv,R S w (some ρ) z zv →
         (mfind cs (ks ()) (knums cs (.agg xs))=none→R S w (some ρ) v (if ok then .tuple #[zv,.bool false] else zv)) ∧
         ∀ (j:Nat) (e:MapEntry),mfind cs (ks ()) (knums cs (.agg xs))=some j→ent.toList[j]?=some e→R S w (some ρ) v (if ok then .tuple #[e.val,.bool true] else e.val)) →
        ∀ B S ρ w m' x',HeapR B S γ ρ h w→R S w (some ρ) m m'→R S w (some ρ) (.agg xs) x'→∃ v',(Instr.lookup t m' x' ok).run P w=.ok v' w∧R S w (some ρ) v v':=by
       intro v hmok hgo B S ρ w m' x' hh hm hx
       obtain ⟨K,kv,vv,ent,clock,rfl,k2,k3,k4,k5,k6⟩:=mapOf_R hb hh hm
       obtain ⟨xl,rfl,hxr⟩:=hx
       obtain ⟨tx,nx⟩:=ckOks_spec hkt.2 hxr
       obtain ⟨f1,f2⟩:=map_facts hmok (ckvs_ok hkt.2) k3 k5
       obtain ⟨i,zv,e2,hzv,rfl⟩:=ti_zero hz
       obtain ⟨g1,g2⟩:=hgo B S ρ w K kv vv ent clock hh k4 k2 k5 k6 k3 zv (R_ofV zv)
       have hck:=run_checkKey_flat hu hagg hf tx (em:=ent.isEmpty) (w:=w)
       have hgt:=MapKept.run_getObj_map (P:=P) k2
       have hfk:=run_findKey_flat hu hagg hf tx w ent.toList f1
       rw [f2,nx,show knumL cs xs=knums cs (.agg xs) from rfl] at hfk
       cases hq:mfind cs (ks ()) (knums cs (.agg xs)) with
       | none=>
        rw [hq] at hfk
        refine ⟨_,?_,g1 hq⟩
        cases ok<;>simp [Instr.lookup,run_underlying hmap,hgt,hck,hfk,run_zeroValue e2 hzv]
       | some j=>
        rw [hq] at hfk
        have hj:∃ e,ent.toList[j]?=some e:=by
         rw [←f2] at hq
         have:=List.findIdx?_eq_some_iff_getElem.1 hq
         obtain ⟨hlt,_⟩:=this
         exact ⟨_,List.getElem?_eq_getElem hlt⟩
        obtain ⟨e,he⟩:=hj
        simp only [Option.bind_some,he,Option.map_some] at hfk
        refine ⟨_,?_,g2 j e hq he⟩
        cases ok<;>simp [Instr.lookup,run_underlying hmap,hgt,hck,hfk]
      split at hv
      ·rename_i hcs0
       split at hv
       ·split at hv
        ·split at hv
         ·split at hv
          ·obtain ⟨hc,hv⟩:=hv
           have hunit:∀ (B:Nat) (S:Nat→Prop) (ρ:List Loc) (w:World) (K:Nat) (kv vv:List Value) (ent:Array MapEntry) (clock:Nat),HeapR B S γ ρ h w→RL S w (vs ()) vv→w.heap[K]?=some (Obj.map ent clock)→ent.toList.map (·.val)=vv→∀ (j:Nat) (e:MapEntry),ent.toList[j]?=some e→R S w (some ρ) (.agg []) e.val:=by
            intro B S ρ w K kv vv ent clock hh hvv _ he2 j e he
            have hvj:vv[j]?=some e.val:=by rw [←he2];simp [he]
            obtain ⟨c,h1,h2⟩:=Rs_get' ((RL_iff _ _ _ _).1 hvv) hvj
            rw [(hc ()).2 c (List.mem_of_getElem? h1)] at h2
            exact R_none h2
           cases ok with
           | true=>
            refine ⟨_,hv,key _ (hc ()).1 fun B S ρ w K kv vv ent clock hh hvv hw _ he2 _ zv hz=>⟨fun hq=>?_,fun j e hq he=>?_⟩⟩
            ·exact ⟨[zv,.bool false],rfl,_,_,rfl,hz,_,_,rfl,by rw [hq];rfl,rfl⟩
            ·exact ⟨[e.val,.bool true],rfl,_,_,rfl,hunit B S ρ w K kv vv ent clock hh hvv hw he2 j e he,_,_,rfl,by rw [hq];rfl,rfl⟩
           | false=>
            exact ⟨_,hv,key _ (hc ()).1 fun B S ρ w K kv vv ent clock hh hvv hw _ he2 _ zv hz=>⟨fun _=>hz,fun j e hq he=>hunit B S ρ w K kv vv ent clock hh hvv hw he2 j e he⟩⟩
          ·exact hv.elim
         ·exact hv.elim
        ·exact hv.elim
       ·exact hv.elim
      ·rename_i c cs' hcs0
       split at hv
       ·split at hv
        ·rename_i hz0
         rw [Bool.and_eq_true] at hz0
         obtain ⟨hc,hv⟩:=hv
         have hval:∀ (B:Nat) (S:Nat→Prop) (ρ:List Loc) (w:World) (K:Nat) (kv vv:List Value) (ent:Array MapEntry) (clock:Nat),HeapR B S γ ρ h w→RL S w (vs ()) vv→w.heap[K]?=some (Obj.map ent clock)→ent.toList.map (·.val)=vv→∀ (j:Nat) (e:MapEntry),mfind cs (ks ()) (knums cs (.agg xs))=some j→ent.toList[j]?=some e →
           R S w (some ρ) (ckv c (fun _=>mval (mfind cs (ks ()) (knums cs (.agg xs))) (vs ()) z) 0) e.val:=by
          intro B S ρ w K kv vv ent clock hh hvv _ he2 j e hq he
          have hvj:vv[j]?=some e.val:=by rw [←he2];simp [he]
          obtain ⟨v,h1,h2⟩:=Rs_get' ((RL_iff _ _ _ _).1 hvv) hvj
          have hv:=(hc ()).2 v (List.mem_of_getElem? h1)
          have hm:mval (mfind cs (ks ()) (knums cs (.agg xs))) (vs ()) z=v:=by rw [hq];simp [mval,h1]
          rw [hm,←hv]
          exact R_none h2
         have hzer:∀ (S:Nat→Prop) (ρ:List Loc) (w:World) (zv:Value),R S w (some ρ) z zv→mfind cs (ks ()) (knums cs (.agg xs))=none→R S w (some ρ) (ckv c (fun _=>mval (mfind cs (ks ()) (knums cs (.agg xs))) (vs ()) z) 0) zv:=by
          intro S ρ w zv hz hq
          have hm:mval (mfind cs (ks ()) (knums cs (.agg xs))) (vs ()) z=z:=by rw [hq];rfl
          rw [hm]
          exact ckv_of_ok hz0.1 hz
         cases ok with
         | true=>
          refine ⟨_,hv,key _ (hc ()).1 fun B S ρ w K kv vv ent clock hh hvv hw _ he2 _ zv hz=>⟨fun hq=>?_,fun j e hq he=>?_⟩⟩
          ·exact ⟨[zv,.bool false],rfl,_,_,rfl,hzer S ρ w zv hz hq,_,_,rfl,by rw [hq];rfl,rfl⟩
          ·exact ⟨[e.val,.bool true],rfl,_,_,rfl,hval B S ρ w K kv vv ent clock hh hvv hw he2 j e hq he,_,_,rfl,by rw [hq];rfl,rfl⟩
         | false=>
          exact ⟨_,hv,key _ (hc ()).1 fun B S ρ w K kv vv ent clock hh hvv hw _ he2 _ zv hz=>⟨fun hq=>hzer S ρ w zv hz hq,fun j e hq he=>hval B S ρ w K kv vv ent clock hh hvv hw he2 j e hq he⟩⟩
        ·exact hv.elim
       ·exact hv.elim
     ·exact hv.elim
    ·exact hv.elim
   ·exact hv.elim
theorem run_vlenM {t ty:TypeId} {h:List Blk} {x:AV} {k:AV→Prop} (hv:vlenM h (tiOf P t).k x k) :
  ∃ y,k y∧∀ B S ρ w x',HeapR B S γ ρ h w→R S w (some ρ) x x'→∃ y',(Builtin.len_ #[t] ty #[x']).run P w=.ok y' w∧R S w (some ρ) y y':=by
 unfold vlenM at hv
 split at hv
 ·rename_i kt et ht
  have hmap:=tk_map ht
  split at hv
  ·rename_i b
   split at hv
   ·rename_i ks vs hb
    refine ⟨_,hv,fun B S ρ w x' hh hm=>?_⟩
    obtain ⟨l,loc,K,hl,h2,h3,h4,rfl⟩:=hm
    cases hl
    obtain ⟨_,K',kv,vv,ent,clock,k1,k2,k3,k4,k5,k6⟩:=hh.blk b _ loc hb h2
    rw [h4] at k1;cases k1
    have hgt:=MapKept.run_getObj_map (P:=P) k2
    have hlen:(ks ()).l.length=ent.size:=by
     have:=Rs_len ((RL_iff _ _ _ _).1 k3)
     rw [←k5] at this
     simpa using this.symm
    refine ⟨goInt ent.size,by simp [Builtin.len_,run_underlying hmap,hgt],?_⟩
    simp only [R,hlen];rfl
   ·exact hv.elim
  ·exact hv.elim
 ·obtain ⟨y,h1,h2⟩:=run_vlen (ty:=ty) hv
  exact ⟨y,h1,fun B S ρ w x' _ hx=>h2 S w ρ x' hx⟩
theorem cI_R {S:Nat→Prop} {w:World} {ρ:Option (List Loc)} {x:AV} {f:Unit→Int} {v:Value} (h:cI x=some f) (hr:R S w ρ x v):v=.int .i64 (f ()):=by
 cases x<;>simp [cI] at h
 all_goals (subst h;exact hr)
theorem run_vminmax {mx:Bool} {x y:AV} {k:AV→Prop} (hv:vminmax mx x y k) :
  ∃ z,k z∧∀ S w ρ x' y',R S w (some ρ) x x'→R S w (some ρ) y y'→∃ z',(match mx with | false=>Builtin.min2 x' y' | true=>Builtin.max2 x' y').run P w=.ok z' w∧R S w (some ρ) z z':=by
 unfold vminmax at hv
 split at hv
 ·rename_i a ha
  split at hv
  ·rename_i b hb
   cases mx with
   | false=>
    refine ⟨_,hv,fun S w ρ x' y' hx hy=>?_⟩
    rw [cI_R ha hx,cI_R hb hy]
    exact ⟨_,rfl,rfl⟩
   | true=>
    refine ⟨_,hv,fun S w ρ x' y' hx hy=>?_⟩
    rw [cI_R ha hx,cI_R hb hy]
    exact ⟨_,rfl,rfl⟩
  ·exact hv.elim
 ·exact hv.elim
end
end Go.AL
