import Derived.Test.YtjcioienjlonmaaMg3
import Derived.Shelf.Spec.TrailingZeros
set_option linter.unusedVariables false
set_option linter.unusedSimpArgs false
namespace Go.AL
open Go Go.RowKit
section
variable {P:Program} {γ:Nat→Option AV}
structure Env (P:Program) (γ:Nat→Option AV) (C:EC) (CQ:List Blk→QC) (T:Nat→TI) (D:Array Oper→(St→Prop)→St→Prop) (W:Code→(Exit→St→Prop)→St→Prop):Prop where
 c:∀ {f args h Q},SCalls P γ f args h Q→C (.inl f) args h Q
 y:∀ {l args h Q},YCall P γ l args h Q→C (.inr l) args h Q
 q:∀ {h f args k},QCalls P γ h f args k→CQ h f args k
 d:∀ n {ops K A},drawB ops n=true→vhd T γ CQ ops (ops.toList.take n) A (fun A=>vops T γ C.noY ops.toList (ops.toList.drop n) A K)→D ops K A
 da:∀ n t {z ops K A},(drawB ops n && decide (n<ops.size))=true→allocAt (ops.toList.take n)=some t→(T t).k.isOther=false→(T t).zero=some z→z.flat=true →
  vhdA T γ CQ ops A.h.length (ops.toList.take n) ⟨A.n,A.s,A.h++[Blk.any]⟩ (fun A'=>vops T γ C.noY ops.toList (ops.toList.drop n) ⟨A'.n,A'.s,A.h++[Blk.box z]⟩ K)→D ops K A
 de:∀ n (M:List Nat) (gs:List (Option Nat)) {ops K A},drawB ops n=true→vhdE T γ CQ ops (M++rng A.h.length gs.length) (ops.toList.take n) [] (rng A.h.length gs.length) ⟨A.n,A.s,A.h++gs.map gblk⟩ (fun L A=>match sepB .any ops L with | true=>vops T γ C.noY ops.toList (ops.toList.drop n) A K | false=>False)→D ops K A
 dc:∀ n (M:List Nat) (gs:List (Option Nat)) (E:List Nat) {ops K A},drawB ops n=true→vhdC T γ CQ (CallEff C.noY (M++rng A.h.length gs.length)) ops (M++rng A.h.length gs.length) E (ops.toList.take n) [] ⟨A.n,A.s,A.h++gs.map gblk⟩ (fun L A=>match sepB .any ops L with | true=>vops T γ C.noY ops.toList (ops.toList.drop n) A K | false=>False)→D ops K A
 w:∀ {c Q A},AWP P γ (.loop c) Q A→W c Q A
 b:∀ {c Q A},vc T γ C D W c Q A→AWP P γ c Q A
 sb:∀ {ops K A A'},Step γ A A'→D ops K A'→D ops K A
 st:∀ {ops K A},(∀ J:St→Prop,(∀ {A' A''},Step γ A' A''→K A''→J A')→D ops J A)→D ops K A
def Dany (P:Program) (γ:Nat→Option AV) (T:Nat→TI) (ops:Array Oper) (K:St→Prop) (A:St):Prop:=∀ id,AWP P γ (.region id ops true) (thenE K fun _ _=>False) A
theorem Env.top {ty:Program→Nat→TI} (hτ:∀ t,ty P t=tiOf P t) (hm:P.follows .mixedOrders=true):Env P γ (SC P γ) (fun h f args k=>QCalls P γ h f args k) (ty P) (Dany P γ (ty P)) (fun c Q A=>AWP P γ (.loop c) Q A):=by
 have hb:∀ {c Q A},vc (ty P) γ (SC P γ) (Dany P γ (ty P)) (fun c Q A=>AWP P γ (.loop c) Q A) c Q A→AWP P γ c Q A:=fun {c Q A} this=>by
  refine vc_sound hτ (fun _ _ _ _ h=>h) (fun id ops K Q A hK hd=>?_) (fun _ _ _ h=>h) c _ A this
  exact (hd id).mono fun e A' he=>by
   cases e with
   | normal=>exact hK A' he
   | _=>exact he.elim
 exact ⟨fun h=>h,fun h=>h,fun h=>h,fun n {ops K A} h1 h2 id=>AWP.draw (Q:=thenE K fun _ _=>False) hτ SC.noY_pc (fun _ _ _ _ h=>h) hm n h1 h2,
  fun n t {z ops K A} h1 h2 h3 h4 h5 h6 id=>AWP.drawA (Q:=thenE K fun _ _=>False) hτ SC.noY_pc (fun _ _ _ _ h=>h) hm n h1 h2 h3 h4 h5 h6,
  fun n M gs {ops K A} h1 h2 id=>AWP.drawE (Q:=thenE K fun _ _=>False) hτ SC.noY_pc (fun _ _ _ _ h=>h) hm n M gs h1 h2,
  fun n M gs E {ops K A} h1 h2 id=>AWP.drawC (Q:=thenE K fun _ _=>False) hτ SC.noY_pc (fun _ _ _ _ h=>h) hm n M gs E h1 h2,
  fun h=>h,hb,fun hs hd id=>AWP.step hs (hd id),fun {ops K A} h id=>AWP.behind (J:=fun A'=>∃ A'',Step γ A' A''∧K A'') (fun _ h=>h) (h _ (fun h1 h2=>⟨_,h1,h2⟩) id)⟩
theorem AWP.go' {ty:Program→Nat→TI} (hτ:∀ t,ty P t=tiOf P t) (hm:P.follows .mixedOrders=true) {c:Code} {Q:(Nat→TI)→Exit→St→Prop} {A:St}
  (h:∀ (P':Program) (C:EC) (CQ:List Blk→QC) (D:Array Oper→(St→Prop)→St→Prop) (W:Code→(Exit→St→Prop)→St→Prop),Env P γ C CQ (ty P') D W→vc (ty P') γ C D W c (Q (ty P')) A):AWP P γ c (Q (ty P)) A:=
 (Env.top hτ hm).b (h P _ _ _ _ (Env.top hτ hm))
def headSt (c:Code) (A:St) (u:List (Nat × AV)) (h:List Blk):St:=⟨A.n,sets u (havoc (dsts c) A.s),h⟩
theorem Env.loop {C:EC} {CQ:List Blk→QC} {T:Nat→TI} {D:Array Oper→(St→Prop)→St→Prop} {W:Code→(Exit→St→Prop)→St→Prop} (E:Env P γ C CQ T D W) {c:Code} {Q:Exit→St→Prop} {A:St} {ι:Type} (ok:ι→Prop) (m:ι→Nat) (upd:ι→List (Nat × AV)) (hp:ι→List Blk) (j0:ι)
  (hA:A.h.length=(hp j0).length) (hn:∀ j,(hp j).length=(hp j0).length) (hok:ok j0) (h0:leSt (hp j0).length (headSt c A (upd j0) (hp j0)) A)
  (round:∀ j,ok j→∀ (I:St→Prop),(∀ {A'} j',ok j'→m j'<m j→leSt (hp j0).length (headSt c A (upd j') (hp j')) A'→I A')→vc T γ C D W c (thenE I Q) (headSt c A (upd j) (hp j))):W c Q A:=
 E.w (AWP.loopI (ι:=ι) (hp j0).length (fun j=>headSt c A (upd j) (hp j)) ok m j0 hA hn ⟨hok,h0⟩ fun j hj=>E.b (round j hj _ fun j' h1 h2 h3=>⟨j',h1,h2,h3⟩))
theorem Pure.go {ty:Program→Nat→TI} (hτ:∀ t,ty P t=tiOf P t) (hm:P.follows .mixedOrders=true) {f:FuncId} {fn:Func} {n:Nat} {rs:Array ResultVar}
  (hf:P.funcs[f]?=some fn) (hb:fn.body=some (fn.body.getD .skip)) (hn:fn.ntmps=n) (hr:fn.results=rs) (he:Enters P f) {args:List AV} {y:AV} (hsz:args.length≤n∧n<1000)
  (h:∀ (P':Program) (C:EC) (CQ:List Blk→QC) (D:Array Oper→(St→Prop)→St→Prop) (W:Code→(Exit→St→Prop)→St→Prop) (F:AV→List Blk→Prop),Env P γ C CQ (ty P') D W→(∀ {v h},fz h y v→F v h) →
   vc (ty P') γ C D W (fn.body.getD .skip) (bodyQ (ty P') rs.toList F) (start n args [])):Pure P γ false f args y:=
 Pure.of_body hτ hf hb hn (by rw [hr]) he hsz (AWP.go' (Q:=fun T=>bodyQ T rs.toList fun v h=>fz h y v) hτ hm fun P' C CQ D W E=>h P' C CQ D W _ E fun h=>h)
theorem SCalls.go {ty:Program→Nat→TI} (hτ:∀ t,ty P t=tiOf P t) (hm:P.follows .mixedOrders=true) {f:FuncId} {fn:Func} {n:Nat} {rs:Array ResultVar}
  (hf:P.funcs[f]?=some fn) (hb:fn.body=some (fn.body.getD .skip)) (hn:fn.ntmps=n) (hr:fn.results=rs) (he:Enters P f) {args:List AV} {hp:List Blk} {Q:AV→List Blk→Prop} (hsz:args.length≤n∧n<1000)
  (h:∀ (P':Program) (C:EC) (CQ:List Blk→QC) (D:Array Oper→(St→Prop)→St→Prop) (W:Code→(Exit→St→Prop)→St→Prop) (F:AV→List Blk→Prop),Env P γ C CQ (ty P') D W→(∀ {v h},Q v h→F v h) →
   vc (ty P') γ C D W (fn.body.getD .skip) (bodyQ (ty P') rs.toList F) (start n args hp)):SCalls P γ f args hp Q:=
 SCalls.of_body hτ hf hb hn (by rw [hr]) he hsz (AWP.go' (Q:=fun T=>bodyQ T rs.toList Q) hτ hm fun P' C CQ D W E=>h P' C CQ D W _ E fun h=>h)
end
end Go.AL
namespace Go.AL.Rl
open Go Go.AL Go.Proofs
theorem mo:Try.prog.follows .mixedOrders=true:=by kernel_rfl
@[simp] theorem nc (n:Nat):(NatCast.natCast n:Int)=(n:Int):=rfl
theorem nct (i:Nat):(NatCast.natCast i:Int).toNat=i:=rfl
theorem w64_of {n:Int} (h0:-9223372036854775808≤n) (h1:n<9223372036854775808):w64 n=n:=by
 show (if (true && decide (n % 18446744073709551616≥9223372036854775808))=true then n % 18446744073709551616-18446744073709551616 else n % 18446744073709551616)=n
 split<;>rename_i h<;>simp at h<;>omega
theorem at_u (x:Unit→BitVec 64):((AV.u x).at 0).asU=x ():=rfl
theorem at_i (x:Unit→Int):((AV.i x).at 0).asI=x ():=rfl
def us (rows:List (BitVec 64)):LV:=LV.of (rows.map fun x=>.u fun _=>x)
@[simp] theorem us_len (rows:List (BitVec 64)):(us rows).l.length=rows.length:=by simp [us]
theorem us_get (rows:List (BitVec 64)) (i:Nat) (h:i<rows.length):(us rows).l.getD i .any=.u fun _=>rows.getD i 0:=by
 simp [us,h]
def is (l:List Int):LV:=LV.of (l.map fun x=>.i fun _=>x)
@[simp] theorem is_len (l:List Int):(is l).l.length=l.length:=by simp [is]
theorem is_get (l:List Int) (i:Nat) (h:i<l.length):(is l).l.getD i .any=.i fun _=>l.getD i 0:=by
 simp [is,h]
section
variable (n:Int) (f:Unit→Int) (u:Unit→BitVec 64) (b:Unit→Bool) (k j:Nat) (es:Unit→LV) (l vs:List AV) (c:CK) (cs:List CK) (v:AV)
@[simp] theorem nrm1_lit:nrm1 .i (.lit n)=.i fun _=>n:=rfl
@[simp] theorem nrm1_i:nrm1 .i (.i f)=.i f:=rfl
@[simp] theorem nrm1_u:nrm1 .u (.u u)=.u u:=rfl
@[simp] theorem nrm1_tt:nrm1 .b .tt=.b fun _=>true:=rfl
@[simp] theorem nrm1_ff:nrm1 .b .ff=.b fun _=>false:=rfl
@[simp] theorem nrm1_b:nrm1 .b (.b b)=.b b:=rfl
@[simp] theorem nrm1_nils:nrm1 (.sl k) .nils=.vs k fun _=>.nil:=rfl
@[simp] theorem nrm1_vs:nrm1 (.sl k) (.vs j es)=.vs j es:=rfl
@[simp] theorem nrm_agg:AV.nrm cs (.agg l)=.agg (nrms cs l):=rfl
@[simp] theorem nrm_lit:AV.nrm [c] (.lit n)=nrm1 c (.lit n):=rfl
@[simp] theorem nrm_i:AV.nrm [c] (.i f)=nrm1 c (.i f):=rfl
@[simp] theorem nrm_u:AV.nrm [c] (.u u)=nrm1 c (.u u):=rfl
@[simp] theorem nrm_tt:AV.nrm [c] .tt=nrm1 c .tt:=rfl
@[simp] theorem nrm_ff:AV.nrm [c] .ff=nrm1 c .ff:=rfl
@[simp] theorem nrm_b:AV.nrm [c] (.b b)=nrm1 c (.b b):=rfl
@[simp] theorem nrm_nils:AV.nrm [c] .nils=nrm1 c .nils:=rfl
@[simp] theorem nrm_vs:AV.nrm [c] (.vs k es)=nrm1 c (.vs k es):=rfl
@[simp] theorem nrms_nil:nrms [] l=l:=rfl
@[simp] theorem nrms_cons:nrms (c :: cs) (v :: vs)=nrm1 c v :: nrms cs vs:=rfl
@[simp] theorem nrms_nil':nrms cs []=[]:=by cases cs<;>rfl
@[simp] theorem setAll_nil:setAll l []=l:=rfl
@[simp] theorem setAll_cons (i:Nat) (ps:List (Nat × AV)):setAll l ((i,v) :: ps)=setAll (l.set i v) ps:=rfl
end
theorem br_t {b:Bool} {p q:Prop} (h:b=true) (hp:p):(∀ _:Unit,b=true→p)∧(∀ _:Unit,b=false→q):=⟨fun _ _=>hp,fun _ h'=>by rw [h] at h';cases h'⟩
theorem br_f {b:Bool} {p q:Prop} (h:b=false) (hq:q):(∀ _:Unit,b=true→p)∧(∀ _:Unit,b=false→q):=⟨fun _ h'=>(by rw [h] at h';cases h'),fun _ _=>hq⟩
abbrev encRel (n:Int) (rows:List (BitVec 64)):AV:=.agg [.i fun _=>n,.vs 1 fun _=>us rows]
end Go.AL.Rl
namespace Go.AL
open Go Go.RowKit
mutual
def AV.sh (d:Nat):AV→AV
 | .ptr b off=>.ptr (d+b) off
 | .hp b g i off=>.hp (d+b) g i off
 | .sl b g k off len=>.sl (d+b) g k off len
 | .mp b=>.mp (d+b)
 | .v1 x=>.v1 (x.sh d)
 | .agg cs=>.agg (shs d cs)
 | .tup cs=>.tup (shs d cs)
 | .fn f a c=>.fn f (shs d a) (shs d c)
 | x=>x
def shs (d:Nat):List AV→List AV
 | []=>[]
 | x :: xs=>x.sh d :: shs d xs
end
def Blk.sh (d:Nat):Blk→Blk
 | .box v=>.box (v.sh d)
 | .obj ..=>.any
 | .nest g k ess hole=>.nest g k ess (match hole with | none=>none | some (i,x)=>some (i,x.sh d))
 | b=>b
section
variable {P:Program} {γ:Nat→Option AV}
theorem get_app {ρ ρ':List Loc} {b:Nat} {loc:Loc} (h:ρ'[b]?=some loc):(ρ++ρ')[ρ.length+b]?=some loc:=by
 rw [List.getElem?_append_right (by omega)];simpa using h
mutual
theorem R_sh {S:Nat→Prop} {w:World} {ρ ρ':List Loc} (x:AV) (v:Value) (h:R S w (some ρ') x v):R S w (some (ρ++ρ')) (x.sh ρ.length) v:=by
 match x with
 | .any | .undef | .tt | .ff | .b _ | .lit _ | .i _ | .u _ | .raw _ | .np | .nils | .vp .. | .vs .. | .vm ..=>exact h
 | .ptr b off=>
  obtain ⟨l,loc,K,hl,k1,k2⟩:=h
  cases hl
  exact ⟨_,loc,K,rfl,get_app k1,k2⟩
 | .hp b g i off=>
  obtain ⟨l,loc,ab,ao,hl,k1,k2⟩:=h
  cases hl
  exact ⟨_,loc,ab,ao,rfl,get_app k1,k2⟩
 | .sl b g k off len=>
  obtain ⟨l,loc,a,cap,hl,k1,k2⟩:=h
  cases hl
  exact ⟨_,loc,a,cap,rfl,get_app k1,k2⟩
 | .mp b=>
  obtain ⟨l,loc,K,hl,k1,k2⟩:=h
  cases hl
  exact ⟨_,loc,K,rfl,get_app k1,k2⟩
 | .v1 x=>
  obtain ⟨ab,ao,cap,xv,h1,h2,h3,h4,h5,h6⟩:=h
  exact ⟨ab,ao,cap,xv,h1,h2,h3,h4,h5,R_sh x xv h6⟩
 | .agg cs=>
  obtain ⟨vals,h1,h2⟩:=h
  exact ⟨vals,h1,Rs_sh cs vals h2⟩
 | .tup cs=>
  obtain ⟨vals,h1,h2⟩:=h
  exact ⟨vals,h1,Rs_sh cs vals h2⟩
 | .fn f a c=>
  obtain ⟨fv,cv,h1,h2,h3⟩:=h
  exact ⟨fv,cv,h1,Rs_sh a fv h2,Rs_sh c cv h3⟩
theorem Rs_sh {S:Nat→Prop} {w:World} {ρ ρ':List Loc} (xs:List AV) (vs:List Value) (h:Rs S w (some ρ') xs vs):Rs S w (some (ρ++ρ')) (shs ρ.length xs) vs:=by
 match xs with
 | []=>exact h
 | x :: xs=>
  obtain ⟨v,vs,rfl,h1,h2⟩:=h
  exact ⟨v,vs,rfl,R_sh x v h1,Rs_sh xs vs h2⟩
end
theorem one_sh (d:Nat) (x:AV) (h:x.one=true):(x.sh d).one=true:=by cases x<;>first | exact h | (simp [AV.one] at h) | rfl
theorem shs_all (d:Nat):∀ (xs:List AV),xs.all AV.one=true→(shs d xs).all AV.one=true
 | [],h=>h
 | x :: xs,h=>by
  simp only [List.all_cons,Bool.and_eq_true,shs] at h ⊢
  exact ⟨one_sh d x h.1,shs_all d xs h.2⟩
def Owns (P:Program) (γ:Nat→Option AV) (f:FuncId) (args:List AV) (v:AV) (h:List Blk):Prop:=
 SCalls P γ f args [] fun v' h'=>leV h.length v v'∧leH h.length h h'
theorem HeapR.le {n B:Nat} {S:Nat→Prop} {ρ:List Loc} {h h':List Blk} {w:World} (hh:HeapR B S γ ρ h w) (hl:leH n h' h) (hn:h'.length=n):HeapR B S γ (ρ.take n) h' w:=by
 have hs:Sim B S γ ρ ⟨0,.nil,h⟩ ⟨#[],[]⟩ w:=⟨rfl,rfl,Nat.zero_le _,fun k=>rfl,hh⟩
 exact (hs.le0 (A':=⟨0,.nil,h'⟩) ⟨rfl,trivial,hl⟩ hn).heap
theorem flat_sh (d:Nat) (x:AV) (h:x.flat=true):(x.sh d).flat=true:=by
 cases x with
 | agg cs=>exact shs_all d cs h
 | _=>exact h
theorem BlkR.sh {S:Nat→Prop} {w:World} {ρ ρ':List Loc} {loc:Loc} {blk:Blk} (h:BlkR S w ρ' loc blk):BlkR S w (ρ++ρ') loc (blk.sh ρ.length):=by
 cases blk with
 | any=>trivial
 | ghost=>exact h
 | box v=>
  obtain ⟨k1,K,ty,xv,k2,k3,k4,k5⟩:=h
  exact ⟨k1,K,ty,xv,k2,k3,R_sh _ _ k4,flat_sh _ _ k5⟩
 | run g k es=>exact h
 | map ks vs=>exact h
 | obj K o s tmps=>trivial
 | nest g k ess hole=>
  obtain ⟨h1,h2,h3,evs,h4,h5,h6,h7⟩:=h
  refine ⟨h1,h2,h3,evs,h4,h5,h6,fun p es v s g1 g2 g3=>?_⟩
  have:=h7 p es v s g1 g2 g3
  cases hole with
  | none=>exact this
  | some ix=>
   rcases this with ⟨a1,a2,a3,a4⟩ | a
   ·exact .inl ⟨a1,a2,R_sh _ _ a3,a4⟩
   ·exact .inr a
theorem SCalls.of_owns {f:FuncId} {args args':List AV} {v:AV} {h h0:List Blk} {Q:AV→List Blk→Prop} (ho:Owns P γ f args' v h0) (hs:leVs 0 args' args)
  (hk:Q (v.sh h.length) (h++h0.map (Blk.sh h.length))):SCalls P γ f args h Q:=by
 refine ⟨ho.1,fun B S ρ w vals hh hr=>?_⟩
 have hh0:HeapR w.heap.size S γ [] [] w:=⟨rfl,fun b blk loc h _=>by simp at h,fun b loc K h _=>by simp at h,fun b b' loc loc' K h _ _ _=>by simp at h,hh.sle,hh.gok,Nat.le_refl _,fun b loc h=>by simp at h⟩
 have hr0:Rs S w (some []) args' vals:=Rs_stable (m:=some (ρ.take 0)) (m':=some []) _ _ (leVs_stable _ _ hs) (Rs_le _ _ _ hs hr)
 refine (ho.2 w.heap.size S [] w vals hh0 hr0).mono fun e w' ⟨v',h',S',ρ',val,h1,⟨h2,h3⟩,h4,h5,h6⟩=>?_
 have hv:=R_le _ _ _ h2 h4
 have hb:=h5.le h3 rfl
 have hl:h.length=ρ.length:=hh.len.symm
 generalize hρ:ρ'.take h0.length=ρ2 at hv hb
 have hsz:=h6.fr.size
 refine ⟨v.sh h.length,h++h0.map (Blk.sh h.length),S',ρ++ρ2,val,h1,hk,hl ▸ R_sh _ _ hv,?_,?_⟩
 ·have old:∀ (b:Nat) (loc:Loc) (K:Nat),ρ[b]?=some loc→loc.has K→¬ S' K∧K<w.heap.size∧B≤K:=fun b loc K e1 e2=>by
   obtain ⟨m1,m2,m3⟩:=hh.own b loc K e1 e2
   refine ⟨fun hs'=>?_,m2,m3⟩
   rcases h6.grow K hs' with h7 | h7
   ·exact m1 h7
   ·omega
  have which:∀ (b:Nat) (loc:Loc),(ρ++ρ2)[b]?=some loc→(b<ρ.length∧ρ[b]?=some loc)∨(ρ.length≤b∧ρ2[b-ρ.length]?=some loc):=fun b loc e=>by
   by_cases hlt:b<ρ.length
   ·rw [List.getElem?_append_left hlt] at e;exact .inl ⟨hlt,e⟩
   ·rw [List.getElem?_append_right (by omega)] at e;exact .inr ⟨by omega,e⟩
  refine ⟨by simp [hl,hb.len],fun b blk loc e1 e2=>?_,fun b loc K e1 e2=>?_,fun b b' loc loc' K e1 e2 e3 e4=>?_,h5.sle,h5.gok,Nat.le_trans hh.bsz hsz,fun b loc e1=>?_⟩
  ·rcases which b loc e2 with ⟨hlt,e2⟩ | ⟨hge,e2⟩
   ·rw [List.getElem?_append_left (by omega)] at e1
    exact (hh.blk b blk loc e1 e2).mono h6.sub h6.same (LocsUp.append _ _) fun K hK=>h6.below K (old b loc K e2 hK).2.1
   ·rw [List.getElem?_append_right (by omega),List.getElem?_map] at e1
    cases hb0:h0[b-h.length]? with
    | none=>rw [hb0] at e1;cases e1
    | some b0=>
     rw [hb0] at e1
     obtain rfl:b0.sh h.length=blk:=Option.some.inj e1
     rw [hl] at hb0 ⊢
     exact (hb.blk _ b0 loc hb0 e2).sh
  ·rcases which b loc e1 with ⟨hlt,e1⟩ | ⟨hge,e1⟩
   ·obtain ⟨m1,m2,m3⟩:=old b loc K e1 e2
    exact ⟨m1,by omega,m3⟩
   ·obtain ⟨m1,m2,m3⟩:=hb.own _ loc K e1 e2
    exact ⟨m1,m2,Nat.le_trans hh.bsz m3⟩
  ·rcases which b loc e1 with ⟨hlt,e1⟩ | ⟨hge,e1⟩<;>rcases which b' loc' e2 with ⟨hlt',e2⟩ | ⟨hge',e2⟩
   ·exact hh.inj b b' loc loc' K e1 e2 e3 e4
   ·have m:=(old b loc K e1 e3).2.1;have m':=(hb.own _ loc' K e2 e4).2.2;omega
   ·have m:=(old b' loc' K e2 e4).2.1;have m':=(hb.own _ loc K e1 e3).2.2;omega
   ·have:=hb.inj _ _ loc loc' K e1 e2 e3 e4;omega
  ·rcases which b loc e1 with ⟨hlt,e1⟩ | ⟨hge,e1⟩
   ·exact hh.sok b loc e1
   ·exact hb.sok _ loc e1
 ·exact ⟨h6.fr,fun k hk=>h6.below k (Nat.lt_of_lt_of_le hk hh.bsz),h6.sub,h6.same,LocsUp.append _ _,fun k hk=>(h6.grow k hk).imp id fun h=>Nat.le_trans hh.bsz h⟩
theorem Owns.go {ty:Program→Nat→TI} (hτ:∀ t,ty P t=tiOf P t) (hm:P.follows .mixedOrders=true) {f:FuncId} {fn:Func} {n:Nat} {rs:Array ResultVar}
  (hf:P.funcs[f]?=some fn) (hb:fn.body=some (fn.body.getD .skip)) (hn:fn.ntmps=n) (hr:fn.results=rs) (he:Enters P f) {args:List AV} {v:AV} {h0:List Blk} (hsz:args.length≤n∧n<1000)
  (h:∀ (P':Program) (C:EC) (CQ:List Blk→QC) (D:Array Oper→(St→Prop)→St→Prop) (W:Code→(Exit→St→Prop)→St→Prop) (F:AV→List Blk→Prop),Env P γ C CQ (ty P') D W→(∀ {v' h'},leV h0.length v v'→leH h0.length h0 h'→F v' h') →
   vc (ty P') γ C D W (fn.body.getD .skip) (bodyQ (ty P') rs.toList F) (start n args [])):Owns P γ f args v h0:=
 SCalls.go hτ hm hf hb hn hr he hsz fun P' C CQ D W F E hF=>h P' C CQ D W F E fun h1 h2=>hF ⟨h1,h2⟩
end
end Go.AL
namespace Go.AL.Rl
open Go Go.AL Go.Proofs
variable {γ:Nat→Option AV}
set_option maxRecDepth 100000
def fullM (n:Int):BitVec 64:=1#64 <<< (BitVec.ofInt 64 n).toNat-1#64
theorem full_ok (n:Int):Pure Try.prog γ false 93 [.i fun _=>n] (.u fun _=>fullM n):=by
 refine Pure.go (ty:=ty) ty_eq mo Try.func93 rfl Try.ntmps93 Try.results93 Try.call93 (by simp) fun P C CQ D W F E hF=>?_
 cbv
 exact hF fun _=>rfl
def Fits (n:Int) (rows:List (BitVec 64)):Prop:=0≤n∧n≤64∧(rows.length:Int)=n∧∀ r∈rows,r &&& ~~~ fullM n=0#64
instance (n:Int) (rows:List (BitVec 64)):Decidable (Fits n rows):=
 decidable_of_iff (0≤n∧n≤64∧(rows.length:Int)=n∧rows.all (fun r=>r &&& ~~~ fullM n == 0#64)=true) (by simp [Fits])
def checkM (n:Int) (rows:List (BitVec 64)):Int:=if Fits n rows then 0 else 2
theorem check_ok (n:Int) (rows:List (BitVec 64)):Pure Try.prog γ false 65 [encRel n rows] (.i fun _=>checkM n rows):=by
 refine Pure.go (ty:=ty) ty_eq mo Try.func65 rfl Try.ntmps65 Try.results65 Try.call65 (by simp) fun P C CQ D W F E hF=>?_
 cbv
 refine ⟨fun _ h0=>?_,fun _ h0=>?_⟩
 ·cbv
  refine hF ?_
  simp at h0
  intro _
  simp [checkM,Fits];omega
 cbv
 refine ⟨fun _ h1=>?_,fun _ h1=>?_⟩
 ·cbv
  refine hF ?_
  simp at h1
  intro _
  simp [checkM,Fits];omega
 cbv
 refine ⟨fun _ h2=>?_,fun _ h2=>?_⟩
 ·cbv
  refine hF ?_
  simp at h2
  intro _
  simp [checkM,Fits];omega
 cbv
 simp at h0 h1 h2
 refine E.loop (ι:=Nat) (fun i=>i≤rows.length∧∀ k<i,rows.getD k 0 &&& ~~~ fullM n=0#64) (fun i=>rows.length-i) (fun i=>[(24,.i fun _=>(i:Int))]) (fun _=>[.box (encRel n rows)]) 0 rfl (fun _=>rfl) ⟨Nat.zero_le _,by simp⟩ ?_ fun i hi I hI=>?_
 ·cbv
  simp
 cbv
 refine ⟨fun _ h3=>?_,fun _ h3=>?_⟩
 ·cbv
  simp at h3
  refine ⟨fun _=>?_,?_⟩
  ·simp;omega
  refine ⟨fun _=>?_,?_⟩
  ·rw [nct,us_get rows i h3];rfl
  refine E.c (SCalls.of_le (full_ok n) ?_ ?_)
  ·cbv
   simp
  cbv
  refine ⟨fun _ h4=>?_,fun _ h4=>?_⟩
  ·cbv
   refine hF ?_
   intro _
   clear hI
   rw [nct,us_get rows i h3,at_u] at h4;simp at h4
   simp only [checkM]
   rw [if_neg fun h:Fits n rows=>h4 (by have:=h.2.2.2 _ (List.getElem_mem h3);simpa [h3] using this)]
  ·cbv
   refine hI (i+1) ?_ ?_ ?_
   ·clear hI
    rw [nct,us_get rows i h3,at_u] at h4;simp at h4
    refine ⟨h3,fun k hk=>?_⟩
    rcases Nat.lt_or_ge k i with h | h
    ·exact hi.2 k h
    ·obtain rfl:k=i:=by omega
     simpa [h3] using h4
   ·omega
   ·cbv
    clear hI
    simp
    simp only [nc] at h2
    exact w64_of (by omega) (by omega)
 ·cbv
  refine hF ?_
  intro _
  clear hI
  simp at h3
  simp only [checkM]
  rw [if_pos]
  refine ⟨h0,h1,h2,fun r hr=>?_⟩
  obtain ⟨k,hk,rfl⟩:=List.getElem_of_mem hr
  have:=hi.2 k (by omega)
  simpa [hk] using this
theorem none_in (n:Int) (h0:0≤n) (h1:n≤64):Owns Try.prog γ 81 [.i fun _=>n] (.agg [.i fun _=>n,.sl 1 0 1 (fun _=>0) fun _=>n.toNat]) [.any,.run 0 1 fun _=>us (List.replicate n.toNat 0#64)]:=by
 refine Owns.go (ty:=ty) ty_eq mo Try.func81 rfl Try.ntmps81 Try.results81 Try.call81 (by simp) fun P C CQ D W F E hF=>?_
 cbv
 refine br_f (by simp;omega) ?_
 cbv
 refine br_f (by simp;omega) ?_
 cbv
 refine ⟨fun _=>?_,?_⟩
 ·simp;omega
 cbv
 refine hF ?_ ?_
 ·cbv;simp
 ·cbv;simp [us]
end Go.AL.Rl
namespace Go.AL.Rl
open Go Go.AL Go.Proofs
variable {γ:Nat→Option AV}
set_option maxRecDepth 100000
theorem us_of (a:List (BitVec 64)):LV.of (us a).l=us a:=by simp [us]
theorem us_flat (rows:List (BitVec 64)):∀ v∈(us rows).l,v.flat=true:=by
 intro v hv
 simp only [us,LV.l_of,List.mem_map] at hv
 obtain ⟨x,_,rfl⟩:=hv
 rfl
theorem upd_u (x y:Unit→BitVec 64):(AV.u x).upd 0 (.u y)=.u y:=rfl
theorem us_set (rows:List (BitVec 64)) (i:Nat) (x:BitVec 64):(us rows).l.set i (.u fun _=>x)=(us (rows.set i x)).l:=by simp [us,List.map_set]
theorem copied_ok (n:Int) (rows:List (BitVec 64)) (hf:Fits n rows):Owns Try.prog γ 66 [encRel n rows] (.agg [.i fun _=>n,.sl 3 0 1 (fun _=>0) fun _=>n.toNat]) [.any,.any,.any,.run 0 1 fun _=>us rows]:=by
 refine Owns.go (ty:=ty) ty_eq mo Try.func66 rfl Try.ntmps66 Try.results66 Try.call66 (by simp) fun P C CQ D W F E hF=>?_
 cbv
 refine E.c (SCalls.of_owns (none_in n hf.1 hf.2.1) ?_ ?_)
 ·cbv;simp
 cbv
 obtain ⟨h0,h1,h2,h3⟩:=hf
 refine ⟨fun _=>⟨rfl,by simp,us_flat rows⟩,?_⟩
 cbv
 refine hF ?_ ?_
 ·cbv;simp
 ·cbv
  simp
  have e:n.toNat=rows.length:=by simp only [nc] at h2;omega
  rw [e]
  simp [us,List.take_of_length_le]
def wStep (by_:Nat) (rows:List (BitVec 64)) (i:Nat):List (BitVec 64):=
 if (rows.getD i 0 >>> by_) &&& 1#64=0#64 then rows else rows.set i (rows.getD i 0 ||| rows.getD by_ 0)
def wIn (by_ k:Nat) (rows:List (BitVec 64)):List (BitVec 64):=(List.range k).foldl (wStep by_) rows
def wOut (m:Nat) (rows:List (BitVec 64)):List (BitVec 64):=(List.range m).foldl (fun r b=>wIn b rows.length r) rows
theorem wStep_len (b:Nat) (rows:List (BitVec 64)) (i:Nat):(wStep b rows i).length=rows.length:=by unfold wStep;split<;>simp
theorem wIn_succ (b k:Nat) (rows:List (BitVec 64)):wIn b (k+1) rows=wStep b (wIn b k rows) k:=by simp [wIn,List.range_succ]
theorem wIn_len (b:Nat) (rows:List (BitVec 64)):∀ k,(wIn b k rows).length=rows.length
 | 0=>rfl
 | k+1=>by rw [wIn_succ,wStep_len,wIn_len b rows k]
theorem wOut_succ (m:Nat) (rows:List (BitVec 64)):wOut (m+1) rows=wIn m rows.length (wOut m rows):=by simp [wOut,List.range_succ]
theorem wOut_len (rows:List (BitVec 64)):∀ m,(wOut m rows).length=rows.length
 | 0=>rfl
 | m+1=>by rw [wOut_succ,wIn_len,wOut_len rows m]
def plusM (n:Int) (rows:List (BitVec 64)):List (BitVec 64):=wOut n.toNat rows
theorem plus_ok (n:Int) (rows:List (BitVec 64)) (hf:Fits n rows):Pure Try.prog γ false 46 [encRel n rows] (encRel n (plusM n rows)):=by
 refine Pure.go (ty:=ty) ty_eq mo Try.func46 rfl Try.ntmps46 Try.results46 Try.call46 (by simp) fun P C CQ D W F E hF=>?_
 cbv
 refine E.c (SCalls.of_le (check_ok n rows) ?_ ?_)
 ·cbv;simp
 cbv
 refine br_f (by simp [checkM,hf]) ?_
 cbv
 refine E.c (SCalls.of_owns (copied_ok n rows hf) ?_ ?_)
 ·cbv;simp
 cbv
 obtain ⟨h0,h1,h2,h3⟩:=hf
 obtain ⟨len,hlen⟩:∃ len:Nat,n=len:=⟨n.toNat,by omega⟩
 subst hlen
 simp only [Int.toNat_natCast,nc,nct]
 have h2:rows.length=len:=by first | omega | (simp only [nc] at h2;omega)
 have hl:len≤64:=by omega
 refine E.loop (ι:=Nat) (fun m=>m≤len) (fun m=>len-m) (fun m=>[(15,.i fun _=>(m:Int))])
  (fun m=>[.box (encRel len rows),.box (.agg [.lit 0,.nils]),.any,.any,.any,.run 0 1 fun _=>us (wOut m rows),.box (.agg [.i fun _=>len,.sl 5 0 1 (fun _=>0) fun _=>len])])
  0 rfl (fun _=>rfl) (Nat.zero_le _) ?_ fun m hm I hI=>?_
 ·cbv
  simp [wOut]
 cbv
 refine ⟨fun _ h4=>?_,fun _ h4=>?_⟩
 ·cbv
  have hmm:m<len:=by simpa using h4
  refine E.loop (ι:=Nat) (fun k=>k≤len) (fun k=>len-k) (fun k=>[(21,.i fun _=>(k:Int))])
   (fun k=>[.box (encRel len rows),.box (.agg [.lit 0,.nils]),.any,.any,.any,.run 0 1 fun _=>us (wIn m k (wOut m rows)),.box (.agg [.i fun _=>len,.sl 5 0 1 (fun _=>0) fun _=>len])])
   0 rfl (fun _=>rfl) (Nat.zero_le _) ?_ fun k hk I2 hI2=>?_
  ·cbv
   simp [wIn]
  cbv
  refine ⟨fun _ h5=>?_,fun _ h5=>?_⟩
  ·cbv
   have hkk:k<len:=by simpa using h5
   have hlw:(wIn m k (wOut m rows)).length=len:=by rw [wIn_len,wOut_len,h2]
   have hku:k<(wIn m k (wOut m rows)).length:=by omega
   have hmu:m<(wIn m k (wOut m rows)).length:=by omega
   have hsh:(BitVec.ofInt 64 (m:Int)).toNat=m:=by simp;omega
   refine ⟨fun _=>by simp;omega,fun _=>⟨rfl,by simp;omega⟩,fun _=>by rw [Nat.zero_add,nct,us_get _ k hku];rfl,fun _ h6=>?_,fun _ h6=>?_⟩
   ·cbv
    refine E.d 12 (by kernel_rfl) ?_
    cbv
    refine ⟨fun _=>by simp;omega,fun _=>⟨rfl,by simp;omega⟩,fun _=>by rw [Nat.zero_add,nct,us_get _ k hku];rfl,fun _=>by simp;omega,fun _=>⟨rfl,by simp;omega⟩,fun _=>by rw [Nat.zero_add,nct,us_get _ m hmu];rfl,fun _=>by simp;omega,
     fun _=>⟨rfl,by simp;omega,by rw [Nat.zero_add,nct,us_get _ k hku];rfl⟩,?_⟩
    refine hI2 (k+1) (by omega) (by omega) ?_
    cbv
    clear hI hI2
    simp only [Nat.zero_add,nct,us_get _ k hku,at_u,nc,hsh] at h6
    simp only [Nat.zero_add,nct,us_get _ k hku,us_get _ m hmu,at_u,upd_u,us_set,us_of,nc]
    simp only [implies_true,and_true,true_and,forall_const]
    refine ⟨w64_of (by omega) (by omega),?_⟩
    rw [wIn_succ,wStep,if_neg (by simpa using h6)]
   ·cbv
    refine hI2 (k+1) (by omega) (by omega) ?_
    cbv
    clear hI hI2
    simp
    simp only [Nat.zero_add,nct,us_get _ k hku,at_u,nc,hsh] at h6
    refine ⟨w64_of (by omega) (by omega),?_⟩
    rw [wIn_succ,wStep,if_pos (by simpa using h6)]
  ·cbv
   refine hI (m+1) (by omega) (by omega) ?_
   cbv
   clear hI hI2
   have:k=len:=by simp at h5;omega
   simp
   refine ⟨w64_of (by omega) (by omega),?_⟩
   rw [wOut_succ,this,h2]
 ·cbv
  refine hF ?_
  cbv
  clear hI
  have hml:m=len:=by simp at h4;omega
  have hlw:(wOut m rows).length=len:=by rw [wOut_len,h2]
  simp [plusM]
  rw [hml] at hlw ⊢
  exact ⟨by omega,by rw [List.take_of_length_le (by simp;omega)]⟩
end Go.AL.Rl
namespace Go.Proofs
end Go.Proofs
namespace Go.AL.Rl
open Go Go.AL Go.Proofs
variable {γ:Nat→Option AV}
set_option maxRecDepth 100000
end Go.AL.Rl
namespace Go.AL.Rl
open Go Go.AL Go.Proofs
variable {γ:Nat→Option AV}
set_option maxRecDepth 100000
theorem fullM_bit (k:Nat) (hk:k≤64) (p:Nat) (hp:p<64):(fullM k).getLsbD p=decide (p<k):=by
 have e:(fullM k).toNat=2 ^ k-1:=by
  unfold fullM
  rw [show (BitVec.ofInt 64 (k:Int)).toNat=k from by simp;omega]
  rcases Nat.lt_or_ge k 64 with h | h
  ·have h2:(1#64 <<< k).toNat=2 ^ k:=by
    rw [BitVec.toNat_shiftLeft,Nat.shiftLeft_eq]
    simp
    exact Nat.pow_lt_pow_right (by omega) h
   have hpos:0<2 ^ k:=Nat.pow_pos (by omega)
   rw [BitVec.toNat_sub_of_le (by rw [BitVec.le_def,h2];exact hpos),h2]
   rfl
  ·obtain rfl:k=64:=by omega
   rfl
 show (fullM k).toNat.testBit p=_
 rw [e,Nat.testBit_two_pow_sub_one]
theorem fits_bit {n:Int} {rows:List (BitVec 64)} (hf:Fits n rows) {f:BitVec 64} {p:Nat} (hp:p<64) (h:(f &&& fullM n).getLsbD p=true):p<rows.length:=by
 obtain ⟨h0,h1,h2,_⟩:=hf
 obtain ⟨k,rfl⟩:∃ k:Nat,n=k:=⟨n.toNat,by omega⟩
 rw [BitVec.getLsbD_and,fullM_bit k (by omega) p hp] at h
 simp at h
 omega
theorem fits_row {n:Int} {rows:List (BitVec 64)} (hf:Fits n rows) {r:BitVec 64} (hr:r∈rows) {p:Nat} (hp:p<64) (h:r.getLsbD p=true):p<rows.length:=by
 refine fits_bit hf (f:=r) hp ?_
 have:=congrArg (fun x:BitVec 64=>x.getLsbD p) (hf.2.2.2 r hr)
 rw [BitVec.getLsbD_and,h,Bool.true_and,BitVec.getLsbD_eq_getElem hp]
 simpa [h,hp] using this
end Go.AL.Rl
namespace Go.AL.Rl
open Go Go.AL Go.Proofs
variable {γ:Nat→Option AV}
set_option maxRecDepth 100000
theorem plusM_len (n:Int) (rows:List (BitVec 64)):(plusM n rows).length=rows.length:=wOut_len _ _
end Go.AL.Rl
namespace Go.AL.Rl
open Go Go.AL Go.Proofs
variable {γ:Nat→Option AV}
set_option maxRecDepth 100000
end Go.AL.Rl
namespace Go.AL.Rl
def bit (rows:List (BitVec 64)) (i j:Nat):Bool:=(rows.getD i 0).getLsbD j
theorem and_one_zero (x:BitVec 64) (k:Nat):((x >>> k) &&& 1#64=0#64)↔x.getLsbD k=false:=by
 constructor
 ·intro h
  have:=congrArg (fun y:BitVec 64=>y.getLsbD 0) h
  simpa [BitVec.getLsbD_and,BitVec.getLsbD_ushiftRight] using this
 ·intro h
  apply BitVec.eq_of_getLsbD_eq
  intro i hi
  rw [BitVec.getLsbD_and,BitVec.getLsbD_ushiftRight,BitVec.getLsbD_one,BitVec.getLsbD_zero]
  by_cases h0:i=0
  ·subst h0;simp [h]
  ·simp [h0]
theorem getD_set_self (l:List (BitVec 64)) (i:Nat) (x:BitVec 64) (h:i<l.length):(l.set i x).getD i 0=x:=by simp [h]
theorem getD_set_ne' (l:List (BitVec 64)) (i k:Nat) (x:BitVec 64) (h:i≠k):(l.set i x).getD k 0=l.getD k 0:=by simp [List.getElem?_set_ne h]
theorem wStep_get (b:Nat) (rows:List (BitVec 64)) (i:Nat) (hi:i<rows.length) (k:Nat) :
  (wStep b rows i).getD k 0=if k=i∧bit rows i b=true then rows.getD i 0 ||| rows.getD b 0 else rows.getD k 0:=by
 unfold wStep
 by_cases hb:bit rows i b=true
 ·rw [if_neg (by rw [and_one_zero];unfold bit at hb;simp only [hb];simp)]
  by_cases hk:k=i
  ·subst hk;rw [getD_set_self _ _ _ hi,if_pos ⟨rfl,hb⟩]
  ·rw [getD_set_ne' _ _ _ _ (Ne.symm hk),if_neg (fun h=>hk h.1)]
 ·rw [if_pos (by rw [and_one_zero];unfold bit at hb;simpa using hb),if_neg (fun h=>hb h.2)]
theorem wIn_get (b:Nat) (rows:List (BitVec 64)):∀ (k:Nat),k≤rows.length→∀ i,(wIn b k rows).getD i 0=if i<k∧bit rows i b=true then rows.getD i 0 ||| rows.getD b 0 else rows.getD i 0
 | 0,_,i=>by simp [wIn]
 | k+1,hk,i=>by
  have ih:=wIn_get b rows k (by omega)
  have hrowb:(wIn b k rows).getD b 0=rows.getD b 0:=by
   rw [ih b];split
   ·simp
   ·rfl
  have hrowk:(wIn b k rows).getD k 0=rows.getD k 0:=by
   rw [ih k,if_neg (by omega)]
  rw [wIn_succ,wStep_get b _ k (by rw [wIn_len];omega) i,hrowb,hrowk]
  have hbk:bit (wIn b k rows) k b=bit rows k b:=by unfold bit;rw [hrowk]
  rw [hbk]
  by_cases hik:i=k
  ·subst hik
   by_cases hb:bit rows i b=true
   ·rw [if_pos ⟨rfl,hb⟩,if_pos ⟨by omega,hb⟩]
   ·rw [if_neg (fun h=>hb h.2),if_neg (fun h=>hb h.2),hrowk]
  ·rw [if_neg (fun h=>hik h.1),ih i]
   by_cases hlt:i<k
   ·by_cases hb:bit rows i b=true
    ·rw [if_pos ⟨hlt,hb⟩,if_pos ⟨by omega,hb⟩]
    ·rw [if_neg (fun h=>hb h.2),if_neg (fun h=>hb h.2)]
   ·rw [if_neg (fun h=>hlt h.1),if_neg (fun h=>by omega)]
theorem bit_out {rows:List (BitVec 64)} {i:Nat} (h:rows.length≤i) (j:Nat):bit rows i j=false:=by
 unfold bit
 rw [List.getD_eq_getElem?_getD,List.getElem?_eq_none h]
 simp
theorem bit_wIn (b:Nat) (rows:List (BitVec 64)) (i j:Nat):bit (wIn b rows.length rows) i j=(bit rows i j || (bit rows i b && bit rows b j)):=by
 by_cases hi:i<rows.length
 ·unfold bit
  rw [wIn_get b rows _ (Nat.le_refl _) i]
  by_cases hb:bit rows i b=true
  ·rw [if_pos ⟨hi,hb⟩]
   unfold bit at hb
   rw [BitVec.getLsbD_or,hb,Bool.true_and]
  ·rw [if_neg (fun h=>hb h.2)]
   unfold bit at hb
   simp only [Bool.not_eq_true] at hb
   rw [hb];simp
 ·rw [bit_out (by rw [wIn_len];omega),bit_out (by omega),bit_out (i:=i) (by omega)];rfl
def Way (rows:List (BitVec 64)) (m i j:Nat):Prop:=bit (wOut m rows) i j=true
theorem way_succ (rows:List (BitVec 64)) (m i j:Nat):Way rows (m+1) i j↔Way rows m i j∨(Way rows m i m∧Way rows m m j):=by
 unfold Way
 rw [wOut_succ,show rows.length=(wOut m rows).length from (wOut_len _ _).symm,bit_wIn]
 simp
theorem way_trans (rows:List (BitVec 64)):∀ (m i k j:Nat),k<m→Way rows m i k→Way rows m k j→Way rows m i j
 | 0,i,k,j,h,_,_=>by omega
 | m+1,i,k,j,h,h1,h2=>by
  rw [way_succ] at h1 h2 ⊢
  by_cases hk:k=m
  ·subst hk
   exact .inr ⟨h1.elim id (·.1),h2.elim id (·.2)⟩
  ·have hk':k<m:=by omega
   have tr:=fun i j=>way_trans rows m i k j hk'
   rcases h1 with h1 | ⟨h1,h1'⟩<;>rcases h2 with h2 | ⟨h2,h2'⟩
   ·exact .inl (tr i j h1 h2)
   ·exact .inr ⟨tr i m h1 h2,h2'⟩
   ·exact .inr ⟨h1,tr m j h1' h2⟩
   ·exact .inr ⟨h1,h2'⟩
theorem way_mono (rows:List (BitVec 64)) (m i j:Nat):∀ d,Way rows m i j→Way rows (m+d) i j
 | 0,h=>h
 | d+1,h=>by rw [←Nat.add_assoc,way_succ];exact .inl (way_mono rows m i j d h)
theorem way_edge (rows:List (BitVec 64)) (m i j:Nat) (h:bit rows i j=true):Way rows m i j:=by
 have:=way_mono rows 0 i j m h
 simpa using this
theorem way_least (rows:List (BitVec 64)) (T:Nat→Nat→Prop) (h1:∀ i j,bit rows i j=true→T i j) (h2:∀ i k j,T i k→T k j→T i j):∀ (m i j:Nat),Way rows m i j→T i j
 | 0,i,j,h=>h1 i j h
 | m+1,i,j,h=>by
  rw [way_succ] at h
  rcases h with h | ⟨h,h'⟩
  ·exact way_least rows T h1 h2 m i j h
  ·exact h2 i m j (way_least rows T h1 h2 m i m h) (way_least rows T h1 h2 m m j h')
end Go.AL.Rl
namespace Go.AL.Rl
open Go Go.AL Go.Proofs
variable {γ:Nat→Option AV}
set_option maxRecDepth 100000
def ps (l:List (Int × Int)):LV:=LV.of (l.map fun x=>.agg [.i fun _=>x.1,.i fun _=>x.2])
@[simp] theorem ps_len (l:List (Int × Int)):(ps l).l.length=l.length:=by simp [ps]
theorem ps_get (l:List (Int × Int)) (i:Nat) (h:i<l.length):(ps l).l.getD i .any=.agg [.i fun _=>(l.getD i (0,0)).1,.i fun _=>(l.getD i (0,0)).2]:=by
 simp [ps,h]
theorem at_p0 (x y:Unit→Int):((AV.agg [.i x,.i y]).at 0).asI=x ():=rfl
theorem at_p1 (x y:Unit→Int):((AV.agg [.i x,.i y]).at 1).asI=y ():=rfl
def ofStep (n:Int) (acc:List (BitVec 64)) (p:Int × Int):List (BitVec 64):=
 if 0≤p.1∧p.1<n∧0≤p.2∧p.2<n then acc.set p.1.toNat (acc.getD p.1.toNat 0 ||| 1#64 <<< p.2.toNat) else acc
def ofTo (n:Int) (l:List (Int × Int)) (k:Nat):List (BitVec 64):=(l.take k).foldl (ofStep n) (List.replicate n.toNat 0#64)
theorem ofTo_succ (n:Int) (l:List (Int × Int)) (k:Nat) (h:k<l.length):ofTo n l (k+1)=ofStep n (ofTo n l k) (l.getD k (0,0)):=by
 rw [ofTo,List.take_succ_eq_append_getElem h,List.foldl_append];simp only [List.foldl_cons,List.foldl_nil,List.getD_eq_getElem?_getD,List.getElem?_eq_getElem h,Option.getD_some];rfl
theorem ofStep_len (n:Int) (acc:List (BitVec 64)) (p:Int × Int):(ofStep n acc p).length=acc.length:=by unfold ofStep;split<;>simp
theorem ofTo_len (n:Int) (l:List (Int × Int)) (k:Nat):(ofTo n l k).length=n.toNat:=by
 unfold ofTo
 generalize l.take k=q
 have:∀ (q:List (Int × Int)) (a:List (BitVec 64)),(q.foldl (ofStep n) a).length=a.length:=by
  intro q
  induction q with
  | nil=>intro a;rfl
  | cons x q ih=>intro a;rw [List.foldl_cons,ih,ofStep_len]
 rw [this];simp
theorem of_in (n:Int) (l:List (Int × Int)) (h0:0≤n) (h1:n≤64) (hl:l.length<4611686018427387904):Pure Try.prog γ false 78 [.i fun _=>n,.vs 2 fun _=>ps l] (encRel n (ofTo n l l.length)):=by
 refine Pure.go (ty:=ty) ty_eq mo Try.func78 rfl Try.ntmps78 Try.results78 Try.call78 (by simp) fun P C CQ D W F E hF=>?_
 cbv
 refine E.c (SCalls.of_owns (none_in n h0 h1) ?_ ?_)
 ·cbv;simp
 cbv
 obtain ⟨len,hlen⟩:∃ len:Nat,n=len:=⟨n.toNat,by omega⟩
 subst hlen
 simp only [Int.toNat_natCast,nc]
 have hln:len≤64:=by omega
 refine E.loop (ι:=Nat) (fun m=>m≤l.length) (fun m=>l.length-m) (fun m=>[(12,.i fun _=>(m:Int))])
  (fun m=>[.box (.agg [.lit 0,.nils]),.any,.run 0 1 fun _=>us (ofTo len l m),.box (.agg [.i fun _=>len,.sl 2 0 1 (fun _=>0) fun _=>len])])
  0 rfl (fun _=>rfl) (Nat.zero_le _) ?_ fun m hm I hI=>?_
 ·cbv
  simp [ofTo]
 cbv
 refine ⟨fun _ h4=>?_,fun _ h4=>?_⟩
 ·cbv
  have hmr:m<l.length:=by simp at h4;omega
  refine ⟨fun _=>by simp;omega,fun _=>by rw [nct,ps_get _ m hmr];rfl,?_⟩
  cbv
  have hs:=ofTo_succ len l m hmr
  simp only [nct,ps_get _ m hmr,at_p0,at_p1]
  generalize l.getD m (0,0)=p at hs ⊢
  have hlw:(ofTo len l m).length=len:=by rw [ofTo_len];simp
  have no:¬ (0≤p.1∧p.1<len∧0≤p.2∧p.2<len)→ofTo len l (m+1)=ofTo len l m:=fun h=>by rw [hs,ofStep,if_neg h]
  refine ⟨fun _ h5=>?_,fun _ h5=>?_⟩
  ·cbv
   simp at h5
   refine ⟨fun _ h6=>?_,fun _ h6=>?_⟩
   ·cbv
    simp at h6
    refine ⟨fun _ h7=>?_,fun _ h7=>?_⟩
    ·cbv
     simp at h7
     refine ⟨fun _ h8=>?_,fun _ h8=>?_⟩
     ·cbv
      simp at h8
      refine E.d 12 (by kernel_rfl) ?_
      cbv
      simp only [nc] at hlw h5 h6 h7 h8
      have hp:p.1.toNat<(ofTo len l m).length:=by omega
      have hsh:(BitVec.ofInt 64 p.2).toNat=p.2.toNat:=by simp;omega
      refine ⟨fun _=>by simp only [nc];omega,fun _=>⟨rfl,by simp;omega⟩,fun _=>by rw [Nat.zero_add,us_get _ _ hp];rfl,fun _=>by simp only [nc];omega,fun _=>⟨rfl,by simp;omega,by rw [Nat.zero_add,us_get _ _ hp];rfl⟩,?_⟩
      refine hI (m+1) (by omega) (by omega) ?_
      cbv
      clear hI
      simp only [nc] at hs h6 h8
      simp only [Nat.zero_add,nc,us_get _ _ hp,at_u,upd_u,us_set,us_of,hsh]
      simp only [implies_true,and_true,true_and,forall_const]
      refine ⟨w64_of (by omega) (by omega),?_⟩
      rw [hs,ofStep,if_pos ⟨h5,h6,h7,h8⟩]
      rfl
     ·cbv
      refine hI (m+1) (by omega) (by omega) ?_
      cbv
      clear hI
      simp at h8
      simp
      refine ⟨w64_of (by omega) (by omega),?_⟩
      simp only [nc] at no
      rw [no (fun h=>absurd h.2.2.2 (by simpa using h8))]
    ·cbv
     refine hI (m+1) (by omega) (by omega) ?_
     cbv
     clear hI
     simp at h7
     simp
     exact ⟨w64_of (by omega) (by omega),by rw [no (by omega)]⟩
   ·cbv
    refine hI (m+1) (by omega) (by omega) ?_
    cbv
    clear hI
    simp at h6
    simp
    refine ⟨w64_of (by omega) (by omega),?_⟩
    simp only [nc] at no
    rw [no (fun h=>absurd h.2.1 (by simpa using h6))]
  ·cbv
   refine hI (m+1) (by omega) (by omega) ?_
   cbv
   clear hI
   simp at h5
   simp
   exact ⟨w64_of (by omega) (by omega),by rw [no (by omega)]⟩
 ·cbv
  refine hF ?_
  cbv
  clear hI
  have hml:m=l.length:=by simp at h4;omega
  have hlw:(ofTo len l l.length).length=len:=by rw [ofTo_len];simp
  simp [hml]
  exact ⟨by omega,by rw [List.take_of_length_le (by simp;omega)]⟩
end Go.AL.Rl
namespace Go.AL.Rl
open Go Go.AL Go.Proofs
variable {γ:Nat→Option AV}
set_option maxRecDepth 100000
def cand (ahead:List (BitVec 64)) (left:BitVec 64) (i:Nat):Prop:=left.getLsbD i=true∧ahead.getD i 0 &&& left=0#64
inductive Sorts (ahead:List (BitVec 64)) (len:Nat):BitVec 64→List Int→List Int→Prop
 | done (acc:List Int):Sorts ahead len 0#64 acc acc
 | step (left:BitVec 64) (acc res:List Int) (i:Nat) (hi:i<len) (hc:cand ahead left i) (hn:∀ k<i,¬ cand ahead left k) (h:Sorts ahead len (left &&& ~~~ (1#64 <<< i)) (acc++[(i:Int)]) res):Sorts ahead len left acc res
end Go.AL.Rl
namespace Go.AL.Rl
open Go Go.AL Go.Proofs
variable {γ:Nat→Option AV}
set_option maxRecDepth 100000
end Go.AL.Rl
namespace Go.AL.Rl
theorem fits_bits {n:Int} {rows:List (BitVec 64)} (hf:Fits n rows) {i j:Nat} (h:bit rows i j=true):i<rows.length∧j<rows.length:=by
 have hi:i<rows.length:=by
  rcases Nat.lt_or_ge i rows.length with h' | h'
  ·exact h'
  ·rw [bit_out h'] at h;cases h
 have hj:j<64:=by
  rcases Nat.lt_or_ge j 64 with h' | h'
  ·exact h'
  ·unfold bit at h;rw [BitVec.getLsbD_of_ge _ _ h'] at h;cases h
 refine ⟨hi,fits_row hf (r:=rows.getD i 0) ?_ hj h⟩
 simp [hi]
theorem fits_mk {n:Nat} {rows:List (BitVec 64)} (hn:n≤64) (hl:rows.length=n) (h:∀ i j,bit rows i j=true→j<n):Fits n rows:=by
 refine ⟨by omega,by omega,by omega,fun r hr=>?_⟩
 obtain ⟨i,hi,rfl⟩:=List.getElem_of_mem hr
 apply BitVec.eq_of_getLsbD_eq
 intro j hj
 rw [BitVec.getLsbD_and,BitVec.getLsbD_not,fullM_bit n hn j hj,BitVec.getLsbD_zero]
 have:=h i j
 unfold bit at this
 rw [List.getD_eq_getElem?_getD,List.getElem?_eq_getElem hi,Option.getD_some] at this
 cases hb:rows[i].getLsbD j with
 | false=>rfl
 | true=>simp [hj,this hb]
theorem fits_n {n:Int} {rows:List (BitVec 64)} (hf:Fits n rows):n=rows.length∧rows.length≤64:=by
 have:=hf.1;have:=hf.2.1;have:=hf.2.2.1;omega
theorem fits_plus {n:Int} {rows:List (BitVec 64)} (hf:Fits n rows):Fits n (plusM n rows):=by
 obtain ⟨h1,h2⟩:=fits_n hf
 rw [h1]
 refine fits_mk h2 (plusM_len _ _) fun i j h=>?_
 exact way_least rows (fun _ j=>j<rows.length) (fun i j h=>(fits_bits hf h).2) (fun _ _ _ _ h=>h) _ i j h
theorem plus_edge {n:Int} {rows:List (BitVec 64)} {i j:Nat} (h:bit rows i j=true):bit (plusM n rows) i j=true:=way_edge rows _ i j h
theorem plus_trans {n:Int} {rows:List (BitVec 64)} (hf:Fits n rows) {i k j:Nat} (h1:bit (plusM n rows) i k=true) (h2:bit (plusM n rows) k j=true):bit (plusM n rows) i j=true:=by
 refine way_trans rows n.toNat i k j ?_ h1 h2
 have h3:=(fits_bits (fits_plus hf) h1).2
 have h4:=fits_n hf
 rw [plusM_len] at h3
 omega
theorem plus_least {n:Int} {rows:List (BitVec 64)} (T:Nat→Nat→Prop) (h1:∀ i j,bit rows i j=true→T i j) (h2:∀ i k j,T i k→T k j→T i j) {i j:Nat} (h:bit (plusM n rows) i j=true):T i j:=
 way_least rows T h1 h2 _ i j h
section
variable {n:Int} {rows:List (BitVec 64)} (hf:Fits n rows) (f:BitVec 64)
include hf
end
end Go.AL.Rl
namespace Go.AL.Rl
open Go Go.AL Go.Proofs
variable {γ:Nat→Option AV}
set_option maxRecDepth 100000
end Go.AL.Rl
namespace Go.AL.Rl
open Go Go.AL Go.Proofs
variable {γ:Nat→Option AV}
set_option maxRecDepth 100000
def tab (n:Nat) (f:Nat→BitVec 64):List (BitVec 64):=(List.range n).map f
@[simp] theorem tab_len (n:Nat) (f:Nat→BitVec 64):(tab n f).length=n:=by simp [tab]
theorem tab_get (n:Nat) (f:Nat→BitVec 64) (i:Nat) (h:i<n):(tab n f).getD i 0=f i:=by simp [tab,h]
theorem tab_congr {n:Nat} {f g:Nat→BitVec 64} (h:∀ i<n,f i=g i):tab n f=tab n g:=List.map_congr_left fun i hi=>h i (by simpa using hi)
theorem tab_set {n:Nat} {f g:Nat→BitVec 64} (i:Nat) (x:BitVec 64) (_:i<n) (hx:g i=x) (h:∀ j<n,j≠i→g j=f j):(tab n f).set i x=tab n g:=by
 apply List.ext_getElem (by simp)
 intro j h1 h2
 have hj:j<n:=by simpa using h2
 rw [List.getElem_set]
 split
 ·rename_i e;subst e;simp [tab,hx]
 ·rename_i e;simp [tab];exact (h j hj (Ne.symm e)).symm
theorem tab_zero (n:Nat):tab n (fun _=>0#64)=List.replicate n 0#64:=by
 apply List.ext_getElem (by simp)
 intro j h1 h2
 simp [tab]
theorem fits_len {n:Int} {rows:List (BitVec 64)} (hf:Fits n rows):∃ k:Nat,n=k∧rows.length=k∧k≤64:=by
 have:=hf.1;have:=hf.2.1;have:=hf.2.2.1
 exact ⟨rows.length,by omega,rfl,by omega⟩
abbrev RelV:=Int × List (BitVec 64)
def rls (l:List RelV):LV:=LV.of (l.map fun r=>encRel r.1 r.2)
@[simp] theorem rls_len (l:List RelV):(rls l).l.length=l.length:=by simp [rls]
theorem rls_get (l:List RelV) (i:Nat) (h:i<l.length):(rls l).l.getD i .any=encRel (l.getD i (0,[])).1 (l.getD i (0,[])).2:=by
 simp [rls,h]
theorem at_r0 (x:Unit→Int) (y:AV):((AV.agg [.i x,y]).at 0).asI=x ():=rfl
theorem at_r1 (x:AV) (k:Nat) (y:Unit→LV):((AV.agg [x,.vs k y]).at 1).asL=y ():=rfl
def Alike (l:List RelV):Prop:=0<l.length∧∀ i<l.length,Fits (l.getD i (0,[])).1 (l.getD i (0,[])).2∧(l.getD i (0,[])).1=(l.getD 0 (0,[])).1
instance (l:List RelV):Decidable (Alike l):=by unfold Alike;infer_instance
theorem alike_ok (l:List RelV) (hl:l.length<4611686018427387904):Pure Try.prog γ false 80 [.vs 2 fun _=>rls l] (.b fun _=>decide (Alike l)):=by
 refine Pure.go (ty:=ty) ty_eq mo Try.func80 rfl Try.ntmps80 Try.results80 Try.call80 (by simp) fun P C CQ D W F E hF=>?_
 cbv
 refine E.loop (ι:=Nat) (fun m=>m≤l.length∧∀ k<m,Fits (l.getD k (0,[])).1 (l.getD k (0,[])).2∧(l.getD k (0,[])).1=(l.getD 0 (0,[])).1) (fun m=>l.length-m) (fun m=>[(7,.i fun _=>(m:Int))])
  (fun m=>[]) 0 rfl (fun _=>rfl) ⟨Nat.zero_le _,by simp⟩ ?_ fun m hm I hI=>?_
 ·cbv
  simp
 cbv
 refine ⟨fun _ h4=>?_,fun _ h4=>?_⟩
 ·cbv
  have hmm:m<l.length:=by simpa using h4
  refine ⟨fun _=>by simp;omega,fun _=>by rw [nct,rls_get _ m hmm];rfl,?_⟩
  cbv
  simp only [nct,rls_get _ m hmm,at_r0,at_r1]
  generalize hv:l.getD m (0,[])=v
  obtain ⟨vn,vr⟩:=v
  simp only
  refine E.d 12 (by kernel_rfl) ?_
  cbv
  refine E.q (QCalls.of_le (check_ok vn vr) ?_ ?_)
  ·cbv;all_goals simp
  cbv
  have hfit:l.getD m (0,[])=(vn,vr):=hv
  refine ⟨fun _ h5=>?_,fun _ h5=>?_⟩
  ·cbv
   refine hF ?_
   cbv
   intro _
   clear hI
   have:¬ Alike l:=fun h=>by
    have:=(h.2 m hmm).1
    rw [hfit] at this
    simp [checkM,this] at h5
   simp [this]
  cbv
  have hfv:Fits vn vr:=by
   by_cases h:Fits vn vr
   ·exact h
   ·simp [checkM,h] at h5
  refine ⟨fun _=>by simp;omega,fun _=>by rw [show (0:Int).toNat=0 from rfl,rls_get _ 0 (by omega)];rfl,?_⟩
  simp only [show (0:Int).toNat=0 from rfl,rls_get _ 0 (show 0<l.length by omega),at_r0]
  refine ⟨fun _ h6=>?_,fun _ h6=>?_⟩
  ·cbv
   refine hF ?_
   cbv
   intro _
   clear hI
   have:¬ Alike l:=fun h=>by
    have:=(h.2 m hmm).2
    rw [hfit] at this
    simp at h6
    exact h6 (by simpa using this)
   simp [this]
  ·cbv
   refine hI (m+1) ⟨hmm,fun k hk=>?_⟩ (by omega) ?_
   ·rcases Nat.lt_or_ge k m with h | h
    ·exact hm.2 k h
    ·obtain rfl:k=m:=by omega
     rw [hfit]
     exact ⟨hfv,by simpa using h6⟩
   ·cbv
    clear hI
    simp
    exact w64_of (by omega) (by omega)
 ·cbv
  refine hF ?_
  cbv
  clear hI
  intro _
  have:m=l.length:=by simp at h4;omega
  subst this
  simp
  exact ⟨fun h=>⟨h,hm.2⟩,fun h=>h.1⟩
end Go.AL.Rl
namespace Go.AL.Rl
open Go Go.AL Go.Proofs
variable {γ:Nat→Option AV}
set_option maxRecDepth 100000
theorem getD_mem {α:Type} {l:List α} {i:Nat} {d:α} (h:i<l.length):l.getD i d∈l:=by simp [h]
def orV (l:List RelV) (j:Nat):BitVec 64:=l.foldl (fun a r=>a ||| r.2.getD j 0) 0#64
theorem orV_succ (l:List RelV) (k j:Nat) (h:k<l.length):orV (l.take (k+1)) j=orV (l.take k) j ||| (l.getD k (0,[])).2.getD j 0:=by
 rw [orV,List.take_succ_eq_append_getElem h,List.foldl_append]
 simp only [List.foldl_cons,List.foldl_nil,List.getD_eq_getElem?_getD,List.getElem?_eq_getElem h,Option.getD_some];rfl
def orM (n:Nat) (l:List RelV):List (BitVec 64):=tab n (orV l)
theorem or_yes (l:List RelV) (hl:l.length<4611686018427387904) (h:Alike l) (n:Nat) (hn:(l.getD 0 (0,[])).1=n):Pure Try.prog γ false 61 [.vs 2 fun _=>rls l] (encRel n (orM n l)):=by
 have h0:=(h.2 0 h.1).1
 have hl0:=h.1
 obtain ⟨k0,hk1,hk2,hk3⟩:=fits_len h0
 rw [hn] at hk1
 obtain rfl:n=k0:=by omega
 have hall:∀ k<l.length,(l.getD k (0,[])).2.length=n:=fun k hk=>by
  have:=h.2 k hk
  obtain ⟨j,e1,e2,_⟩:=fits_len this.1
  have e3:=this.2
  rw [hn,e1] at e3
  omega
 refine Pure.go (ty:=ty) ty_eq mo Try.func61 rfl Try.ntmps61 Try.results61 Try.call61 (by simp) fun P C CQ D W F E hF=>?_
 cbv
 refine E.c (SCalls.of_le (alike_ok l hl) ?_ ?_)
 ·(cbv;(try simp only [nc] at *);first|done|(simp;done)|(simp (disch:=(first|omega|(simp only [lnS];omega))) only [rdT,rdS,anT];first|done|omega|(refine ⟨?_,?_⟩<;>omega))|(simp (disch:=(first|omega|(simp only [lnS];omega))) [rdT,rdS];done))
 cbv
 refine br_f (by simp [h]) ?_
 cbv
 refine ⟨fun _=>by simp;omega,fun _=>by rw [show (0:Int).toNat=0 from rfl,rls_get _ 0 hl0];rfl,?_⟩
 cbv
 simp only [show (0:Int).toNat=0 from rfl,rls_get _ 0 hl0,at_r0,hn]
 refine E.c (SCalls.of_owns (none_in (n:Int) (by omega) (by omega)) ?_ ?_)
 ·cbv;all_goals simp
 cbv
 simp only [Int.toNat_natCast,nc]
 refine E.loop (ι:=Nat) (fun k=>k≤l.length) (fun k=>l.length-k) (fun k=>[(19,.i fun _=>(k:Int))])
  (fun k=>[.box (.agg [.lit 0,.nils]),.any,.run 0 1 fun _=>us (tab n (orV (l.take k))),.box (.agg [.i fun _=>(n:Int),.sl 2 0 1 (fun _=>0) fun _=>n])])
  0 rfl (fun _=>rfl) (Nat.zero_le _) ?_ fun k hk I hI=>?_
 ·cbv
  simp [←tab_zero,show orV []=fun _=>0#64 from rfl]
 cbv
 refine ⟨fun _ h4=>?_,fun _ h4=>?_⟩
 ·cbv
  have hkk:k<l.length:=by simpa using h4
  refine ⟨fun _=>by simp;omega,fun _=>by rw [nct,rls_get _ k hkk];rfl,?_⟩
  cbv
  have hsu:=orV_succ l k
  have hrl:=hall k hkk
  simp only [nct,rls_get _ k hkk,at_r0,at_r1]
  generalize l.getD k (0,[])=r at hsu hrl
  obtain ⟨rn,rr⟩:=r
  simp only at hsu hrl ⊢
  refine E.loop (ι:=Nat) (fun i=>i≤n) (fun i=>n-i) (fun i=>[(26,.i fun _=>(i:Int))])
   (fun i=>[.box (.agg [.lit 0,.nils]),.any,.run 0 1 fun _=>us (tab n fun j=>if j<i then orV (l.take (k+1)) j else orV (l.take k) j),.box (.agg [.i fun _=>(n:Int),.sl 2 0 1 (fun _=>0) fun _=>n]),.box (encRel rn rr)])
   0 rfl (fun _=>rfl) (Nat.zero_le _) ?_ fun i hi I2 hI2=>?_
  ·cbv
   simp
  cbv
  refine ⟨fun _ h5=>?_,fun _ h5=>?_⟩
  ·cbv
   have hii:i<n:=by simp at h5;omega
   refine ⟨fun _=>by simp;omega,fun _=>by rw [nct,us_get _ i (by omega)];rfl,fun _=>by simp;omega,fun _=>⟨rfl,by simp;omega⟩,fun _=>by rw [Nat.zero_add,nct,us_get _ i (by simpa using hii)];rfl,fun _=>by simp;omega,
    fun _=>⟨rfl,by simp;omega,by rw [Nat.zero_add,nct,us_get _ i (by simpa using hii)];rfl⟩,?_⟩
   refine hI2 (i+1) (by omega) (by omega) ?_
   cbv
   clear hI hI2
   simp only [Nat.zero_add,nct,us_get _ i (show i<(tab n _).length by simpa using hii),us_get rr i (by omega),at_u,upd_u,us_set,us_of,nc,tab_get n _ i hii]
   simp only [implies_true,and_true,true_and,forall_const]
   refine ⟨w64_of (by omega) (by omega),congrArg us (tab_set i _ hii (by simp [hsu i hkk]) fun j _ hj=>?_)⟩
   by_cases h:j<i<;>simp [h]<;>omega
  ·cbv
   refine hI (k+1) (by omega) (by omega) ?_
   cbv
   clear hI hI2
   have:i=n:=by simp at h5;omega
   subst this
   simp
   exact ⟨w64_of (by omega) (by omega),congrArg us (tab_congr fun j hj=>by simp [hj])⟩
 ·cbv
  refine hF ?_
  cbv
  clear hI
  have hml:k=l.length:=by simp at h4;omega
  subst hml
  simp [orM]
  rw [List.take_of_length_le (by simp)]
theorem alike2 (n m:Int) (a b:List (BitVec 64)):Alike [(n,a),(m,b)]↔Fits n a∧Fits m b∧m=n:=by
 constructor
 ·intro h
  have h0:=h.2 0 (by simp)
  have h1:=h.2 1 (by simp)
  simp at h0 h1
  exact ⟨h0,h1.1,h1.2⟩
 ·rintro ⟨h1,h2,rfl⟩
  refine ⟨by simp,fun i hi=>?_⟩
  have:i=0∨i=1:=by simp at hi;omega
  rcases this with rfl | rfl
  ·simp [h1]
  ·simp [h2]
end Go.AL.Rl
namespace Go.AL.Rl
open Go Go.AL Go.Proofs
variable {γ:Nat→Option AV}
set_option maxRecDepth 100000
end Go.AL.Rl
namespace Go.AL.Rl
open Go Go.AL Go.Proofs
variable {γ:Nat→Option AV}
set_option maxRecDepth 100000
@[simp] theorem ps_nil:ps []=.nil:=rfl
end Go.AL.Rl
namespace Go.AL.Rl
theorem bit_tab (n:Nat) (f:Nat→BitVec 64) (i j:Nat):bit (tab n f) i j=(decide (i<n) && (f i).getLsbD j):=by
 unfold bit
 by_cases h:i<n
 ·rw [tab_get n f i h];simp [h]
 ·rw [List.getD_eq_getElem?_getD,List.getElem?_eq_none (by simp;omega)];simp [h]
theorem or_bit (l:List RelV) (i j:Nat):(orV l i).getLsbD j=true↔∃ r∈l,bit r.2 i j=true:=by
 have key:∀ (l:List RelV) (a:BitVec 64),(l.foldl (fun a r=>a ||| r.2.getD i 0) a).getLsbD j=true↔a.getLsbD j=true∨∃ r∈l,bit r.2 i j=true:=by
  intro l
  induction l with
  | nil=>simp
  | cons r l ih=>
   intro a
   rw [List.foldl_cons,ih,BitVec.getLsbD_or,Bool.or_eq_true]
   simp only [List.mem_cons,exists_eq_or_imp]
   unfold bit
   rw [or_assoc]
 unfold orV
 rw [key]
 simp
theorem bit_or {n:Nat} {l:List RelV} (i j:Nat):bit (orM n l) i j=true↔i<n∧∃ r∈l,bit r.2 i j=true:=by
 unfold orM
 rw [bit_tab,Bool.and_eq_true,or_bit]
 simp
theorem fits_or {n:Nat} (hn:n≤64) {l:List RelV} (h:∀ r∈l,Fits n r.2):Fits n (orM n l):=by
 refine fits_mk hn (by simp [orM]) fun i j hb=>?_
 obtain ⟨_,r,hr,h2⟩:=(bit_or i j).1 hb
 have h3:=(fits_bits (h r hr) h2).2
 obtain ⟨k,e1,e2,_⟩:=fits_len (h r hr)
 omega
end Go.AL.Rl
namespace Go.AL.Rl
instance (ahead:List (BitVec 64)) (left:BitVec 64):DecidablePred (cand ahead left):=fun _=>by unfold cand;infer_instance
section
variable {n:Int} {rows:List (BitVec 64)} (hf:Fits n rows)
include hf
end
end Go.AL.Rl
namespace Go.AL.Rl
open Go Go.AL Go.Proofs
variable {γ:Nat→Option AV}
set_option maxRecDepth 100000
theorem alike3 (n:Int) (a b c:List (BitVec 64)) (ha:Fits n a) (hb:Fits n b) (hc:Fits n c):Alike [(n,a),(n,b),(n,c)]:=by
 refine ⟨by simp,fun i hi=>?_⟩
 have:i=0∨i=1∨i=2:=by simp at hi;omega
 rcases this with rfl | rfl | rfl
 ·simp [ha]
 ·simp [hb]
 ·simp [hc]
theorem or2 (n:Nat) (a b:List (BitVec 64)) (ha:Fits n a) (hb:Fits n b):Pure Try.prog γ false 61 [.vs 2 fun _=>rls [((n:Int),a),((n:Int),b)]] (encRel n (orM n [((n:Int),a),((n:Int),b)])):=
 or_yes _ (by simp) ((alike2 _ _ _ _).2 ⟨ha,hb,rfl⟩) n rfl
theorem fits_or2 {n:Nat} {a b:List (BitVec 64)} (ha:Fits n a) (hb:Fits n b):Fits n (orM n [((n:Int),a),((n:Int),b)]):=
 fits_or (by obtain ⟨k,e,_,h⟩:=fits_len ha;omega) (by simp [ha,hb])
end Go.AL.Rl
namespace Go.AL
open Go Go.RowKit
def citems:Code→List Code
 | .seq x y=>citems x++citems y
 | c=>[c]
def vcl (τ:Nat→TI) (γ:Nat→Option AV) (C:EC) (D:Array Oper→(St→Prop)→St→Prop) (W:Code→(Exit→St→Prop)→St→Prop):List Code→(Exit→St→Prop)→St→Prop
 | [],Q,A=>Q .normal A
 | c :: r,Q,A=>vc τ γ C D W c (thenE (fun A=>vcl τ γ C D W r Q A) Q) A
def told (n:Nat) (u:List (Nat × AV)) (h:List Blk):St:=⟨n,sets u (havoc (List.range n) .nil),h⟩
section
variable {P:Program} {γ:Nat→Option AV}
def AWPr (P:Program) (γ:Nat→Option AV) (n:Nat) (c:Code) (Q:Exit→St→Prop) (A:St):Prop:=
 ∀ B S ρ a w,Sim B S γ ρ A a w→c.wp P (fun e a' w'=>∃ S' ρ' A',Q e A'∧Sim B S' γ ρ' A' a' w'∧Ext B S (ρ.take n) w S' ρ' w') a w
theorem Ext.takeL {B n:Nat} {S S':Nat→Prop} {ρ ρ':List Loc} {w w':World} (h:Ext B S ρ w S' ρ' w'):Ext B S (ρ.take n) w S' ρ' w':=
 ⟨h.fr,h.below,h.sub,h.same,fun b loc hb=>h.locs b loc (get_take hb).2,h.grow⟩
theorem Ext.transR {B n:Nat} {S S' S'':Nat→Prop} {ρ ρ' ρ'':List Loc} {w w' w'':World} (h:Ext B S (ρ.take n) w S' ρ' w') (k:Ext B S' (ρ'.take n) w' S'' ρ'' w''):Ext B S (ρ.take n) w S'' ρ'' w'':=by
 have h':Ext B S (ρ.take n) w S' (ρ'.take n) w':=⟨h.fr,h.below,h.sub,h.same,fun b loc hb=>by
  obtain ⟨l',h1,h2⟩:=h.locs b loc hb
  exact ⟨l',take_get h1 (get_take hb).1,h2⟩,h.grow⟩
 exact h'.trans k
theorem AWPr.of {n:Nat} {c:Code} {Q:Exit→St→Prop} {A:St} (h:AWP P γ c Q A):AWPr P γ n c Q A:=
 fun B S ρ a w hs=>wp_mono (h B S ρ a w hs) fun _ _ _ ⟨S',ρ',A',h1,h2,h3⟩=>⟨S',ρ',A',h1,h2,h3.takeL⟩
theorem AWPr.to {c:Code} {Q:Exit→St→Prop} {A:St} (h:AWPr P γ A.h.length c Q A):AWP P γ c Q A:=
 fun B S ρ a w hs=>wp_mono (h B S ρ a w hs) fun _ _ _ ⟨S',ρ',A',h1,h2,h3⟩=>⟨S',ρ',A',h1,h2,by rwa [List.take_of_length_le (by rw [hs.heap.len];exact Nat.le_refl _)] at h3⟩
theorem AWPr.mono {n:Nat} {c:Code} {Q Q':Exit→St→Prop} {A:St} (h:AWPr P γ n c Q A) (hq:∀ e A,Q e A→Q' e A):AWPr P γ n c Q' A:=
 fun B S ρ a w hs=>wp_mono (h B S ρ a w hs) fun _ _ _ ⟨S',ρ',A',h1,h2,h3⟩=>⟨S',ρ',A',hq _ _ h1,h2,h3⟩
theorem AWPr.seq {n:Nat} {x y:Code} {Q:Exit→St→Prop} {A:St} (h:AWPr P γ n x (thenE (fun A=>AWPr P γ n y Q A) Q) A):AWPr P γ n (.seq x y) Q A:=by
 intro B S ρ a w hs
 refine wp_seq (wp_mono (h B S ρ a w hs) fun e a' w' ⟨S',ρ',A',h1,h2,h3⟩=>?_)
 cases e with
 | normal=>exact wp_mono (h1 B S' ρ' a' w' h2) fun e a'' w'' ⟨S'',ρ'',A'',k1,k2,k3⟩=>⟨S'',ρ'',A'',k1,k2,h3.transR k3⟩
 | _=>exact ⟨S',ρ',A',h1,h2,h3⟩
theorem AWPr.weak {n:Nat} {c:Code} {Q:Exit→St→Prop} {A A':St} (h:AWPr P γ n c Q A) (hn:n≤A.h.length) (hl:leSt A.h.length A A'):AWPr P γ n c Q A':=by
 intro B S ρ a w hs
 obtain ⟨hs0,hg0⟩:=hs.le hl rfl
 refine wp_mono (h B _ _ a w hs0) fun e a' w' ⟨S',ρ',A'',q1,q2,q3⟩=>⟨S',ρ',A'',q1,q2,?_⟩
 rw [List.take_take,Nat.min_eq_left hn] at q3
 have hx0:Ext B S (ρ.take n) w (SF A.h.length S ρ) (ρ.take n) w:=⟨Fr.refl w,fun _ _=>rfl,fun k hk=>.inl hk,fun _ _=>rfl,LocsUp.refl _,hg0⟩
 exact hx0.trans q3
def AWPl (P:Program) (γ:Nat→Option AV) (n:Nat):List Code→(Exit→St→Prop)→St→Prop
 | [],Q,A=>Q .normal A
 | c :: r,Q,A=>AWPr P γ n c (thenE (fun A=>AWPl P γ n r Q A) Q) A
theorem AWPl.app {n:Nat}:∀ {xs ys:List Code} {Q:Exit→St→Prop} {A:St},AWPl P γ n xs (thenE (fun A=>AWPl P γ n ys Q A) Q) A→AWPl P γ n (xs++ys) Q A
 | [],ys,Q,A,h=>h
 | x :: xs,ys,Q,A,h=>AWPr.mono h fun e A' h'=>by
  cases e with
  | normal=>exact AWPl.app h'
  | _=>exact h'
theorem AWPl.unapp {n:Nat}:∀ {xs ys:List Code} {Q:Exit→St→Prop} {A:St},AWPl P γ n (xs++ys) Q A→AWPl P γ n xs (thenE (fun A=>AWPl P γ n ys Q A) Q) A
 | [],ys,Q,A,h=>h
 | x :: xs,ys,Q,A,h=>AWPr.mono h fun e A' h'=>by
  cases e with
  | normal=>exact AWPl.unapp h'
  | _=>exact h'
theorem AWPl.mono {n:Nat}:∀ {xs:List Code} {Q Q':Exit→St→Prop} {A:St},AWPl P γ n xs Q A→(∀ e A,Q e A→Q' e A)→AWPl P γ n xs Q' A
 | [],Q,Q',A,h,hq=>hq _ _ h
 | x :: xs,Q,Q',A,h,hq=>AWPr.mono h fun e A' h'=>by
  cases e with
  | normal=>exact AWPl.mono h' hq
  | _=>exact hq _ _ h'
theorem AWPl.one {n:Nat} {c:Code} {Q:Exit→St→Prop} {A:St} (h:AWPl P γ n [c] Q A):AWPr P γ n c Q A:=AWPr.mono h fun e A' h'=>by cases e<;>exact h'
theorem AWPr.of_items {n:Nat}:∀ (c:Code) {Q:Exit→St→Prop} {A:St},AWPl P γ n (citems c) Q A→AWPr P γ n c Q A
 | .seq x y,Q,A,h=>by
  refine AWPr.seq ?_
  have:=AWPl.unapp (xs:=citems x) (ys:=citems y) h
  exact AWPr.of_items x (this.mono fun e A' h'=>by
   cases e with
   | normal=>exact AWPr.of_items y h'
   | _=>exact h')
 | .skip,Q,A,h=>h.one
 | .region ..,Q,A,h=>h.one
 | .cond ..,Q,A,h=>h.one
 | .loop ..,Q,A,h=>h.one
 | .block ..,Q,A,h=>h.one
 | .exit ..,Q,A,h=>h.one
 | .ret,Q,A,h=>h.one
 | .scope ..,Q,A,h=>h.one
 | .goto ..,Q,A,h=>h.one
 | .label ..,Q,A,h=>h.one
 | .refuse ..,Q,A,h=>h.one
 | .rangeFunc ..,Q,A,h=>h.one
theorem AWPl.weak {n:Nat} {l:List Code} {Q:Exit→St→Prop} {A A':St} (h:AWPl P γ n l Q A) (hl0:l≠[]) (hn:n≤A.h.length) (hl:leSt A.h.length A A'):AWPl P γ n l Q A':=by
 cases l with
 | nil=>exact absurd rfl hl0
 | cons c r=>exact AWPr.weak h hn hl
theorem AWPr.block {n id:Nat} {c:Code} {Q:Exit→St→Prop} {A:St} (h:AWPr P γ n c (inBlk id Q) A):AWPr P γ n (.block id c) Q A:=by
 intro B S ρ a w hs
 refine wp_block (wp_mono (h B S ρ a w hs) fun e a' w' ⟨S',ρ',A',h1,h2,h3⟩=>?_)
 cases e with
 | exit id'=>
  simp only [Exit.inBlock]
  simp only [inBlk] at h1
  split at h1
  ·rename_i e;rw [if_pos e];exact ⟨S',ρ',A',h1,h2,h3⟩
  ·rename_i e;rw [if_neg e];exact ⟨S',ρ',A',h1,h2,h3⟩
 | _=>exact ⟨S',ρ',A',h1,h2,h3⟩
theorem AWPl.block {n id:Nat} {c:Code} {r:List Code} {Q:Exit→St→Prop} {A:St} (h:AWPl P γ n (citems c) (inBlk id (thenE (fun A=>AWPl P γ n r Q A) Q)) A):AWPl P γ n (.block id c :: r) Q A:=
 AWPr.block (AWPr.of_items c h)
variable {C:EC} {CQ:List Blk→QC} {T:Nat→TI} {D:Array Oper→(St→Prop)→St→Prop} {W:Code→(Exit→St→Prop)→St→Prop}
theorem Env.bl (E:Env P γ C CQ T D W) {n:Nat}:∀ {l:List Code} {Q:Exit→St→Prop} {A:St},vcl T γ C D W l Q A→AWPl P γ n l Q A
 | [],Q,A,h=>h
 | c :: r,Q,A,h=>AWPr.mono (AWPr.of (E.b h)) fun e A' h'=>by
  cases e with
  | normal=>exact E.bl h'
  | _=>exact h'
theorem Env.cut (E:Env P γ C CQ T D W) {n:Nat} {l:List Code} {Q:Exit→St→Prop} {A:St} (k:Nat) (A2:St) (hk0:(l.drop k).isEmpty=false) (hn:n≤A2.h.length)
  (h1:∀ I:St→Prop,(∀ {A'},leSt A2.h.length A2 A'→I A')→vcl T γ C D W (l.take k) (thenE I Q) A) (h2:AWPl P γ n (l.drop k) Q A2):AWPl P γ n l Q A:=by
 have hk:l.drop k≠[]:=fun e=>by rw [e] at hk0;cases hk0
 rw [←List.take_append_drop k l]
 exact AWPl.app ((E.bl (h1 (fun A'=>AWPl P γ n (l.drop k) Q A') fun hl=>h2.weak hk hn hl)).mono fun e A' h=>by cases e<;>exact h)
theorem Env.cutI (E:Env P γ C CQ T D W) {n:Nat} {l:List Code} {Q:Exit→St→Prop} {A:St} {ι:Type} (k:Nat) (ok:ι→Prop) (A2:ι→St) (hk0:(l.drop k).isEmpty=false) (hn:∀ j,n≤(A2 j).h.length)
  (h1:∀ I:St→Prop,(∀ {A'} j,ok j→leSt (A2 j).h.length (A2 j) A'→I A')→vcl T γ C D W (l.take k) (thenE I Q) A) (h2:∀ j,ok j→AWPl P γ n (l.drop k) Q (A2 j)):AWPl P γ n l Q A:=by
 have hk:l.drop k≠[]:=fun e=>by rw [e] at hk0;cases hk0
 rw [←List.take_append_drop k l]
 exact AWPl.app ((E.bl (h1 (fun A'=>AWPl P γ n (l.drop k) Q A') fun j hj hl=>(h2 j hj).weak hk (hn j) hl)).mono fun e A' h=>by cases e<;>exact h)
theorem AWP.goL {ty:Program→Nat→TI} (hτ:∀ t,ty P t=tiOf P t) (hm:P.follows .mixedOrders=true) {c:Code} {Q:(Nat→TI)→Exit→St→Prop} {A:St}
  (h:∀ (P':Program) (C:EC) (CQ:List Blk→QC) (D:Array Oper→(St→Prop)→St→Prop) (W:Code→(Exit→St→Prop)→St→Prop),Env P γ C CQ (ty P') D W→AWPl P γ A.h.length (citems c) (Q (ty P')) A):AWP P γ c (Q (ty P)) A:=
 AWPr.to (AWPr.of_items c (h P _ _ _ _ (Env.top hτ hm)))
theorem Pure.goL {ty:Program→Nat→TI} (hτ:∀ t,ty P t=tiOf P t) (hm:P.follows .mixedOrders=true) {f:FuncId} {fn:Func} {n:Nat} {rs:Array ResultVar}
  (hf:P.funcs[f]?=some fn) (hb:fn.body=some (fn.body.getD .skip)) (hn:fn.ntmps=n) (hr:fn.results=rs) (he:Enters P f) {args:List AV} {y:AV} (hsz:args.length≤n∧n<1000)
  (h:∀ (P':Program) (C:EC) (CQ:List Blk→QC) (D:Array Oper→(St→Prop)→St→Prop) (W:Code→(Exit→St→Prop)→St→Prop) (F:AV→List Blk→Prop),Env P γ C CQ (ty P') D W→(∀ {v h},fz h y v→F v h) →
   AWPl P γ 0 (citems (fn.body.getD .skip)) (bodyQ (ty P') rs.toList F) (start n args [])):Pure P γ false f args y:=
 Pure.of_body hτ hf hb hn (by rw [hr]) he hsz (AWP.goL (Q:=fun T=>bodyQ T rs.toList fun v h=>fz h y v) hτ hm fun P' C CQ D W E=>h P' C CQ D W _ E fun h=>h)
end
end Go.AL
namespace Go.AL.Rl
open Go Go.AL Go.Proofs
variable {γ:Nat→Option AV}
set_option maxRecDepth 100000
theorem bit_zero (n i j:Nat):bit (List.replicate n 0#64) i j=false:=by
 rw [←tab_zero,bit_tab];simp
structure Srt (rows:List (BitVec 64)) (tl:List Nat):Prop where
 nd:tl.Nodup
 mem:∀ p,p∈tl↔p<rows.length
 len:tl.length=rows.length
 ord:∀ k m (_:k≤m) (hm:m<tl.length),bit rows tl[m] tl[k]=false
end Go.AL.Rl
namespace Go.AL.Rl
open Go Go.AL Go.Proofs
variable {γ:Nat→Option AV}
set_option maxRecDepth 100000
end Go.AL.Rl
namespace Go.AL.Rl
open Go Go.AL Go.Proofs
variable {γ:Nat→Option AV}
set_option maxRecDepth 100000
end Go.AL.Rl
namespace Go.AL.Rl
open Go Go.AL Go.Proofs
variable {γ:Nat→Option AV}
set_option maxRecDepth 100000
end Go.AL.Rl
namespace Go.AL.Rl
open Go Go.AL Go.Proofs
variable {γ:Nat→Option AV}
set_option maxRecDepth 100000
end Go.AL.Rl
namespace Go.AL.Rl
open Go Go.AL Go.Proofs
variable {γ:Nat→Option AV}
set_option maxRecDepth 100000
end Go.AL.Rl
namespace Go.AL.Rl
open Go Go.AL Go.Proofs
variable {γ:Nat→Option AV}
set_option maxRecDepth 100000
end Go.AL.Rl
namespace Go.AL
open Go Go.RowKit
section
variable {P:Program} {γ:Nat→Option AV}
theorem SCalls.le {f:FuncId} {args args':List AV} {h h':List Blk} {Q:AV→List Blk→Prop} (hs:SCalls P γ f args' h' Q) (hn:h'.length=h.length) (ha:leVs h.length args' args) (hh:leH h.length h' h):SCalls P γ f args h Q:=by
 refine ⟨hs.1,fun B S ρ w vals hr hv=>?_⟩
 have h1:=hr.le hh hn
 have h2:=Rs_le _ _ _ ha hv
 have e:ρ.take h.length=ρ:=List.take_of_length_le (by rw [hr.len];exact Nat.le_refl _)
 rw [e] at h1 h2
 exact hs.2 B S ρ w vals h1 h2
abbrev Post (v:AV) (h:List Blk):AV→List Blk→Prop:=fun v' h'=>leV h.length v v'∧leH h.length h h'
theorem SCalls.to {f:FuncId} {args args':List AV} {h h' h2:List Blk} {v:AV} {Q:AV→List Blk→Prop} (hs:SCalls P γ f args' h' (Post v h2)) (hn:h'.length=h.length) (hn2:h.length≤h2.length) (ha:leVs h.length args' args) (hh:leH h.length h' h) (hq:Q v h2):SCalls P γ f args h Q:=by
 have hs:=hs.le hn ha hh
 refine ⟨hs.1,fun B S ρ w vals hr hv=>(hs.2 B S ρ w vals hr hv).mono fun e w' ⟨v',h'',S',ρ',v2,h1,⟨h2',h3⟩,h4,h5,h6⟩=>?_⟩
 have hb:=h5.le h3 rfl
 have hv':=R_le _ _ _ h2' h4
 refine ⟨v,h2,S',ρ'.take h2.length,v2,h1,hq,hv',hb,⟨h6.fr,h6.below,h6.sub,h6.same,?_,h6.grow⟩⟩
 intro b loc hb'
 obtain ⟨l',k1,k2⟩:=h6.locs b loc hb'
 exact ⟨l',take_get k1 (by have:=(List.getElem?_eq_some_iff.1 hb').1;rw [hr.len] at this;omega),k2⟩
end
section
variable {P:Program} {γ:Nat→Option AV} {C:EC} {CQ:List Blk→QC} {T:Nat→TI} {D:Array Oper→(St→Prop)→St→Prop} {W:Code→(Exit→St→Prop)→St→Prop}
theorem Env.loopS (E:Env P γ C CQ T D W) {c:Code} {Q:Exit→St→Prop} {A:St} {ι:Type} (ok:ι→Prop) (m:ι→Nat) (upd:ι→List (Nat × AV)) (f:ι→List Blk→List Blk) (j0:ι)
  (hf:∀ j,(f j A.h).length=A.h.length) (hok:ok j0) (h0:leSt A.h.length (headSt c A (upd j0) (f j0 A.h)) A)
  (round:∀ j,ok j→∀ (I:St→Prop),(∀ {A'} j',ok j'→m j'<m j→leSt A.h.length (headSt c A (upd j') (f j' A.h)) A'→I A')→vc T γ C D W c (thenE I Q) (headSt c A (upd j) (f j A.h))):W c Q A:=
 E.w (AWP.loopI (ι:=ι) A.h.length (fun j=>headSt c A (upd j) (f j A.h)) ok m j0 rfl (fun j=>hf j) ⟨hok,h0⟩ fun j hj=>E.b (round j hj _ fun j' h1 h2 h3=>⟨j',h1,h2,h3⟩))
theorem Env.loopSA (E:Env P γ C CQ T D W) {c:Code} {Q:Exit→St→Prop} {A:St} {ι:Type} (ok:ι→Prop) (m:ι→Nat) (upd:ι→List (Nat × AV)) (f:ι→List Blk→List Blk) (j0:ι)
  (hf:∀ j,(f j A.h).length=A.h.length) (hok:ok j0) (h0:leSt A.h.length (headSt c A (upd j0) (f j0 A.h)) A)
  (round:∀ j,ok j→∀ (I:St→Prop),(∀ {A'} j',ok j'→m j'<m j→leSt A.h.length (headSt c A (upd j') (f j' A.h)) A'→I A')→vc T γ C D W c (thenE I Q) (headSt c A (upd j) (f j A.h))):AWP P γ (.loop c) Q A:=
 AWP.loopI (ι:=ι) A.h.length (fun j=>headSt c A (upd j) (f j A.h)) ok m j0 rfl (fun j=>hf j) ⟨hok,h0⟩ fun j hj=>E.b (round j hj _ fun j' h1 h2 h3=>⟨j',h1,h2,h3⟩)
end
end Go.AL
namespace Go.AL.Rl
open Go Go.AL Go.Proofs
set_option maxRecDepth 100000
structure Ev where
 kind:Int
 loc:Int
 order:Int
 rd:Int
 wr:Int
theorem Ev.ext' {a b:Ev} (h1:a.kind=b.kind) (h2:a.loc=b.loc) (h3:a.order=b.order) (h4:a.rd=b.rd) (h5:a.wr=b.wr):a=b:=by cases a;cases b;simp_all
instance:DecidableEq Ev:=fun a b=>decidable_of_iff (a.kind=b.kind∧a.loc=b.loc∧a.order=b.order∧a.rd=b.rd∧a.wr=b.wr) ⟨fun h=>Ev.ext' h.1 h.2.1 h.2.2.1 h.2.2.2.1 h.2.2.2.2,fun h=>by subst h;exact ⟨rfl,rfl,rfl,rfl,rfl⟩⟩
structure EId where
 t:Int
 i:Int
theorem EId.ext' {a b:EId} (h1:a.t=b.t) (h2:a.i=b.i):a=b:=by cases a;cases b;simp_all
instance:DecidableEq EId:=fun a b=>decidable_of_iff (a.t=b.t∧a.i=b.i) ⟨fun h=>EId.ext' h.1 h.2,fun h=>by subst h;exact ⟨rfl,rfl⟩⟩
structure Gr where
 init:List Int
 th:List (List Ev)
 fr:List (List EId)
 ord:List (List EId)
abbrev ev0:Ev:=⟨0,0,0,0,0⟩
abbrev id0:EId:=⟨0,0⟩
abbrev aEv (e:Ev):AV:=.agg [.i fun _=>e.kind,.i fun _=>e.loc,.i fun _=>e.order,.i fun _=>e.rd,.i fun _=>e.wr]
abbrev aId (d:EId):AV:=.agg [.i fun _=>d.t,.i fun _=>d.i]
def evs (l:List Ev):LV:=LV.of (l.map aEv)
def ids (l:List EId):LV:=LV.of (l.map aId)
def evss (l:List (List Ev)):LV:=LV.of (l.map fun x=>.vs 5 fun _=>evs x)
def idss (l:List (List EId)):LV:=LV.of (l.map fun x=>.vs 2 fun _=>ids x)
abbrev aGr (g:Gr):AV:=.agg [.vs 1 fun _=>is g.init,.vs 1 fun _=>evss g.th,.vs 1 fun _=>idss g.fr,.vs 1 fun _=>idss g.ord]
@[simp] theorem evs_len (l:List Ev):(evs l).l.length=l.length:=by simp [evs]
@[simp] theorem ids_len (l:List EId):(ids l).l.length=l.length:=by simp [ids]
@[simp] theorem evss_len (l:List (List Ev)):(evss l).l.length=l.length:=by simp [evss]
@[simp] theorem idss_len (l:List (List EId)):(idss l).l.length=l.length:=by simp [idss]
theorem evs_get (l:List Ev) (i:Nat) (h:i<l.length):(evs l).l.getD i .any=aEv (l.getD i ev0):=by simp [evs,h]
theorem ids_get (l:List EId) (i:Nat) (h:i<l.length):(ids l).l.getD i .any=aId (l.getD i id0):=by simp [ids,h]
theorem evss_get (l:List (List Ev)) (i:Nat) (h:i<l.length):(evss l).l.getD i .any=.vs 5 fun _=>evs (l.getD i []):=by simp [evss,h]
theorem idss_get (l:List (List EId)) (i:Nat) (h:i<l.length):(idss l).l.getD i .any=.vs 2 fun _=>ids (l.getD i []):=by simp [idss,h]
section
variable (a b c d e:Unit→Int) (k:Nat) (es:Unit→LV)
theorem at_e0:((AV.agg [.i a,.i b,.i c,.i d,.i e]).at 0).asI=a ():=rfl
theorem at_e1:((AV.agg [.i a,.i b,.i c,.i d,.i e]).at 1).asI=b ():=rfl
theorem at_e2:((AV.agg [.i a,.i b,.i c,.i d,.i e]).at 2).asI=c ():=rfl
theorem at_e3:((AV.agg [.i a,.i b,.i c,.i d,.i e]).at 3).asI=d ():=rfl
theorem at_e4:((AV.agg [.i a,.i b,.i c,.i d,.i e]).at 4).asI=e ():=rfl
theorem at_d0:((AV.agg [.i a,.i b]).at 0).asI=a ():=rfl
theorem at_d1:((AV.agg [.i a,.i b]).at 1).asI=b ():=rfl
theorem at_l:((AV.vs k es).at 0).asL=es ():=rfl
theorem at_agg (cs:List AV) (off:Nat):(AV.agg cs).at off=cs.getD off .any:=rfl
theorem asL_vs:(AV.vs k es).asL=es ():=rfl
theorem asI_i:(AV.i a).asI=a ():=rfl
theorem asU_u (u:Unit→BitVec 64):(AV.u u).asU=u ():=rfl
theorem asB_b (u:Unit→Bool):(AV.b u).asB=u ():=rfl
end
theorem bofZ {z:Int} (h0:0≤z) (h1:z<9223372036854775808):(BitVec.ofInt 64 z).toNat=z.toNat:=by simp;omega
theorem bof1:BitVec.ofInt 64 1=1#64:=rfl
theorem bof0:BitVec.ofInt 64 0=0#64:=rfl
theorem zA {α:Type _} {a b:List α}:(a++b).length=a.length+b.length:=List.length_append
theorem zM {α β:Type _} {l:List α} (f:α→β):(l.map f).length=l.length:=List.length_map f
theorem zG {n:Nat}:(List.range n).length=n:=List.length_range
theorem zP {α:Type _} {n:Nat} {a:α}:(List.replicate n a).length=n:=List.length_replicate
theorem zT (n:Nat):(n:Int).toNat=n:=Int.toNat_natCast n
theorem zZ:(0:Int).toNat=0:=Int.toNat_zero
theorem zC {α:Type _} {a d:α} {l:List α}:(a :: l).getD 0 d=a:=rfl
theorem zS {α:Type _} {a d:α} {l:List α} {n:Nat}:(a :: l).getD (n+1) d=l.getD n d:=rfl
theorem zD {p:Prop} [Decidable p]:(decide p=true)=p:=decide_eq_true_eq
theorem zE {p:Prop} {_:Decidable p}:decide p=false↔¬p:=decide_eq_false_iff_not
theorem zB {b:Bool}:(¬b=true)=(b=false):=Bool.not_eq_true b
theorem zF {b:Bool}:(¬b=false)=(b=true):=Bool.not_eq_false b
theorem zN {a:Bool}:((!a)=true)=(a=false):=Bool.not_eq_true' a
theorem zO {a:Bool}:((!a)=false)=(a=true):=Bool.not_eq_false' a
theorem zQ {p:Prop} [Decidable p]:¬¬p↔p:=Decidable.not_not
theorem zL {a b:Int}:¬a≤b↔b<a:=Int.not_le
theorem zR {a b:Int}:¬a<b↔b≤a:=Int.not_lt
theorem rdS:(∀ l:List Int,(is l).l.length=l.length)∧(∀ l:List (BitVec 64),(us l).l.length=l.length)∧(∀ l:List (Int × Int),(ps l).l.length=l.length)
  ∧ (∀ (l:List Int) (i:Nat) (_:i<l.length),(is l).l.getD i .any=.i fun _=>l.getD i 0)
  ∧ (∀ (l:List (BitVec 64)) (i:Nat) (_:i<l.length),(us l).l.getD i .any=.u fun _=>l.getD i 0)
  ∧ (∀ (l:List (Int × Int)) (i:Nat) (_:i<l.length),(ps l).l.getD i .any=.agg [.i fun _=>(l.getD i (0,0)).1,.i fun _=>(l.getD i (0,0)).2])
  ∧ (∀ x:Unit→Int,((AV.i x).at 0).asI=x ())∧(∀ x:Unit→BitVec 64,((AV.u x).at 0).asU=x ())
  ∧ (∀ x y:Unit→Int,((AV.agg [.i x,.i y]).at 0).asI=x ())∧(∀ x y:Unit→Int,((AV.agg [.i x,.i y]).at 1).asI=y ())
  ∧ (∀ l:List Ev,(evs l).l.length=l.length)∧(∀ l:List EId,(ids l).l.length=l.length)
  ∧ (∀ l:List (List Ev),(evss l).l.length=l.length)∧(∀ l:List (List EId),(idss l).l.length=l.length)
  ∧ (∀ (l:List Ev) (i:Nat) (_:i<l.length),(evs l).l.getD i .any=aEv (l.getD i ev0))
  ∧ (∀ (l:List EId) (i:Nat) (_:i<l.length),(ids l).l.getD i .any=aId (l.getD i id0))
  ∧ (∀ (l:List (List Ev)) (i:Nat) (_:i<l.length),(evss l).l.getD i .any=.vs 5 fun _=>evs (l.getD i []))
  ∧ (∀ (l:List (List EId)) (i:Nat) (_:i<l.length),(idss l).l.getD i .any=.vs 2 fun _=>ids (l.getD i []))
  ∧ (∀ a b c d e:Unit→Int,((AV.agg [.i a,.i b,.i c,.i d,.i e]).at 0).asI=a ())
  ∧ (∀ a b c d e:Unit→Int,((AV.agg [.i a,.i b,.i c,.i d,.i e]).at 1).asI=b ())
  ∧ (∀ a b c d e:Unit→Int,((AV.agg [.i a,.i b,.i c,.i d,.i e]).at 2).asI=c ())
  ∧ (∀ a b c d e:Unit→Int,((AV.agg [.i a,.i b,.i c,.i d,.i e]).at 3).asI=d ())
  ∧ (∀ a b c d e:Unit→Int,((AV.agg [.i a,.i b,.i c,.i d,.i e]).at 4).asI=e ())
  ∧ (∀ (k:Nat) (es:Unit→LV),((AV.vs k es).at 0).asL=es ())∧(∀ (k:Nat) (es:Unit→LV),(AV.vs k es).asL=es ())
  ∧ (∀ a:Unit→Int,(AV.i a).asI=a ())∧(∀ u:Unit→BitVec 64,(AV.u u).asU=u ())∧(∀ u:Unit→Bool,(AV.b u).asB=u ()):=
 ⟨is_len,us_len,ps_len,is_get,us_get,ps_get,at_i,at_u,at_p0,at_p1,evs_len,ids_len,evss_len,idss_len,evs_get,ids_get,evss_get,idss_get,at_e0,at_e1,at_e2,at_e3,at_e4,at_l,asL_vs,asI_i,asU_u,asB_b⟩
theorem lnS:(∀ l:List Int,(is l).l.length=l.length)∧(∀ l:List (BitVec 64),(us l).l.length=l.length)∧(∀ l:List (Int × Int),(ps l).l.length=l.length)
  ∧ (∀ l:List Ev,(evs l).l.length=l.length)∧(∀ l:List EId,(ids l).l.length=l.length)
  ∧ (∀ l:List (List Ev),(evss l).l.length=l.length)∧(∀ l:List (List EId),(idss l).l.length=l.length)
  ∧ (∀ (n:Nat) (f:Nat→BitVec 64),(tab n f).length=n)
  ∧ (∀ {α:Type} {a b:List α},(a++b).length=a.length+b.length)∧(∀ {α β:Type} {l:List α} (f:α→β),(l.map f).length=l.length)
  ∧ (∀ {n:Nat},(List.range n).length=n)∧(∀ {α:Type} {n:Nat} {a:α},(List.replicate n a).length=n):=
 ⟨is_len,us_len,ps_len,evs_len,ids_len,evss_len,idss_len,tab_len,zA,fun f=>zM f,zG,zP⟩
theorem rdT:(∀ n:Nat,(NatCast.natCast n:Int)=(n:Int))∧(∀ i:Nat,(NatCast.natCast i:Int).toNat=i)∧(∀ {n:Int},-9223372036854775808≤n→n<9223372036854775808→w64 n=n)
  ∧ (∀ n:Nat,(n:Int).toNat=n)∧(0:Int).toNat=0∧(∀ {α β:Type} {l:List α} (f:α→β),(l.map f).length=l.length)
  ∧ (∀ (cs:List AV) (off:Nat),(AV.agg cs).at off=cs.getD off .any)∧(∀ {z:Int},0≤z→z<9223372036854775808→(BitVec.ofInt 64 z).toNat=z.toNat)∧BitVec.ofInt 64 1=1#64∧BitVec.ofInt 64 0=0#64
  ∧ (∀ {α:Type} {a d:α} {l:List α},(a :: l).getD 0 d=a)∧(∀ {α:Type} {a d:α} {l:List α} {n:Nat},(a :: l).getD (n+1) d=l.getD n d):=
 ⟨nc,nct,fun h0 h1=>w64_of h0 h1,zT,zZ,fun f=>zM f,at_agg,fun a b=>bofZ a b,bof1,bof0,zC,zS⟩
theorem trT:(!true)=false∧(!false)=true∧(∀ {p:Prop} [Decidable p],(decide p=true)=p)∧(∀ {p:Prop} {_:Decidable p},decide p=false↔¬p)∧(∀ {b:Bool},(¬b=true)=(b=false))∧(∀ {b:Bool},(¬b=false)=(b=true))
  ∧ (∀ {a:Bool},((!a)=true)=(a=false))∧(∀ {a:Bool},((!a)=false)=(a=true))∧(∀ {α:Type} (a b:α),(a≠b)=¬a=b)∧(∀ {p:Prop} [Decidable p],¬¬p↔p)∧(∀ {a b:Int},¬a≤b↔b<a)∧(∀ {a b:Int},¬a<b↔b≤a)
  ∧ (∀ {α:Type} [BEq α] [LawfulBEq α] {a b:α},(a == b)=true↔a=b):=
 ⟨rfl,rfl,zD,zE,zB,zF,zN,zO,fun _ _=>rfl,zQ,zL,zR,beq_iff_eq⟩
theorem anT:(∀ α:Type,(α→True)=True)∧(∀ p:Prop,(p→True)=True)∧(∀ p:Prop,(p∧True)=p)∧(∀ p:Prop,(True∧p)=p)∧(∀ (α:Type) [Nonempty α] (p:Prop),(α→p)↔p):=
 ⟨fun _=>implies_true _,fun _=>implies_true _,fun _=>and_true _,fun _=>true_and _,fun _ _ _=>forall_const _⟩
structure Rd (g:Gr):Prop where
 init:(g.init.length:Int)≤9223372036854775807
 th:(g.th.length:Int)≤9223372036854775807
 fr:(g.fr.length:Int)≤9223372036854775807
 ord:(g.ord.length:Int)≤9223372036854775807
 ths:∀ l∈g.th,(l.length:Int)≤9223372036854775807
 frs:∀ l∈g.fr,(l.length:Int)≤9223372036854775807
 ords:∀ l∈g.ord,(l.length:Int)≤9223372036854775807
structure RdB (g:Gr):Prop where
 init:g.init.length * 8≤140737488351232
 th:g.th.length * 24≤140737488351232
 fr:g.fr.length * 24≤140737488351232
 ord:g.ord.length * 24≤140737488351232
 ths:∀ l∈g.th,l.length * 40≤140737488351232
 frs:∀ l∈g.fr,l.length * 16≤140737488351232
 ords:∀ l∈g.ord,l.length * 16≤140737488351232
def readsM (e:Ev):Bool:=decide (e.kind=1) || decide (e.kind=3)
def writesM (e:Ev):Bool:=decide (e.kind=2) || decide (e.kind=3)
variable {γ:Nat→Option AV}
theorem greads_ok (e:Ev):Pure Try.prog γ false 69 [aEv e] (.b fun _=>readsM e):=by
 refine Pure.go (ty:=ty) ty_eq mo Try.func69 rfl Try.ntmps69 Try.results69 Try.call69 (by simp) fun P C CQ D W F E hF=>?_
 cbv
 repeat' (first
  |(refine ⟨fun _ h_s=>?_,fun _ h_s=>?_⟩<;>(cbv;(try simp only [nc] at *);try simp (disch:=(first|omega|(simp only [lnS];omega))) only [rdT,rdS,reduceCtorEq,trT] at h_s))
  |(refine hF ?_;intro _;clear hF)
  |(refine hF ?_;cbv;clear hF)
  |(refine ⟨fun _=>?_,?_⟩;(· ((try simp only [nc] at *);first|done|omega|exact ⟨by omega,rfl⟩|(simp (disch:=(first|omega|(simp only [lnS];omega))) only [rdT,rdS];first|done|omega|rfl|exact ⟨by omega,rfl⟩|(simp;done)|(simp;omega))|(intros;trivial)));try cbv)
  | fail
 )
 all_goals simp_all [readsM]
theorem gwrites_ok (e:Ev):Pure Try.prog γ false 52 [aEv e] (.b fun _=>writesM e):=by
 refine Pure.go (ty:=ty) ty_eq mo Try.func52 rfl Try.ntmps52 Try.results52 Try.call52 (by simp) fun P C CQ D W F E hF=>?_
 cbv
 repeat' (first
  |(refine ⟨fun _ h_s=>?_,fun _ h_s=>?_⟩<;>(cbv;(try simp only [nc] at *);try simp (disch:=(first|omega|(simp only [lnS];omega))) only [rdT,rdS,reduceCtorEq,trT] at h_s))
  |(refine hF ?_;intro _;clear hF)
  |(refine hF ?_;cbv;clear hF)
  |(refine ⟨fun _=>?_,?_⟩;(· ((try simp only [nc] at *);first|done|omega|exact ⟨by omega,rfl⟩|(simp (disch:=(first|omega|(simp only [lnS];omega))) only [rdT,rdS];first|done|omega|rfl|exact ⟨by omega,rfl⟩|(simp;done)|(simp;omega))|(intros;trivial)));try cbv)
  | fail
 )
 all_goals simp_all [writesM]
theorem rreads_ok (e:Ev):Pure Try.prog γ false 33 [aEv e] (.b fun _=>readsM e):=by
 refine Pure.go (ty:=ty) ty_eq mo Try.func33 rfl Try.ntmps33 Try.results33 Try.call33 (by simp) fun P C CQ D W F E hF=>?_
 cbv
 repeat' (first
  |(refine ⟨fun _ h_s=>?_,fun _ h_s=>?_⟩<;>(cbv;(try simp only [nc] at *);try simp (disch:=(first|omega|(simp only [lnS];omega))) only [rdT,rdS,reduceCtorEq,trT] at h_s))
  |(refine hF ?_;intro _;clear hF)
  |(refine hF ?_;cbv;clear hF)
  |(refine ⟨fun _=>?_,?_⟩;(· ((try simp only [nc] at *);first|done|omega|exact ⟨by omega,rfl⟩|(simp (disch:=(first|omega|(simp only [lnS];omega))) only [rdT,rdS];first|done|omega|rfl|exact ⟨by omega,rfl⟩|(simp;done)|(simp;omega))|(intros;trivial)));try cbv)
  | fail
 )
 all_goals simp_all [readsM]
theorem rwrites_ok (e:Ev):Pure Try.prog γ false 34 [aEv e] (.b fun _=>writesM e):=by
 refine Pure.go (ty:=ty) ty_eq mo Try.func34 rfl Try.ntmps34 Try.results34 Try.call34 (by simp) fun P C CQ D W F E hF=>?_
 cbv
 repeat' (first
  |(refine ⟨fun _ h_s=>?_,fun _ h_s=>?_⟩<;>(cbv;(try simp only [nc] at *);try simp (disch:=(first|omega|(simp only [lnS];omega))) only [rdT,rdS,reduceCtorEq,trT] at h_s))
  |(refine hF ?_;intro _;clear hF)
  |(refine hF ?_;cbv;clear hF)
  |(refine ⟨fun _=>?_,?_⟩;(· ((try simp only [nc] at *);first|done|omega|exact ⟨by omega,rfl⟩|(simp (disch:=(first|omega|(simp only [lnS];omega))) only [rdT,rdS];first|done|omega|rfl|exact ⟨by omega,rfl⟩|(simp;done)|(simp;omega))|(intros;trivial)));try cbv)
  | fail
 )
 all_goals simp_all [writesM]
def fineM (n:Int) (e:Ev):Bool:=
 decide (1≤e.kind∧e.kind≤4∧1≤e.order∧e.order≤6) && (readsM e || decide (e.rd=0)) && (writesM e || decide (e.wr=0)) && (if e.kind=4 then decide (e.loc=0) else decide (0≤e.loc∧e.loc<n))
theorem rightEvent_ok (e:Ev) (n:Int):Pure Try.prog γ false 49 [aEv e,.i fun _=>n] (.b fun _=>fineM n e):=by
 refine Pure.go (ty:=ty) ty_eq mo Try.func49 rfl Try.ntmps49 Try.results49 Try.call49 (by simp) fun P C CQ D W F E hF=>?_
 cbv
 repeat' (first
  |(refine E.c (SCalls.of_le (gwrites_ok e) ?_ ?_);(· (cbv;(try simp only [nc] at *);first|done|(simp;done)|(simp (disch:=(first|omega|(simp only [lnS];omega))) only [rdT,rdS,anT];first|done|omega|(refine ⟨?_,?_⟩<;>omega))|(simp (disch:=(first|omega|(simp only [lnS];omega))) [rdT,rdS];done)));cbv)
  |(refine E.c (SCalls.of_le (greads_ok e) ?_ ?_);(· (cbv;(try simp only [nc] at *);first|done|(simp;done)|(simp (disch:=(first|omega|(simp only [lnS];omega))) only [rdT,rdS,anT];first|done|omega|(refine ⟨?_,?_⟩<;>omega))|(simp (disch:=(first|omega|(simp only [lnS];omega))) [rdT,rdS];done)));cbv)
  |(refine ⟨fun _ h_s=>?_,fun _ h_s=>?_⟩<;>(cbv;(try simp only [nc] at *);try simp (disch:=(first|omega|(simp only [lnS];omega))) only [rdT,rdS,reduceCtorEq,trT] at h_s))
  |(refine hF ?_;intro _;clear hF)
  |(refine hF ?_;cbv;clear hF)
  |(refine ⟨fun _=>?_,?_⟩;(· ((try simp only [nc] at *);first|done|omega|exact ⟨by omega,rfl⟩|(simp (disch:=(first|omega|(simp only [lnS];omega))) only [rdT,rdS];first|done|omega|rfl|exact ⟨by omega,rfl⟩|(simp;done)|(simp;omega))|(intros;trivial)));try cbv)
  | fail
 )
 all_goals simp only [fineM]
 all_goals grind
theorem fine_ok (e:Ev) (g:Gr):Pure Try.prog γ false 19 [aGr g,aEv e] (.b fun _=>fineM g.init.length e):=by
 refine Pure.go (ty:=ty) ty_eq mo Try.func19 rfl Try.ntmps19 Try.results19 Try.call19 (by simp) fun P C CQ D W F E hF=>?_
 cbv
 repeat' (first
  |(refine E.c (SCalls.of_le (rwrites_ok e) ?_ ?_);(· (cbv;(try simp only [nc] at *);first|done|(simp;done)|(simp (disch:=(first|omega|(simp only [lnS];omega))) only [rdT,rdS,anT];first|done|omega|(refine ⟨?_,?_⟩<;>omega))|(simp (disch:=(first|omega|(simp only [lnS];omega))) [rdT,rdS];done)));cbv)
  |(refine E.c (SCalls.of_le (rreads_ok e) ?_ ?_);(· (cbv;(try simp only [nc] at *);first|done|(simp;done)|(simp (disch:=(first|omega|(simp only [lnS];omega))) only [rdT,rdS,anT];first|done|omega|(refine ⟨?_,?_⟩<;>omega))|(simp (disch:=(first|omega|(simp only [lnS];omega))) [rdT,rdS];done)));cbv)
  |(refine ⟨fun _ h_s=>?_,fun _ h_s=>?_⟩<;>(cbv;(try simp only [nc] at *);try simp (disch:=(first|omega|(simp only [lnS];omega))) only [rdT,rdS,reduceCtorEq,trT] at h_s))
  |(refine hF ?_;intro _;clear hF)
  |(refine hF ?_;cbv;clear hF)
  |(refine ⟨fun _=>?_,?_⟩;(· ((try simp only [nc] at *);first|done|omega|exact ⟨by omega,rfl⟩|(simp (disch:=(first|omega|(simp only [lnS];omega))) only [rdT,rdS];first|done|omega|rfl|exact ⟨by omega,rfl⟩|(simp;done)|(simp;omega))|(intros;trivial)));try cbv)
  | fail
 )
 all_goals (try simp only [fineM])
 all_goals (try simp only [nc,is_len])
 all_goals grind
end Go.AL.Rl
namespace Go.AL.Rl
open Go Go.AL Go.Proofs
set_option maxRecDepth 100000
variable {γ:Nat→Option AV}
def eventM (g:Gr) (d:EId):Option Ev:=
 if d.t=0 then (if 0≤d.i∧d.i<g.init.length then some ⟨2,d.i,1,0,g.init.getD d.i.toNat 0⟩ else none)
 else if 0<d.t∧d.t≤g.th.length∧0≤d.i∧d.i<(g.th.getD (d.t-1).toNat []).length then some ((g.th.getD (d.t-1).toNat []).getD d.i.toNat ev0) else none
theorem revent_ok (g:Gr) (hg:Rd g) (d:EId):Pure Try.prog γ false 35 [aGr g,aId d] (.tup [aEv ((eventM g d).getD ev0),.b fun _=>(eventM g d).isSome]):=by
 have hg1:=hg.init
 have hg2:=hg.th
 refine Pure.go (ty:=ty) ty_eq mo Try.func35 rfl Try.ntmps35 Try.results35 Try.call35 (by simp) fun P C CQ D W F E hF=>?_
 cbv
 repeat' (first
  |(refine ⟨fun _ h_s=>?_,fun _ h_s=>?_⟩<;>(cbv;(try simp only [nc] at *);try simp (disch:=(first|omega|(simp only [lnS];omega))) only [rdT,rdS,reduceCtorEq,trT] at h_s))
  |(refine hF ?_;intro _;clear hF)
  |(refine hF ?_;cbv;clear hF)
  |(refine ⟨fun _=>?_,?_⟩;(· ((try simp only [nc] at *);first|done|omega|exact ⟨by omega,rfl⟩|(simp (disch:=(first|omega|(simp only [lnS];omega))) only [rdT,rdS];first|done|omega|rfl|exact ⟨by omega,rfl⟩|(simp;done)|(simp;omega))|(intros;trivial)));try cbv)
  |(refine E.d 8 (by decide +kernel) ?_;cbv;(fail_if_success guard_target =~ False))
  |(refine E.d 9 (by decide +kernel) ?_;cbv;(fail_if_success guard_target =~ False))
  |(refine E.d 27 (by decide +kernel) ?_;cbv;(fail_if_success guard_target =~ False))
  | fail
 )
 all_goals (try simp only [nc] at *)
 all_goals (try simp (disch:=(first|omega|(simp only [lnS];omega))) only [rdT,rdS])
 all_goals first
  | (
    have e:eventM g d=none:=by (unfold eventM;split<;>split<;>first | rfl | omega)
    rw [e];simp;done)
  | (
    have e:eventM g d=some ⟨2,d.i,1,0,g.init.getD d.i.toNat 0⟩:=by (unfold eventM;split<;>split<;>first | rfl | omega)
    rw [e];simp;done)
  | (
    have e:eventM g d=some ((g.th.getD (d.t-1).toNat []).getD d.i.toNat ev0):=by (unfold eventM;split<;>split<;>first | rfl | omega)
    rw [e];simp;done)
  | skip
end Go.AL.Rl
namespace Go.AL.Rl
open Go Go.AL Go.Proofs
set_option maxRecDepth 100000
variable {γ:Nat→Option AV}
def sourceM (g:Gr) (d f:EId):Bool:=
 if readsM ((eventM g d).getD ev0)=true then (match eventM g f with | some w=>decide (f≠d) && writesM w && decide (w.loc=((eventM g d).getD ev0).loc) && decide (w.wr=((eventM g d).getD ev0).rd) | none=>false) else decide (f=id0)
theorem eid_iff (a b:EId):a=b↔a.t=b.t∧a.i=b.i:=⟨fun h=>by subst h;exact ⟨rfl,rfl⟩,fun h=>EId.ext' h.1 h.2⟩
theorem source_ok (g:Gr) (hg:Rd g) (d f:EId):Pure Try.prog γ false 20 [aGr g,aId d,aId f] (.b fun _=>sourceM g d f):=by
 refine Pure.go (ty:=ty) ty_eq mo Try.func20 rfl Try.ntmps20 Try.results20 Try.call20 (by simp) fun P C CQ D W F E hF=>?_
 cbv
 repeat' (first
  |(refine E.c (SCalls.of_le (rwrites_ok ((eventM g f).getD ev0)) ?_ ?_);(· (cbv;(try simp only [nc] at *);first|done|(simp;done)|(simp (disch:=(first|omega|(simp only [lnS];omega))) only [rdT,rdS,anT];first|done|omega|(refine ⟨?_,?_⟩<;>omega))|(simp (disch:=(first|omega|(simp only [lnS];omega))) [rdT,rdS];done)));cbv)
  |(refine E.c (SCalls.of_le (rreads_ok ((eventM g d).getD ev0)) ?_ ?_);(· (cbv;(try simp only [nc] at *);first|done|(simp;done)|(simp (disch:=(first|omega|(simp only [lnS];omega))) only [rdT,rdS,anT];first|done|omega|(refine ⟨?_,?_⟩<;>omega))|(simp (disch:=(first|omega|(simp only [lnS];omega))) [rdT,rdS];done)));cbv)
  |(refine E.c (SCalls.of_le (revent_ok g hg f) ?_ ?_);(· (cbv;(try simp only [nc] at *);first|done|(simp;done)|(simp (disch:=(first|omega|(simp only [lnS];omega))) only [rdT,rdS,anT];first|done|omega|(refine ⟨?_,?_⟩<;>omega))|(simp (disch:=(first|omega|(simp only [lnS];omega))) [rdT,rdS];done)));cbv)
  |(refine E.c (SCalls.of_le (revent_ok g hg d) ?_ ?_);(· (cbv;(try simp only [nc] at *);first|done|(simp;done)|(simp (disch:=(first|omega|(simp only [lnS];omega))) only [rdT,rdS,anT];first|done|omega|(refine ⟨?_,?_⟩<;>omega))|(simp (disch:=(first|omega|(simp only [lnS];omega))) [rdT,rdS];done)));cbv)
  |(refine ⟨fun _ h_s=>?_,fun _ h_s=>?_⟩<;>(cbv;(try simp only [nc] at *);try simp (disch:=(first|omega|(simp only [lnS];omega))) only [rdT,rdS,reduceCtorEq,trT] at h_s))
  |(refine hF ?_;intro _;clear hF)
  |(refine hF ?_;cbv;clear hF)
  |(refine ⟨fun _=>?_,?_⟩;(· ((try simp only [nc] at *);first|done|omega|exact ⟨by omega,rfl⟩|(simp (disch:=(first|omega|(simp only [lnS];omega))) only [rdT,rdS];first|done|omega|rfl|exact ⟨by omega,rfl⟩|(simp;done)|(simp;omega))|(intros;trivial)));try cbv)
  | fail
 )
 all_goals (try simp only [nc] at *)
 all_goals (try simp (disch:=(first|omega|(simp only [lnS];omega))) only [rdT,rdS])
 all_goals (unfold sourceM;cases hf:eventM g f<;>simp_all [eid_iff])
def cntE (x:Int) (l:List Ev):Nat:=l.countP fun e=>writesM e && decide (e.loc=x)
def cntT (x:Int) (ts:List (List Ev)):Nat:=(ts.map (cntE x)).sum
theorem take_succ' {α:Type} (l:List α) (i:Nat) (d:α) (h:i<l.length):l.take (i+1)=l.take i++[l.getD i d]:=by
 rw [List.take_succ_eq_append_getElem h];simp [h]
theorem cntE_succ (x:Int) (l:List Ev) (i:Nat) (h:i<l.length):cntE x (l.take (i+1))=cntE x (l.take i)+if (writesM (l.getD i ev0) && decide ((l.getD i ev0).loc=x))=true then 1 else 0:=by
 rw [take_succ' l i ev0 h,cntE,List.countP_append];simp [cntE,List.countP_cons]
theorem cntT_succ (x:Int) (ts:List (List Ev)) (t:Nat) (h:t<ts.length):cntT x (ts.take (t+1))=cntT x (ts.take t)+cntE x (ts.getD t []):=by
 rw [take_succ' ts t [] h,cntT,List.map_append,List.sum_append];simp [cntT]
theorem cntE_le (x:Int) (l:List Ev):cntE x l≤l.length:=List.countP_le_length
theorem cntE_take (x:Int) (l:List Ev) (i:Nat):cntE x (l.take i)≤l.length:=Nat.le_trans (cntE_le x _) (by simp;omega)
structure Short (g:Gr):Prop where
 th:g.th.length≤4
 init:g.init.length≤6
 ths:∀ l∈g.th,l.length≤14
theorem Short.at {g:Gr} (h:Short g) (t:Nat):(g.th.getD t []).length≤14:=by
 rcases Nat.lt_or_ge t g.th.length with h1 | h1
 ·exact h.ths _ (getD_mem h1)
 ·simp [List.getElem?_eq_none h1]
theorem cntT_le {ts:List (List Ev)} (x:Int) (h:∀ l∈ts,l.length≤14):cntT x ts≤14 * ts.length:=by
 induction ts with
 | nil=>simp [cntT]
 | cons l ts ih=>
  have:=ih fun l hl=>h l (by simp [hl])
  have h1:=cntE_le x l
  have h2:=h l (by simp)
  simp only [cntT,List.map_cons,List.sum_cons,List.length_cons] at this ⊢
  omega
theorem cntT_take {g:Gr} (h:Short g) (x:Int) (t:Nat):cntT x (g.th.take t)≤56:=by
 have h1:=cntT_le x (ts:=g.th.take t) fun l hl=>h.ths l (List.mem_of_mem_take hl)
 have h2:=h.th
 have h3:(g.th.take t).length≤g.th.length:=by simp;omega
 omega
def isW (g:Gr) (x:Int) (d:EId):Bool:=match eventM g d with | some e=>decide (d.t≠0) && writesM e && decide (e.loc=x) | none=>false
def orderedM (g:Gr) (x:Nat):Bool:=
 decide (∀ i<(g.ord.getD x []).length,isW g x ((g.ord.getD x []).getD i id0)=true∧∀ k<i,(g.ord.getD x []).getD k id0≠(g.ord.getD x []).getD i id0) && decide ((g.ord.getD x []).length=cntT x g.th)
theorem orderedM_no {g:Gr} {x:Nat} {l:List EId} (hl:g.ord.getD x []=l) (i:Nat) (hi:i<l.length) (h:¬ (isW g x (l.getD i id0)=true∧∀ k<i,l.getD k id0≠l.getD i id0)):orderedM g x=false:=by
 unfold orderedM
 rw [hl,Bool.and_eq_false_iff]
 left
 exact decide_eq_false fun hall=>h (hall i hi)
theorem ordered_ok (g:Gr) (hg:Rd g) (hs:Short g) (x:Nat) (hx:x<g.ord.length):Pure Try.prog γ false 21 [aGr g,.i fun _=>(x:Int)] (.b fun _=>orderedM g x):=by
 have hg2:=hg.ord
 have hs1:=hs.th
 have hol:((g.ord.getD x []).length:Int)≤9223372036854775807:=hg.ords _ (getD_mem hx)
 refine Pure.go (ty:=ty) ty_eq mo Try.func21 rfl Try.ntmps21 Try.results21 Try.call21 (by simp) fun P C CQ D W F E hF=>?_
 cbv
 refine E.loopS (ι:=Nat) (fun t=>t≤g.th.length) (fun t=>g.th.length-t) (fun t=>[(6,.i fun _=>((t:Nat):Int)),(5,.i fun _=>((cntT x (g.th.take t):Nat):Int))]) (fun t h=>h) 0 (fun _=>by first|rfl|simp) (Nat.zero_le _) ?_ fun t ht I hI=>?_
 ·cbv;simp [cntT]
 cbv
 refine ⟨fun _ h4=>?_,fun _ h4=>?_⟩
 ·(try simp only [nc] at *)
  simp (disch:=(first|omega|(simp only [lnS];omega))) only [rdT,rdS,reduceCtorEq,trT] at h4
  have hs2:=hs.at t
  have hct:=cntT_succ x g.th t (by omega)
  have hcl:=cntT_take hs x t
  cbv
  refine E.loopS (ι:=Nat) (fun i=>i≤(g.th.getD t []).length) (fun i=>(g.th.getD t []).length-i) (fun i=>[(7,.i fun _=>((i:Nat):Int)),(5,.i fun _=>((cntT x (g.th.take t)+cntE x ((g.th.getD t []).take i):Nat):Int))]) (fun i h=>h) 0 (fun _=>by first|rfl|simp) (Nat.zero_le _) ?_ fun i hi I2 hI2=>?_
  ·cbv;simp [cntE]
  cbv
  have hce:=cntE_succ x (g.th.getD t []) i
  have hcm:=cntE_take x (g.th.getD t []) i
  repeat' (first
   |(refine hI (t+1) ?_ ?_ ?_;rotate_left 1;(· ((try simp only [nc] at *);omega));(cbv;clear hI;(try clear hF);(try simp only [nc] at *);(try simp (disch:=(first|omega|(simp only [lnS];omega))) only [rdT,rdS,anT]));rotate_left 1;(try ((try simp only [nc] at *);omega)))
   |(refine hI2 (i+1) ?_ ?_ ?_;rotate_left 1;(· ((try simp only [nc] at *);omega));(cbv;clear hI2;(try clear hF);(try simp only [nc] at *);(try simp (disch:=(first|omega|(simp only [lnS];omega))) only [rdT,rdS,anT]));rotate_left 1;(try ((try simp only [nc] at *);omega)))
   |(refine E.c (SCalls.of_le (rwrites_ok ((g.th.getD t []).getD i ev0)) ?_ ?_);(· (cbv;(try simp only [nc] at *);first|done|(simp;done)|(simp (disch:=(first|omega|(simp only [lnS];omega))) only [rdT,rdS,anT];first|done|omega|(refine ⟨?_,?_⟩<;>omega))|(simp (disch:=(first|omega|(simp only [lnS];omega))) [rdT,rdS];done)));cbv)
   |(refine ⟨fun _ h_s=>?_,fun _ h_s=>?_⟩<;>(cbv;(try simp only [nc] at *);try simp (disch:=(first|omega|(simp only [lnS];omega))) only [rdT,rdS,reduceCtorEq,trT] at h_s))
   |(refine hF ?_;intro _;clear hF)
   |(refine hF ?_;cbv;clear hF)
   |(refine ⟨fun _=>?_,?_⟩;(· ((try simp only [nc] at *);first|done|omega|exact ⟨by omega,rfl⟩|(simp (disch:=(first|omega|(simp only [lnS];omega))) only [rdT,rdS];first|done|omega|rfl|exact ⟨by omega,rfl⟩|(simp;done)|(simp;omega))|(intros;trivial)));try cbv)
   |(refine E.d 8 (by decide +kernel) ?_;cbv;(fail_if_success guard_target =~ False))
   | fail
  )
  iterate 3
   ·rw [hce (by omega)]
    clear hct hce hcl hcm hs2
    generalize (g.th.getD t []).getD i ev0=e at *
    simp only [*,decide_true,decide_false,Bool.and_self,Bool.true_and,Bool.false_and,if_true,if_false,Bool.false_eq_true]
    omega
  ·rw [hct]
   have e:i=(g.th.getD t []).length:=by omega
   rw [e,List.take_length];simp
 ·(try simp only [nc] at *)
  simp (disch:=(first|omega|(simp only [lnS];omega))) only [rdT,rdS,reduceCtorEq,trT] at h4
  have ht':t=g.th.length:=by omega
  subst ht'
  rw [List.take_length]
  cbv
  refine ⟨fun _=>?_,?_⟩
  ·((try simp only [nc] at *);first|done|omega|exact ⟨by omega,rfl⟩|(simp (disch:=(first|omega|(simp only [lnS];omega))) only [rdT,rdS];first|done|omega|rfl|exact ⟨by omega,rfl⟩|(simp;done)|(simp;omega))|(intros;trivial))
  try cbv
  refine ⟨fun _=>?_,?_⟩
  ·((try simp only [nc] at *);first|done|omega|exact ⟨by omega,rfl⟩|(simp (disch:=(first|omega|(simp only [lnS];omega))) only [rdT,rdS];first|done|omega|rfl|exact ⟨by omega,rfl⟩|(simp;done)|(simp;omega))|(intros;trivial))
  try cbv
  simp only [nct,idss_get g.ord x hx,at_l]
  have hcl:cntT x g.th≤56:=by have:=cntT_take hs x g.th.length;rwa [List.take_length] at this
  generalize hl:g.ord.getD x []=l at *
  refine E.loopS (ι:=Nat) (fun i=>i≤l.length∧(∀ j<i,isW g x (l.getD j id0)=true∧∀ k<j,l.getD k id0≠l.getD j id0)) (fun i=>l.length-i) (fun i=>[(9,.i fun _=>((i:Nat):Int))]) (fun i h=>h) 0 (fun _=>by first|rfl|simp) ⟨Nat.zero_le _,?_⟩ ?_ fun i hi I hI=>?_
  ·intro j hj;omega
  ·cbv;simp
  obtain ⟨hi,hok⟩:=hi
  cbv
  refine ⟨fun _ h5=>?_,fun _ h5=>?_⟩
  ·(try simp only [nc] at *)
   simp (disch:=(first|omega|(simp only [lnS];omega))) only [rdT,rdS,reduceCtorEq,trT] at h5
   cbv
   repeat' (first
    |(refine E.c (SCalls.of_le (rwrites_ok ((eventM g (l.getD i id0)).getD ev0)) ?_ ?_);(· (cbv;(try simp only [nc] at *);first|done|(simp;done)|(simp (disch:=(first|omega|(simp only [lnS];omega))) only [rdT,rdS,anT];first|done|omega|(refine ⟨?_,?_⟩<;>omega))|(simp (disch:=(first|omega|(simp only [lnS];omega))) [rdT,rdS];done)));cbv)
    |((first|refine E.c (SCalls.of_le (revent_ok g hg (l.getD i id0)) ?_ ?_)|refine E.q (QCalls.of_le (revent_ok g hg (l.getD i id0)) ?_ ?_));(· (cbv;(try simp only [nc] at *);first|done|(simp;done)|(simp (disch:=(first|omega|(simp only [lnS];omega))) only [rdT,rdS,anT];first|done|omega|(refine ⟨?_,?_⟩<;>omega))|(simp (disch:=(first|omega|(simp only [lnS];omega))) [rdT,rdS];done)));cbv)
    |(refine E.de 12 [] [none] (by decide +kernel) ?_;cbv;(fail_if_success guard_target =~ False))
    |(refine ⟨fun _ h_s=>?_,fun _ h_s=>?_⟩<;>(cbv;(try simp only [nc] at *);try simp (disch:=(first|omega|(simp only [lnS];omega))) only [rdT,rdS,reduceCtorEq,trT] at h_s))
    |(refine hF ?_;intro _;clear hF)
    |(refine hF ?_;cbv;clear hF)
    |(refine ⟨fun _=>?_,?_⟩;(· ((try simp only [nc] at *);first|done|omega|exact ⟨by omega,rfl⟩|(simp (disch:=(first|omega|(simp only [lnS];omega))) only [rdT,rdS];first|done|omega|rfl|exact ⟨by omega,rfl⟩|(simp;done)|(simp;omega))|(intros;trivial)));try cbv)
    |(refine E.d 8 (by decide +kernel) ?_;cbv;(fail_if_success guard_target =~ False))
    | fail
   )
   all_goals (try simp only [nc] at *)
   all_goals (try simp (disch:=(first|omega|(simp only [lnS];omega))) only [rdT,rdS])
   rotate_right 1
   ·have hw:isW g x (l.getD i id0)=true:=by
     unfold isW;cases hf:eventM g (l.getD i id0)<;>simp_all
    refine E.loopS (ι:=Nat) (fun k=>k≤i∧(∀ j<k,l.getD j id0≠l.getD i id0)) (fun k=>i-k) (fun k=>[(12,.i fun _=>((k:Nat):Int))]) (fun k h=>h) 0 (fun _=>by first|rfl|simp) ⟨Nat.zero_le _,?_⟩ ?_ fun k hk I2 hI2=>?_
    ·intro j hj;omega
    ·cbv;simp
    obtain ⟨hk,hokk⟩:=hk
    cbv
    repeat' (first
     |(refine hI (i+1) ?_ ?_ ?_;rotate_left 1;(· ((try simp only [nc] at *);omega));(cbv;clear hI;(try clear hF);(try simp only [nc] at *);(try simp (disch:=(first|omega|(simp only [lnS];omega))) only [rdT,rdS,anT]));rotate_left 1;(try ((try simp only [nc] at *);omega)))
     |(refine hI2 (k+1) ?_ ?_ ?_;rotate_left 1;(· ((try simp only [nc] at *);omega));(cbv;clear hI2;(try clear hF);(try simp only [nc] at *);(try simp (disch:=(first|omega|(simp only [lnS];omega))) only [rdT,rdS,anT]));rotate_left 1;(try ((try simp only [nc] at *);omega)))
     |(refine ⟨fun _ h_s=>?_,fun _ h_s=>?_⟩<;>(cbv;(try simp only [nc] at *);try simp (disch:=(first|omega|(simp only [lnS];omega))) only [rdT,rdS,reduceCtorEq,trT] at h_s))
     |(refine hF ?_;intro _;clear hF)
     |(refine hF ?_;cbv;clear hF)
     |(refine ⟨fun _=>?_,?_⟩;(· ((try simp only [nc] at *);first|done|omega|exact ⟨by omega,rfl⟩|(simp (disch:=(first|omega|(simp only [lnS];omega))) only [rdT,rdS];first|done|omega|rfl|exact ⟨by omega,rfl⟩|(simp;done)|(simp;omega))|(intros;trivial)));try cbv)
     |(refine E.d 8 (by decide +kernel) ?_;cbv;(fail_if_success guard_target =~ False))
     | fail
    )
    all_goals (try simp only [nc] at *)
    all_goals (try simp (disch:=(first|omega|(simp only [lnS];omega))) only [rdT,rdS])
    ·refine orderedM_no hl i (by omega) fun h=>h.2 k ?_ ((eid_iff _ _).2 ?_)
     ·omega
     ·simp_all
    ·refine ⟨by omega,fun j hj=>?_⟩
     rcases Nat.lt_or_ge j k with h | h
     ·exact hokk j h
     ·obtain rfl:j=k:=by omega
      intro he
      rw [eid_iff] at he
      simp_all
    ·omega
    ·refine ⟨by omega,fun j hj=>?_⟩
     rcases Nat.lt_or_ge j i with h | h
     ·exact hok j h
     ·obtain rfl:j=i:=by omega
      exact ⟨hw,fun k hk=>hokk k (by omega)⟩
    ·omega
   all_goals
    refine orderedM_no hl i (by omega) fun h=>?_
    have h:=h.1
    unfold isW at h
    cases hf:eventM g (l.getD i id0)<;>simp_all
  ·(try simp only [nc] at *)
   simp (disch:=(first|omega|(simp only [lnS];omega))) only [rdT,rdS,reduceCtorEq,trT] at h5
   cbv
   repeat' (first
    |(refine ⟨fun _ h_s=>?_,fun _ h_s=>?_⟩<;>(cbv;(try simp only [nc] at *);try simp (disch:=(first|omega|(simp only [lnS];omega))) only [rdT,rdS,reduceCtorEq,trT] at h_s))
    |(refine hF ?_;intro _;clear hF)
    |(refine hF ?_;cbv;clear hF)
    |(refine ⟨fun _=>?_,?_⟩;(· ((try simp only [nc] at *);first|done|omega|exact ⟨by omega,rfl⟩|(simp (disch:=(first|omega|(simp only [lnS];omega))) only [rdT,rdS];first|done|omega|rfl|exact ⟨by omega,rfl⟩|(simp;done)|(simp;omega))|(intros;trivial)));try cbv)
    |(refine E.d 8 (by decide +kernel) ?_;cbv;(fail_if_success guard_target =~ False))
    | fail
   )
   all_goals (try simp only [nc] at *)
   all_goals (try simp (disch:=(first|omega|(simp only [lnS];omega))) only [rdT,rdS])
   have e:i=l.length:=by omega
   subst e
   unfold orderedM
   rw [hl,decide_eq_true (p:=∀ i<l.length,_) hok]
   simp
   omega
def eventsOk (g:Gr):Prop:=∀ t<g.th.length,(g.fr.getD t []).length=(g.th.getD t []).length∧∀ i<(g.th.getD t []).length,fineM g.init.length ((g.th.getD t []).getD i ev0)=true
def sourcesOk (g:Gr):Prop:=∀ t<g.th.length,∀ i<(g.th.getD t []).length,sourceM g ⟨t+1,i⟩ ((g.fr.getD t []).getD i id0)=true
def ordersOk (g:Gr):Prop:=∀ x<g.init.length,orderedM g x=true
instance (g:Gr):Decidable (eventsOk g):=inferInstanceAs (Decidable (∀ t<g.th.length,_))
instance (g:Gr):Decidable (sourcesOk g):=inferInstanceAs (Decidable (∀ t<g.th.length,_))
instance (g:Gr):Decidable (ordersOk g):=inferInstanceAs (Decidable (∀ x<g.init.length,_))
structure GOk (g:Gr):Prop where
 short:Short g
 lfr:g.fr.length=g.th.length
 lord:g.ord.length=g.init.length
 events:eventsOk g
 sources:sourcesOk g
 orders:ordersOk g
instance (g:Gr):Decidable (Short g):=decidable_of_iff (g.th.length≤4∧g.init.length≤6∧∀ l∈g.th,l.length≤14) ⟨fun h=>⟨h.1,h.2.1,h.2.2⟩,fun h=>⟨h.1,h.2,h.3⟩⟩
instance (g:Gr):Decidable (GOk g):=decidable_of_iff (Short g∧g.fr.length=g.th.length∧g.ord.length=g.init.length∧eventsOk g∧sourcesOk g∧ordersOk g) ⟨fun h=>⟨h.1,h.2.1,h.2.2.1,h.2.2.2.1,h.2.2.2.2.1,h.2.2.2.2.2⟩,fun h=>⟨h.1,h.2,h.3,h.4,h.5,h.6⟩⟩
def gcheckM (g:Gr):Int:=if Short g then (if GOk g then 0 else 2) else 3
theorem gcheck3 {g:Gr} (h:¬ Short g):gcheckM g=3:=if_neg h
theorem gcheck2 {g:Gr} (h:Short g) (h2:¬ GOk g):gcheckM g=2:=by unfold gcheckM;rw [if_pos h,if_neg h2]
theorem gcheck0 {g:Gr} (h2:GOk g):gcheckM g=0:=by unfold gcheckM;rw [if_pos h2.short,if_pos h2]
end Go.AL.Rl
namespace Go.AL.Rl
open Go Go.AL Go.Proofs
set_option maxRecDepth 100000
variable {γ:Nat→Option AV}
theorem check14_ok (g:Gr) (hg:Rd g):Pure Try.prog γ false 7 [aGr g] (.i fun _=>gcheckM g):=by
 have hg1:=hg.th
 have hg2:=hg.init
 refine Pure.go (ty:=ty) ty_eq mo Try.func7 rfl Try.ntmps7 Try.results7 Try.call7 (by simp) fun P C CQ D W F E hF=>?_
 cbv
 repeat' (first
  |(refine ⟨fun _ h_s=>?_,fun _ h_s=>?_⟩<;>(cbv;(try simp only [nc] at *);try simp (disch:=(first|omega|(simp only [lnS];omega))) only [rdT,rdS,reduceCtorEq,trT] at h_s))
  |(refine hF ?_;intro _;clear hF)
  |(refine hF ?_;cbv;clear hF)
  |(refine ⟨fun _=>?_,?_⟩;(· ((try simp only [nc] at *);first|done|omega|exact ⟨by omega,rfl⟩|(simp (disch:=(first|omega|(simp only [lnS];omega))) only [rdT,rdS];first|done|omega|rfl|exact ⟨by omega,rfl⟩|(simp;done)|(simp;omega))|(intros;trivial)));try cbv)
  |(refine E.d 9 (by decide +kernel) ?_;cbv;(fail_if_success guard_target =~ False))
  |(refine E.d 12 (by decide +kernel) ?_;cbv;(fail_if_success guard_target =~ False))
  |(refine E.d 13 (by decide +kernel) ?_;cbv;(fail_if_success guard_target =~ False))
  | fail
 )
 all_goals (try simp only [nc] at *)
 all_goals (try simp (disch:=(first|omega|(simp only [lnS];omega))) only [rdT,rdS])
 ·exact (gcheck3 fun h=>by have:=h.th;omega).symm
 ·exact (gcheck3 fun h=>by have:=h.init;omega).symm
 refine E.loopS (ι:=Nat) (fun t=>t≤g.th.length∧(∀ j<t,(g.th.getD j []).length≤14)) (fun t=>g.th.length-t) (fun t=>[(3,.i fun _=>((t:Nat):Int))]) (fun t h=>h) 0 (fun _=>by first|rfl|simp) ⟨Nat.zero_le _,?_⟩ ?_ fun t ht I hI=>?_
 ·intro j hj;omega
 ·cbv;simp
 obtain ⟨ht,hok⟩:=ht
 cbv
 refine ⟨fun _ h4=>?_,fun _ h4=>?_⟩
 ·(try simp only [nc] at *)
  simp (disch:=(first|omega|(simp only [lnS];omega))) only [rdT,rdS,reduceCtorEq,trT] at h4
  cbv
  repeat' (first
   |(refine hI (t+1) ?_ ?_ ?_;rotate_left 1;(· ((try simp only [nc] at *);omega));(cbv;clear hI;(try clear hF);(try simp only [nc] at *);(try simp (disch:=(first|omega|(simp only [lnS];omega))) only [rdT,rdS,anT]));rotate_left 1;(try ((try simp only [nc] at *);omega)))
   |(refine ⟨fun _ h_s=>?_,fun _ h_s=>?_⟩<;>(cbv;(try simp only [nc] at *);try simp (disch:=(first|omega|(simp only [lnS];omega))) only [rdT,rdS,reduceCtorEq,trT] at h_s))
   |(refine hF ?_;intro _;clear hF)
   |(refine hF ?_;cbv;clear hF)
   |(refine ⟨fun _=>?_,?_⟩;(· ((try simp only [nc] at *);first|done|omega|exact ⟨by omega,rfl⟩|(simp (disch:=(first|omega|(simp only [lnS];omega))) only [rdT,rdS];first|done|omega|rfl|exact ⟨by omega,rfl⟩|(simp;done)|(simp;omega))|(intros;trivial)));try cbv)
   |(refine E.d 9 (by decide +kernel) ?_;cbv;(fail_if_success guard_target =~ False))
   |(refine E.d 12 (by decide +kernel) ?_;cbv;(fail_if_success guard_target =~ False))
   |(refine E.d 13 (by decide +kernel) ?_;cbv;(fail_if_success guard_target =~ False))
   | fail
  )
  all_goals (try simp only [nc] at *)
  all_goals (try simp (disch:=(first|omega|(simp only [lnS];omega))) only [rdT,rdS])
  ·exact (gcheck3 fun h=>by have:=h.at t;omega).symm
  ·refine ⟨by omega,fun j hj=>?_⟩
   rcases Nat.lt_or_ge j t with h | h
   ·exact hok j h
   ·obtain rfl:j=t:=by omega
    omega
  ·omega
 clear hI
 (try simp only [nc] at *)
 simp (disch:=(first|omega|(simp only [lnS];omega))) only [rdT,rdS,reduceCtorEq,trT] at h4
 have e:t=g.th.length:=by omega
 subst e
 (try simp only [nc] at *)
 have hsh:Short g:=⟨by omega,by omega,fun l hl=>by
  obtain ⟨j,hj,rfl⟩:=List.getElem_of_mem hl
  simpa [hj] using hok j hj⟩
 cbv
 repeat' (first
  |(refine ⟨fun _ h_s=>?_,fun _ h_s=>?_⟩<;>(cbv;(try simp only [nc] at *);try simp (disch:=(first|omega|(simp only [lnS];omega))) only [rdT,rdS,reduceCtorEq,trT] at h_s))
  |(refine hF ?_;intro _;clear hF)
  |(refine hF ?_;cbv;clear hF)
  |(refine ⟨fun _=>?_,?_⟩;(· ((try simp only [nc] at *);first|done|omega|exact ⟨by omega,rfl⟩|(simp (disch:=(first|omega|(simp only [lnS];omega))) only [rdT,rdS];first|done|omega|rfl|exact ⟨by omega,rfl⟩|(simp;done)|(simp;omega))|(intros;trivial)));try cbv)
  |(refine E.d 9 (by decide +kernel) ?_;cbv;(fail_if_success guard_target =~ False))
  |(refine E.d 12 (by decide +kernel) ?_;cbv;(fail_if_success guard_target =~ False))
  |(refine E.d 13 (by decide +kernel) ?_;cbv;(fail_if_success guard_target =~ False))
  | fail
 )
 all_goals (try simp only [nc] at *)
 all_goals (try simp (disch:=(first|omega|(simp only [lnS];omega))) only [rdT,rdS])
 ·exact (gcheck2 hsh fun h=>by have:=h.lfr;omega).symm
 ·exact (gcheck2 hsh fun h=>by have:=h.lord;omega).symm
 have hlf:g.fr.length=g.th.length:=by omega
 have hlo:g.ord.length=g.init.length:=by omega
 -- events
 refine E.loopS (ι:=Nat) (fun t=>t≤g.th.length∧(∀ j<t,(g.fr.getD j []).length=(g.th.getD j []).length∧∀ i<(g.th.getD j []).length,fineM g.init.length ((g.th.getD j []).getD i ev0)=true)) (fun t=>g.th.length-t) (fun t=>[(4,.i fun _=>((t:Nat):Int))]) (fun t h=>h) 0 (fun _=>by first|rfl|simp) ⟨Nat.zero_le _,?_⟩ ?_ fun t ht I hI=>?_
 ·intro j hj;omega
 ·cbv;simp
 obtain ⟨ht,hok⟩:=ht
 cbv
 refine ⟨fun _ h4=>?_,fun _ h4=>?_⟩
 ·(try simp only [nc] at *)
  simp (disch:=(first|omega|(simp only [lnS];omega))) only [rdT,rdS,reduceCtorEq,trT] at h4
  have hht:=hsh.at t
  cbv
  repeat' (first
   |(refine ⟨fun _ h_s=>?_,fun _ h_s=>?_⟩<;>(cbv;(try simp only [nc] at *);try simp (disch:=(first|omega|(simp only [lnS];omega))) only [rdT,rdS,reduceCtorEq,trT] at h_s))
   |(refine hF ?_;intro _;clear hF)
   |(refine hF ?_;cbv;clear hF)
   |(refine ⟨fun _=>?_,?_⟩;(· ((try simp only [nc] at *);first|done|omega|exact ⟨by omega,rfl⟩|(simp (disch:=(first|omega|(simp only [lnS];omega))) only [rdT,rdS];first|done|omega|rfl|exact ⟨by omega,rfl⟩|(simp;done)|(simp;omega))|(intros;trivial)));try cbv)
   |(refine E.d 9 (by decide +kernel) ?_;cbv;(fail_if_success guard_target =~ False))
   |(refine E.d 12 (by decide +kernel) ?_;cbv;(fail_if_success guard_target =~ False))
   |(refine E.d 13 (by decide +kernel) ?_;cbv;(fail_if_success guard_target =~ False))
   | fail
  )
  all_goals (try simp only [nc] at *)
  all_goals (try simp (disch:=(first|omega|(simp only [lnS];omega))) only [rdT,rdS])
  ·exact (gcheck2 hsh fun h=>by have:=(h.events t (by omega)).1;omega).symm
  refine E.loopS (ι:=Nat) (fun i=>i≤(g.th.getD t []).length∧(∀ j<i,fineM g.init.length ((g.th.getD t []).getD j ev0)=true)) (fun i=>(g.th.getD t []).length-i) (fun i=>[(5,.i fun _=>((i:Nat):Int))]) (fun i h=>h) 0 (fun _=>by first|rfl|simp) ⟨Nat.zero_le _,?_⟩ ?_ fun i hi I2 hI2=>?_
  ·intro j hj;omega
  ·cbv;simp
  obtain ⟨hi,hoki⟩:=hi
  cbv
  repeat' (first
   |(refine hI (t+1) ?_ ?_ ?_;rotate_left 1;(· ((try simp only [nc] at *);omega));(cbv;clear hI;(try clear hF);(try simp only [nc] at *);(try simp (disch:=(first|omega|(simp only [lnS];omega))) only [rdT,rdS,anT]));rotate_left 1;(try ((try simp only [nc] at *);omega)))
   |(refine hI2 (i+1) ?_ ?_ ?_;rotate_left 1;(· ((try simp only [nc] at *);omega));(cbv;clear hI2;(try clear hF);(try simp only [nc] at *);(try simp (disch:=(first|omega|(simp only [lnS];omega))) only [rdT,rdS,anT]));rotate_left 1;(try ((try simp only [nc] at *);omega)))
   |((first|refine E.c (SCalls.of_le (fine_ok ((g.th.getD t []).getD i ev0) g) ?_ ?_)|refine E.q (QCalls.of_le (fine_ok ((g.th.getD t []).getD i ev0) g) ?_ ?_));(· (cbv;(try simp only [nc] at *);first|done|(simp;done)|(simp (disch:=(first|omega|(simp only [lnS];omega))) only [rdT,rdS,anT];first|done|omega|(refine ⟨?_,?_⟩<;>omega))|(simp (disch:=(first|omega|(simp only [lnS];omega))) [rdT,rdS];done)));cbv)
   |(refine ⟨fun _ h_s=>?_,fun _ h_s=>?_⟩<;>(cbv;(try simp only [nc] at *);try simp (disch:=(first|omega|(simp only [lnS];omega))) only [rdT,rdS,reduceCtorEq,trT] at h_s))
   |(refine hF ?_;intro _;clear hF)
   |(refine hF ?_;cbv;clear hF)
   |(refine ⟨fun _=>?_,?_⟩;(· ((try simp only [nc] at *);first|done|omega|exact ⟨by omega,rfl⟩|(simp (disch:=(first|omega|(simp only [lnS];omega))) only [rdT,rdS];first|done|omega|rfl|exact ⟨by omega,rfl⟩|(simp;done)|(simp;omega))|(intros;trivial)));try cbv)
   |(refine E.d 9 (by decide +kernel) ?_;cbv;(fail_if_success guard_target =~ False))
   |(refine E.d 12 (by decide +kernel) ?_;cbv;(fail_if_success guard_target =~ False))
   |(refine E.d 13 (by decide +kernel) ?_;cbv;(fail_if_success guard_target =~ False))
   | fail
  )
  all_goals (try simp only [nc] at *)
  all_goals (try simp (disch:=(first|omega|(simp only [lnS];omega))) only [rdT,rdS])
  ·refine (gcheck2 hsh fun h=>?_).symm
   have:=(h.events t (by omega)).2 i (by omega)
   simp_all
  ·refine ⟨by omega,fun j hj=>?_⟩
   rcases Nat.lt_or_ge j i with h | h
   ·exact hoki j h
   ·obtain rfl:j=i:=by omega
    assumption
  ·omega
  ·refine ⟨by omega,fun j hj=>?_⟩
   rcases Nat.lt_or_ge j t with h | h
   ·exact hok j h
   ·obtain rfl:j=t:=by omega
    exact ⟨by omega,fun k hk=>hoki k (by omega)⟩
  ·omega
 clear hI
 (try simp only [nc] at *)
 simp (disch:=(first|omega|(simp only [lnS];omega))) only [rdT,rdS,reduceCtorEq,trT] at h4
 have e:t=g.th.length:=by omega
 subst e
 have hev:eventsOk g:=hok
 cbv
 -- sources
 refine E.loopS (ι:=Nat) (fun t=>t≤g.th.length∧(∀ j<t,∀ i<(g.th.getD j []).length,sourceM g ⟨j+1,i⟩ ((g.fr.getD j []).getD i id0)=true)) (fun t=>g.th.length-t) (fun t=>[(6,.i fun _=>((t:Nat):Int))]) (fun t h=>h) 0 (fun _=>by first|rfl|simp) ⟨Nat.zero_le _,?_⟩ ?_ fun t ht I hI=>?_
 ·intro j hj;omega
 ·cbv;simp
 obtain ⟨ht,hok2⟩:=ht
 cbv
 refine ⟨fun _ h5=>?_,fun _ h5=>?_⟩
 ·(try simp only [nc] at *)
  simp (disch:=(first|omega|(simp only [lnS];omega))) only [rdT,rdS,reduceCtorEq,trT] at h5
  have hht:=hsh.at t
  cbv
  refine E.loopS (ι:=Nat) (fun i=>i≤(g.th.getD t []).length∧(∀ j<i,sourceM g ⟨t+1,j⟩ ((g.fr.getD t []).getD j id0)=true)) (fun i=>(g.th.getD t []).length-i) (fun i=>[(7,.i fun _=>((i:Nat):Int))]) (fun i h=>h) 0 (fun _=>by first|rfl|simp) ⟨Nat.zero_le _,?_⟩ ?_ fun i hi I2 hI2=>?_
  ·intro j hj;omega
  ·cbv;simp
  obtain ⟨hi,hoki⟩:=hi
  have hfl:=(hev t (by ((try simp only [nc] at *);omega))).1
  cbv
  repeat' (first
   |(refine hI (t+1) ?_ ?_ ?_;rotate_left 1;(· ((try simp only [nc] at *);omega));(cbv;clear hI;(try clear hF);(try simp only [nc] at *);(try simp (disch:=(first|omega|(simp only [lnS];omega))) only [rdT,rdS,anT]));rotate_left 1;(try ((try simp only [nc] at *);omega)))
   |(refine hI2 (i+1) ?_ ?_ ?_;rotate_left 1;(· ((try simp only [nc] at *);omega));(cbv;clear hI2;(try clear hF);(try simp only [nc] at *);(try simp (disch:=(first|omega|(simp only [lnS];omega))) only [rdT,rdS,anT]));rotate_left 1;(try ((try simp only [nc] at *);omega)))
   |((first|refine E.c (SCalls.of_le (source_ok g hg ⟨t+1,i⟩ ((g.fr.getD t []).getD i id0)) ?_ ?_)|refine E.q (QCalls.of_le (source_ok g hg ⟨t+1,i⟩ ((g.fr.getD t []).getD i id0)) ?_ ?_));(· (cbv;(try simp only [nc] at *);first|done|(simp;done)|(simp (disch:=(first|omega|(simp only [lnS];omega))) only [rdT,rdS,anT];first|done|omega|(refine ⟨?_,?_⟩<;>omega))|(simp (disch:=(first|omega|(simp only [lnS];omega))) [rdT,rdS];done)));cbv)
   |(refine ⟨fun _ h_s=>?_,fun _ h_s=>?_⟩<;>(cbv;(try simp only [nc] at *);try simp (disch:=(first|omega|(simp only [lnS];omega))) only [rdT,rdS,reduceCtorEq,trT] at h_s))
   |(refine hF ?_;intro _;clear hF)
   |(refine hF ?_;cbv;clear hF)
   |(refine ⟨fun _=>?_,?_⟩;(· ((try simp only [nc] at *);first|done|omega|exact ⟨by omega,rfl⟩|(simp (disch:=(first|omega|(simp only [lnS];omega))) only [rdT,rdS];first|done|omega|rfl|exact ⟨by omega,rfl⟩|(simp;done)|(simp;omega))|(intros;trivial)));try cbv)
   |(refine E.d 9 (by decide +kernel) ?_;cbv;(fail_if_success guard_target =~ False))
   |(refine E.d 12 (by decide +kernel) ?_;cbv;(fail_if_success guard_target =~ False))
   |(refine E.d 13 (by decide +kernel) ?_;cbv;(fail_if_success guard_target =~ False))
   | fail
  )
  all_goals (try simp only [nc] at *)
  all_goals (try simp (disch:=(first|omega|(simp only [lnS];omega))) only [rdT,rdS])
  ·refine (gcheck2 hsh fun h=>?_).symm
   have:=h.sources t (by omega) i (by omega)
   simp_all
  ·refine ⟨by omega,fun j hj=>?_⟩
   rcases Nat.lt_or_ge j i with h | h
   ·exact hoki j h
   ·obtain rfl:j=i:=by omega
    assumption
  ·omega
  ·refine ⟨by omega,fun j hj=>?_⟩
   rcases Nat.lt_or_ge j t with h | h
   ·exact hok2 j h
   ·obtain rfl:j=t:=by omega
    exact fun k hk=>hoki k (by omega)
  ·omega
 clear hI
 (try simp only [nc] at *)
 simp (disch:=(first|omega|(simp only [lnS];omega))) only [rdT,rdS,reduceCtorEq,trT] at h5
 have e:t=g.th.length:=by omega
 subst e
 have hso:sourcesOk g:=hok2
 cbv
 refine E.loopS (ι:=Nat) (fun x=>x≤g.init.length∧(∀ j<x,orderedM g j=true)) (fun x=>g.init.length-x) (fun x=>[(8,.i fun _=>((x:Nat):Int))]) (fun x h=>h) 0 (fun _=>by first|rfl|simp) ⟨Nat.zero_le _,?_⟩ ?_ fun x hx I hI=>?_
 ·intro j hj;omega
 ·cbv;simp
 obtain ⟨hx,hok3⟩:=hx
 cbv
 repeat' (first
  |(refine hI (x+1) ?_ ?_ ?_;rotate_left 1;(· ((try simp only [nc] at *);omega));(cbv;clear hI;(try clear hF);(try simp only [nc] at *);(try simp (disch:=(first|omega|(simp only [lnS];omega))) only [rdT,rdS,anT]));rotate_left 1;(try ((try simp only [nc] at *);omega)))
  |(refine E.c (SCalls.of_le (ordered_ok g hg hsh x (by omega)) ?_ ?_);(· (cbv;(try simp only [nc] at *);first|done|(simp;done)|(simp (disch:=(first|omega|(simp only [lnS];omega))) only [rdT,rdS,anT];first|done|omega|(refine ⟨?_,?_⟩<;>omega))|(simp (disch:=(first|omega|(simp only [lnS];omega))) [rdT,rdS];done)));cbv)
  |(refine ⟨fun _ h_s=>?_,fun _ h_s=>?_⟩<;>(cbv;(try simp only [nc] at *);try simp (disch:=(first|omega|(simp only [lnS];omega))) only [rdT,rdS,reduceCtorEq,trT] at h_s))
  |(refine hF ?_;intro _;clear hF)
  |(refine hF ?_;cbv;clear hF)
  |(refine ⟨fun _=>?_,?_⟩;(· ((try simp only [nc] at *);first|done|omega|exact ⟨by omega,rfl⟩|(simp (disch:=(first|omega|(simp only [lnS];omega))) only [rdT,rdS];first|done|omega|rfl|exact ⟨by omega,rfl⟩|(simp;done)|(simp;omega))|(intros;trivial)));try cbv)
  |(refine E.d 9 (by decide +kernel) ?_;cbv;(fail_if_success guard_target =~ False))
  |(refine E.d 12 (by decide +kernel) ?_;cbv;(fail_if_success guard_target =~ False))
  |(refine E.d 13 (by decide +kernel) ?_;cbv;(fail_if_success guard_target =~ False))
  | fail
 )
 all_goals (try simp only [nc] at *)
 all_goals (try simp (disch:=(first|omega|(simp only [lnS];omega))) only [rdT,rdS])
 ·refine (gcheck2 hsh fun h=>?_).symm
  have:=h.orders x (by omega)
  simp_all
 ·refine ⟨by omega,fun j hj=>?_⟩
  rcases Nat.lt_or_ge j x with h | h
  ·exact hok3 j h
  ·obtain rfl:j=x:=by omega
   assumption
 ·omega
 ·refine (gcheck0 ⟨hsh,by omega,by omega,hev,hso,fun j hj=>hok3 j (by omega)⟩).symm
end Go.AL.Rl
namespace Go.AL.Rl
open Go Go.AL Go.Proofs
set_option maxRecDepth 100000
variable {γ:Nat→Option AV}
theorem gevent_ok (g:Gr) (hg:Rd g) (d:EId):Pure Try.prog γ false 70 [aGr g,aId d] (.tup [aEv ((eventM g d).getD ev0),.b fun _=>(eventM g d).isSome]):=by
 have hg1:=hg.init
 have hg2:=hg.th
 refine Pure.go (ty:=ty) ty_eq mo Try.func70 rfl Try.ntmps70 Try.results70 Try.call70 (by simp) fun P C CQ D W F E hF=>?_
 cbv
 repeat' (first
  |(refine ⟨fun _ h_s=>?_,fun _ h_s=>?_⟩<;>(cbv;(try simp only [nc] at *);try simp (disch:=(first|omega|(simp only [lnS];omega))) only [rdT,rdS,reduceCtorEq,trT] at h_s))
  |(refine hF ?_;intro _;clear hF)
  |(refine hF ?_;cbv;clear hF)
  |(refine ⟨fun _=>?_,?_⟩;(· ((try simp only [nc] at *);first|done|omega|exact ⟨by omega,rfl⟩|(simp (disch:=(first|omega|(simp only [lnS];omega))) only [rdT,rdS];first|done|omega|rfl|exact ⟨by omega,rfl⟩|(simp;done)|(simp;omega))|(intros;trivial)));try cbv)
  |(refine E.d 8 (by decide +kernel) ?_;cbv;(fail_if_success guard_target =~ False))
  |(refine E.d 9 (by decide +kernel) ?_;cbv;(fail_if_success guard_target =~ False))
  |(refine E.d 10 (by decide +kernel) ?_;cbv;(fail_if_success guard_target =~ False))
  | fail
 )
 all_goals (try simp only [nc] at *)
 all_goals (try simp (disch:=(first|omega|(simp only [lnS];omega))) only [rdT,rdS])
 all_goals first
  | (
    have e:eventM g d=none:=by (unfold eventM;split<;>split<;>first | rfl | omega)
    rw [e];simp;done)
  | (
    have e:eventM g d=some ⟨2,d.i,1,0,g.init.getD d.i.toNat 0⟩:=by (unfold eventM;split<;>split<;>first | rfl | omega)
    rw [e];simp;done)
  | (
    have e:eventM g d=some ((g.th.getD (d.t-1).toNat []).getD d.i.toNat ev0):=by (unfold eventM;split<;>split<;>first | rfl | omega)
    rw [e];simp;done)
  | skip
theorem rightFrom_ok (g:Gr) (hg:Rd g) (d f:EId):Pure Try.prog γ false 50 [aGr g,aId d,aId f] (.b fun _=>sourceM g d f):=by
 refine Pure.go (ty:=ty) ty_eq mo Try.func50 rfl Try.ntmps50 Try.results50 Try.call50 (by simp) fun P C CQ D W F E hF=>?_
 cbv
 repeat' (first
  |(refine E.c (SCalls.of_le (gwrites_ok ((eventM g f).getD ev0)) ?_ ?_);(· (cbv;(try simp only [nc] at *);first|done|(simp;done)|(simp (disch:=(first|omega|(simp only [lnS];omega))) only [rdT,rdS,anT];first|done|omega|(refine ⟨?_,?_⟩<;>omega))|(simp (disch:=(first|omega|(simp only [lnS];omega))) [rdT,rdS];done)));cbv)
  |(refine E.c (SCalls.of_le (greads_ok ((eventM g d).getD ev0)) ?_ ?_);(· (cbv;(try simp only [nc] at *);first|done|(simp;done)|(simp (disch:=(first|omega|(simp only [lnS];omega))) only [rdT,rdS,anT];first|done|omega|(refine ⟨?_,?_⟩<;>omega))|(simp (disch:=(first|omega|(simp only [lnS];omega))) [rdT,rdS];done)));cbv)
  |(refine E.c (SCalls.of_le (gevent_ok g hg f) ?_ ?_);(· (cbv;(try simp only [nc] at *);first|done|(simp;done)|(simp (disch:=(first|omega|(simp only [lnS];omega))) only [rdT,rdS,anT];first|done|omega|(refine ⟨?_,?_⟩<;>omega))|(simp (disch:=(first|omega|(simp only [lnS];omega))) [rdT,rdS];done)));cbv)
  |(refine E.c (SCalls.of_le (gevent_ok g hg d) ?_ ?_);(· (cbv;(try simp only [nc] at *);first|done|(simp;done)|(simp (disch:=(first|omega|(simp only [lnS];omega))) only [rdT,rdS,anT];first|done|omega|(refine ⟨?_,?_⟩<;>omega))|(simp (disch:=(first|omega|(simp only [lnS];omega))) [rdT,rdS];done)));cbv)
  |(refine ⟨fun _ h_s=>?_,fun _ h_s=>?_⟩<;>(cbv;(try simp only [nc] at *);try simp (disch:=(first|omega|(simp only [lnS];omega))) only [rdT,rdS,reduceCtorEq,trT] at h_s))
  |(refine hF ?_;intro _;clear hF)
  |(refine hF ?_;cbv;clear hF)
  |(refine ⟨fun _=>?_,?_⟩;(· ((try simp only [nc] at *);first|done|omega|exact ⟨by omega,rfl⟩|(simp (disch:=(first|omega|(simp only [lnS];omega))) only [rdT,rdS];first|done|omega|rfl|exact ⟨by omega,rfl⟩|(simp;done)|(simp;omega))|(intros;trivial)));try cbv)
  | fail
 )
 all_goals (try simp only [nc] at *)
 all_goals (try simp (disch:=(first|omega|(simp only [lnS];omega))) only [rdT,rdS])
 all_goals (unfold sourceM;cases hf:eventM g f<;>simp_all [eid_iff])
def longE (l:List Ev):Bool:=decide (14<(l.length:Int))
theorem tooLong1_ok (l:List Ev):Pure Try.prog γ false 68 [.vs 5 fun _=>evs l] (.b fun _=>longE l):=by
 refine Pure.go (ty:=ty) ty_eq mo Try.func68 rfl Try.ntmps68 Try.results68 Try.call68 (by simp) fun P C CQ D W F E hF=>?_
 cbv
 repeat' (first
  |(refine ⟨fun _ h_s=>?_,fun _ h_s=>?_⟩<;>(cbv;(try simp only [nc] at *);try simp (disch:=(first|omega|(simp only [lnS];omega))) only [rdT,rdS,reduceCtorEq,trT] at h_s))
  |(refine hF ?_;intro _;clear hF)
  |(refine hF ?_;cbv;clear hF)
  |(refine ⟨fun _=>?_,?_⟩;(· ((try simp only [nc] at *);first|done|omega|exact ⟨by omega,rfl⟩|(simp (disch:=(first|omega|(simp only [lnS];omega))) only [rdT,rdS];first|done|omega|rfl|exact ⟨by omega,rfl⟩|(simp;done)|(simp;omega))|(intros;trivial)));try cbv)
  | fail
 )
 all_goals (try simp only [nc] at *)
 all_goals (try simp (disch:=(first|omega|(simp only [lnS];omega))) only [rdT,rdS])
 simp [longE]
def firstM {α:Type} (p:α→Bool) (l:List α):Int:=match l.findIdx? p with | some i=>i | none=>-1
theorem firstM_at {α:Type} {p:α→Bool} {l:List α} (d:α) (i:Nat) (hi:i<l.length) (h:p (l.getD i d)=true) (h2:∀ j<i,p (l.getD j d)=false):firstM p l=i:=by
 unfold firstM
 have:l.findIdx? p=some i:=by
  rw [List.findIdx?_eq_some_iff_getElem]
  refine ⟨hi,by simpa [hi] using h,fun j hj=>?_⟩
  have hjl:j<l.length:=by omega
  have:=h2 j hj
  simp only [List.getD_eq_getElem?_getD,List.getElem?_eq_getElem hjl,Option.getD_some] at this
  simp [this]
 rw [this]
theorem firstM_none {α:Type} {p:α→Bool} {l:List α} (d:α) (h:∀ j<l.length,p (l.getD j d)=false):firstM p l = -1:=by
 unfold firstM
 have:l.findIdx? p=none:=by
  rw [List.findIdx?_eq_none_iff]
  intro a ha
  obtain ⟨j,hj,rfl⟩:=List.getElem_of_mem ha
  simpa [hj] using h j hj
 rw [this]
theorem firstM_any {α:Type} {p:α→Bool} {l:List α}:decide (0≤firstM p l)=l.any p:=by
 unfold firstM
 cases h:l.findIdx? p with
 | none=>rw [List.findIdx?_eq_none_iff] at h;simp;exact h
 | some i=>
  rw [List.findIdx?_eq_some_iff_getElem] at h
  obtain ⟨h1,h2,_⟩:=h
  simp
  exact ⟨_,List.getElem_mem h1,h2⟩
theorem indexFunc_ok (l:List (List Ev)) (hl:(l.length:Int)≤9223372036854775807):Pure Try.prog γ false 94 [.vs 1 fun _=>evss l,.fn 68 [] []] (.i fun _=>firstM longE l):=by
 refine Pure.go (ty:=ty) ty_eq mo Try.func94 rfl Try.ntmps94 Try.results94 Try.call94 (by simp) fun P C CQ D W F E hF=>?_
 cbv
 refine E.loopS (ι:=Nat) (fun i=>i≤l.length∧(∀ j<i,longE (l.getD j [])=false)) (fun i=>l.length-i) (fun i=>[(8,.i fun _=>((i:Nat):Int))]) (fun i h=>h) 0 (fun _=>by first|rfl|simp) ⟨Nat.zero_le _,?_⟩ ?_ fun i hi I hI=>?_
 ·intro j hj;omega
 ·cbv;simp
 obtain ⟨hi,hok⟩:=hi
 cbv
 repeat' (first
  |(refine hI (i+1) ?_ ?_ ?_;rotate_left 1;(· ((try simp only [nc] at *);omega));(cbv;clear hI;(try clear hF);(try simp only [nc] at *);(try simp (disch:=(first|omega|(simp only [lnS];omega))) only [rdT,rdS,anT]));rotate_left 1;(try ((try simp only [nc] at *);omega)))
  |(refine E.c (SCalls.of_le (tooLong1_ok (l.getD i [])) ?_ ?_);(· (cbv;(try simp only [nc] at *);first|done|(simp;done)|(simp (disch:=(first|omega|(simp only [lnS];omega))) only [rdT,rdS,anT];first|done|omega|(refine ⟨?_,?_⟩<;>omega))|(simp (disch:=(first|omega|(simp only [lnS];omega))) [rdT,rdS];done)));cbv)
  |(refine ⟨fun _ h_s=>?_,fun _ h_s=>?_⟩<;>(cbv;(try simp only [nc] at *);try simp (disch:=(first|omega|(simp only [lnS];omega))) only [rdT,rdS,reduceCtorEq,trT] at h_s))
  |(refine hF ?_;intro _;clear hF)
  |(refine hF ?_;cbv;clear hF)
  |(refine ⟨fun _=>?_,?_⟩;(· ((try simp only [nc] at *);first|done|omega|exact ⟨by omega,rfl⟩|(simp (disch:=(first|omega|(simp only [lnS];omega))) only [rdT,rdS];first|done|omega|rfl|exact ⟨by omega,rfl⟩|(simp;done)|(simp;omega))|(intros;trivial)));try cbv)
  | fail
 )
 all_goals (try simp only [nc] at *)
 all_goals (try simp (disch:=(first|omega|(simp only [lnS];omega))) only [rdT,rdS])
 ·exact (firstM_at [] i (by omega) (by assumption) hok).symm
 ·refine ⟨by omega,fun j hj=>?_⟩
  rcases Nat.lt_or_ge j i with h | h
  ·exact hok j h
  ·obtain rfl:j=i:=by omega
   assumption
 ·omega
 ·exact (firstM_none [] fun j hj=>hok j (by omega)).symm
theorem containsFunc_ok (l:List (List Ev)) (hl:(l.length:Int)≤9223372036854775807):Pure Try.prog γ false 67 [.vs 1 fun _=>evss l,.fn 68 [] []] (.b fun _=>l.any longE):=by
 refine Pure.go (ty:=ty) ty_eq mo Try.func67 rfl Try.ntmps67 Try.results67 Try.call67 (by simp) fun P C CQ D W F E hF=>?_
 cbv
 repeat' (first
  |(refine E.c (SCalls.of_le (indexFunc_ok l hl) ?_ ?_);(· (cbv;(try simp only [nc] at *);first|done|(simp;done)|(simp (disch:=(first|omega|(simp only [lnS];omega))) only [rdT,rdS,anT];first|done|omega|(refine ⟨?_,?_⟩<;>omega))|(simp (disch:=(first|omega|(simp only [lnS];omega))) [rdT,rdS];done)));cbv)
  |(refine ⟨fun _ h_s=>?_,fun _ h_s=>?_⟩<;>(cbv;(try simp only [nc] at *);try simp (disch:=(first|omega|(simp only [lnS];omega))) only [rdT,rdS,reduceCtorEq,trT] at h_s))
  |(refine hF ?_;intro _;clear hF)
  |(refine hF ?_;cbv;clear hF)
  |(refine ⟨fun _=>?_,?_⟩;(· ((try simp only [nc] at *);first|done|omega|exact ⟨by omega,rfl⟩|(simp (disch:=(first|omega|(simp only [lnS];omega))) only [rdT,rdS];first|done|omega|rfl|exact ⟨by omega,rfl⟩|(simp;done)|(simp;omega))|(intros;trivial)));try cbv)
  | fail
 )
 all_goals (try simp only [nc] at *)
 all_goals (try simp (disch:=(first|omega|(simp only [lnS];omega))) only [rdT,rdS])
 exact firstM_any
theorem short_iff (g:Gr):Short g↔g.th.length≤4∧g.init.length≤6∧g.th.any longE=false:=by
 constructor
 ·intro h
  refine ⟨h.th,h.init,?_⟩
  rw [List.any_eq_false]
  intro l hl
  have:=h.ths l hl
  simp [longE];omega
 ·rintro ⟨h1,h2,h3⟩
  refine ⟨h1,h2,fun l hl=>?_⟩
  rw [List.any_eq_false] at h3
  have:=h3 l hl
  simp [longE] at this;omega
theorem tooLong_ok (g:Gr) (hg:Rd g):Pure Try.prog γ false 48 [aGr g] (.b fun _=>!decide (Short g)):=by
 have hg2:=hg.th
 refine Pure.go (ty:=ty) ty_eq mo Try.func48 rfl Try.ntmps48 Try.results48 Try.call48 (by simp) fun P C CQ D W F E hF=>?_
 cbv
 repeat' (first
  |((first|refine E.c (SCalls.of_le (containsFunc_ok g.th hg2) ?_ ?_)|refine E.q (QCalls.of_le (containsFunc_ok g.th hg2) ?_ ?_));(· (cbv;(try simp only [nc] at *);first|done|(simp;done)|(simp (disch:=(first|omega|(simp only [lnS];omega))) only [rdT,rdS,anT];first|done|omega|(refine ⟨?_,?_⟩<;>omega))|(simp (disch:=(first|omega|(simp only [lnS];omega))) [rdT,rdS];done)));cbv)
  |(refine ⟨fun _ h_s=>?_,fun _ h_s=>?_⟩<;>(cbv;(try simp only [nc] at *);try simp (disch:=(first|omega|(simp only [lnS];omega))) only [rdT,rdS,reduceCtorEq,trT] at h_s))
  |(refine hF ?_;intro _;clear hF)
  |(refine hF ?_;cbv;clear hF)
  |(refine ⟨fun _=>?_,?_⟩;(· ((try simp only [nc] at *);first|done|omega|exact ⟨by omega,rfl⟩|(simp (disch:=(first|omega|(simp only [lnS];omega))) only [rdT,rdS];first|done|omega|rfl|exact ⟨by omega,rfl⟩|(simp;done)|(simp;omega))|(intros;trivial)));try cbv)
  | fail
 )
 all_goals (try simp only [nc] at *)
 all_goals (try simp (disch:=(first|omega|(simp only [lnS];omega))) only [rdT,rdS])
 all_goals
  have key:decide (Short g)=(decide (g.th.length≤4) && decide (g.init.length≤6) && !(g.th.any longE)):=by
   rw [Bool.eq_iff_iff,decide_eq_true_iff,short_iff];simp only [Bool.and_eq_true,decide_eq_true_eq,Bool.not_eq_true',and_assoc]
  rw [key]
  cases hA:g.th.any longE
  all_goals (simp only [Bool.not_true,Bool.not_false,Bool.and_true,Bool.and_false])
  all_goals (try rw [decide_eq_true (show g.th.length≤4 by omega)])
  all_goals (try rw [decide_eq_true (show g.init.length≤6 by omega)])
  all_goals (try rw [decide_eq_false (show ¬ g.th.length≤4 by omega)])
  all_goals (try rw [decide_eq_false (show ¬ g.init.length≤6 by omega)])
  all_goals simp_all
end Go.AL.Rl
namespace Go.AL.Rl
open Go Go.AL Go.Proofs
set_option maxRecDepth 100000
variable {γ:Nat→Option AV}
theorem knums_id (d:EId):knums [.i,.i] (aId d)=[d.t,d.i]:=rfl
theorem mfind_ids (l:List EId) (d:EId):mfind [.i,.i] (ids l) [d.t,d.i]=l.findIdx? fun x=>decide (x=d):=by
 unfold mfind ids
 rw [LV.l_of,List.findIdx?_map]
 congr 1
 funext x
 simp only [Function.comp,knums_id]
 by_cases h:x=d
 ·subst h;simp
 ·simp [h]
  intro h1
  exact fun h2=>h (EId.ext' h1 h2)
theorem mok_ids (l:List EId):mok [.i,.i] (ids l):=by
 intro v hv
 simp only [ids,LV.l_of,List.mem_map] at hv
 obtain ⟨x,_,rfl⟩:=hv
 rfl
abbrev mapB (m:List (EId × Int)):Blk:=.map (fun _=>ids (m.map (·.1))) fun _=>is (m.map (·.2))
def wsE (t:Nat) (l:List Ev) (n:Nat):List (EId × Int):=(List.range n).flatMap fun i=>if writesM (l.getD i ev0) then [(⟨t+1,i⟩,(l.getD i ev0).loc)] else []
def wsT (g:Gr) (t:Nat):List (EId × Int):=(List.range t).flatMap fun k=>wsE k (g.th.getD k []) (g.th.getD k []).length
theorem wsE_succ (t:Nat) (l:List Ev) (n:Nat):wsE t l (n+1)=wsE t l n++if writesM (l.getD n ev0) then [(⟨t+1,n⟩,(l.getD n ev0).loc)] else []:=by
 unfold wsE;rw [List.range_succ,List.flatMap_append];simp
theorem wsT_succ (g:Gr) (t:Nat):wsT g (t+1)=wsT g t++wsE t (g.th.getD t []) (g.th.getD t []).length:=by
 unfold wsT;rw [List.range_succ,List.flatMap_append];simp
theorem wsE_mem {t:Nat} {l:List Ev} {n:Nat} {p:EId × Int}:p∈wsE t l n↔∃ i<n,writesM (l.getD i ev0)=true∧p=(⟨t+1,i⟩,(l.getD i ev0).loc):=by
 unfold wsE
 simp only [List.mem_flatMap,List.mem_range]
 constructor
 ·rintro ⟨i,hi,h⟩
  split at h
  ·exact ⟨i,hi,by assumption,by simpa using h⟩
  ·cases h
 ·rintro ⟨i,hi,h1,h2⟩
  exact ⟨i,hi,by rw [if_pos h1];simp [h2]⟩
theorem wsT_mem {g:Gr} {t:Nat} {p:EId × Int}:p∈wsT g t↔∃ k<t,∃ i<(g.th.getD k []).length,writesM ((g.th.getD k []).getD i ev0)=true∧p=(⟨k+1,i⟩,((g.th.getD k []).getD i ev0).loc):=by
 unfold wsT
 simp only [List.mem_flatMap,List.mem_range,wsE_mem]
theorem fresh_find {l:List EId} {d:EId} (h:d∉l):(l.findIdx? fun x=>decide (x=d))=none:=by
 rw [List.findIdx?_eq_none_iff]
 intro x hx
 simp
 rintro rfl
 exact h hx
theorem mput_new (l:List EId) (d:EId) (h:d∉l) (k:List Int) (hk:k=[d.t,d.i]) (v:AV) (hv:v=aId d):mputK (mfind [.i,.i] (ids l) k) (ids l) v=ids (l++[d]):=by
 subst hk;subst hv
 rw [mfind_ids,fresh_find h]
 simp [mputK,ids]
theorem mputV_new (l:List EId) (d:EId) (h:d∉l) (k:List Int) (hk:k=[d.t,d.i]) (vs:List Int) (n:Int) (v:AV) (hv:v=.i fun _=>n):mputV (mfind [.i,.i] (ids l) k) (is vs) v=is (vs++[n]):=by
 subst hk;subst hv
 rw [mfind_ids,fresh_find h]
 simp [mputV,is]
theorem ws_fresh (g:Gr) (t i:Nat):(⟨t+1,i⟩:EId)∉(wsT g t++wsE t (g.th.getD t []) i).map (·.1):=by
 intro h
 obtain ⟨p,hp,he⟩:=List.mem_map.1 h
 rcases List.mem_append.1 hp with hp | hp
 ·obtain ⟨k,hk,j,_,_,rfl⟩:=wsT_mem.1 hp
  have:=congrArg EId.t he
  simp at this;omega
 ·obtain ⟨j,hj,_,rfl⟩:=wsE_mem.1 hp
  have:=congrArg EId.i he
  simp at this;omega
def qsT (g:Gr) (x:Nat):List (EId × Int):=(List.range x).flatMap fun k=>(g.ord.getD k []).map fun d=>(d,(k:Int))
def qsE (g:Gr) (x i:Nat):List (EId × Int):=((g.ord.getD x []).take i).map fun d=>(d,(x:Int))
theorem qsT_succ (g:Gr) (x:Nat):qsT g (x+1)=qsT g x++qsE g x (g.ord.getD x []).length:=by
 unfold qsT qsE;rw [List.range_succ,List.flatMap_append];simp
theorem qsE_succ (g:Gr) (x i:Nat) (h:i<(g.ord.getD x []).length):qsE g x (i+1)=qsE g x i++[((g.ord.getD x []).getD i id0,(x:Int))]:=by
 unfold qsE;rw [take_succ' _ i id0 h,List.map_append];simp
def strike:List (EId × Int)→List (EId × Int)→Option (List (EId × Int))
 | [],m=>some m
 | q :: qs,m=>if q∈m then strike qs (m.erase q) else none
theorem strike_app:∀ (a b m:List (EId × Int)),strike (a++b) m=(strike a m).bind (strike b)
 | [],b,m=>rfl
 | q :: a,b,m=>by
  simp only [List.cons_append,strike]
  split
  ·exact strike_app a b _
  ·rfl
theorem strike_perm:∀ (q m:List (EId × Int)),strike q m=some []↔q.Perm m
 | [],m=>by
  simp only [strike,Option.some.injEq]
  constructor
  ·rintro rfl;exact .refl _
  ·intro h;exact h.symm.eq_nil
 | a :: q,m=>by
  simp only [strike]
  split
  ·rename_i h
   rw [strike_perm q]
   constructor
   ·intro h2;exact (h2.cons a).trans (List.perm_cons_erase h).symm
   ·intro h2;exact List.Perm.cons_inv (h2.trans (List.perm_cons_erase h))
  ·rename_i h
   constructor
   ·intro h2;cases h2
   ·intro h2;exact absurd (h2.subset (by simp)) h
def Keyed (m:List (EId × Int)):Prop:=(m.map (·.1)).Nodup
def mlook (d:EId):List (EId × Int)→Option Int
 | []=>none
 | p :: m=>if p.1=d then some p.2 else mlook d m
abbrev mfd (m:List (EId × Int)) (d:EId):Option Nat:=(m.map (·.1)).findIdx? fun x=>decide (x=d)
theorem mfd_cons (p:EId × Int) (m:List (EId × Int)) (d:EId):mfd (p :: m) d=if p.1=d then some 0 else (mfd m d).map (· + 1):=by
 simp only [mfd,List.map_cons,List.findIdx?_cons]
 by_cases h:p.1=d<;>simp [h]
theorem mlook_isSome (d:EId):∀ (m:List (EId × Int)),(mfd m d).isSome=(mlook d m).isSome
 | []=>rfl
 | p :: m=>by
  rw [mfd_cons,mlook]
  split
  ·rfl
  ·rw [Option.isSome_map,mlook_isSome d m]
theorem mlook_val (d:EId):∀ (m:List (EId × Int)) (i:Nat),mfd m d=some i→i<m.length∧mlook d m=some ((m.map (·.2)).getD i 0)
 | [],i,h=>by simp [mfd] at h
 | p :: m,i,h=>by
  rw [mfd_cons] at h
  rw [mlook]
  split at h
  ·rename_i e;cases h;rw [if_pos e];simp
  ·rename_i e
   rw [Option.map_eq_some_iff] at h
   obtain ⟨j,hj,rfl⟩:=h
   obtain ⟨h1,h2⟩:=mlook_val d m j hj
   rw [if_neg e,h2]
   exact ⟨by simp;omega,by simp⟩
theorem mlook_mem (d:EId) (x:Int):∀ (m:List (EId × Int)),Keyed m→(mlook d m=some x↔(d,x)∈m)
 | [],_=>by simp [mlook]
 | p :: m,hk=>by
  have hk':Keyed m:=(List.nodup_cons.1 hk).2
  have hn:p.1∉m.map (·.1):=(List.nodup_cons.1 hk).1
  rw [mlook,List.mem_cons]
  split
  ·rename_i e
   constructor
   ·intro h;left;cases h;subst e;rfl
   ·rintro (h | h)
    ·rw [←h]
    ·exact absurd (e ▸ List.mem_map.2 ⟨_,h,rfl⟩:p.1∈m.map (·.1)) hn
  ·rename_i e
   rw [mlook_mem d x m hk']
   constructor
   ·exact .inr
   ·rintro (h | h)
    ·exact absurd (by rw [←h]) e
    ·exact h
theorem mlook_del (d:EId) (x:Int):∀ (m:List (EId × Int)) (i:Nat),mfd m d=some i→mlook d m=some x→m.eraseIdx i=m.erase (d,x)
 | [],i,h,_=>by simp [mfd] at h
 | p :: m,i,h,h2=>by
  rw [mfd_cons] at h
  rw [mlook] at h2
  split at h
  ·rename_i e
   rw [if_pos e] at h2
   cases h;cases h2
   have:p=(d,p.2):=by rw [←e]
   rw [this];simp
  ·rename_i e
   rw [if_neg e] at h2
   rw [Option.map_eq_some_iff] at h
   obtain ⟨j,hj,rfl⟩:=h
   have ih:=mlook_del d x m j hj h2
   have hne:¬ (p == (d,x))=true:=by
    intro h;rw [beq_iff_eq] at h;exact e (by rw [h])
   rw [List.eraseIdx_cons_succ,ih,List.erase_cons_tail hne]
theorem lk_some (m:List (EId × Int)) (d:EId) (k:List Int) (hk:k=[d.t,d.i]):(mfind [.i,.i] (ids (m.map (·.1))) k).isSome=(mlook d m).isSome:=by
 subst hk;rw [mfind_ids];exact mlook_isSome d m
theorem lk_val (m:List (EId × Int)) (d:EId) (k:List Int) (hk:k=[d.t,d.i]) (z:AV) (hz:(z.at 0).asI=0):((mval (mfind [.i,.i] (ids (m.map (·.1))) k) (is (m.map (·.2))) z).at 0).asI=(mlook d m).getD 0:=by
 subst hk;rw [mfind_ids]
 show ((mval (mfd m d) _ z).at 0).asI=_
 cases h:mfd m d with
 | none=>
  have:=mlook_isSome d m
  rw [h] at this
  cases h2:mlook d m with
  | none=>exact hz
  | some v=>rw [h2] at this;cases this
 | some i=>
  obtain ⟨h1,h2⟩:=mlook_val d m i h
  rw [h2]
  simp only [mval]
  rw [is_get _ i (by simpa using h1)];rfl
theorem lk_del (m:List (EId × Int)) (d:EId) (x:Int) (k:List Int) (hk:k=[d.t,d.i]) (h:mlook d m=some x) :
  mdel (mfind [.i,.i] (ids (m.map (·.1))) k) (ids (m.map (·.1)))=ids ((m.erase (d,x)).map (·.1))∧mdel (mfind [.i,.i] (ids (m.map (·.1))) k) (is (m.map (·.2)))=is ((m.erase (d,x)).map (·.2)):=by
 subst hk;rw [mfind_ids]
 show mdel (mfd m d) _=_∧mdel (mfd m d) _=_
 have h1:=mlook_isSome d m
 rw [h] at h1
 cases hf:mfd m d with
 | none=>rw [hf] at h1;cases h1
 | some i=>
  have:=mlook_del d x m i hf h
  rw [←this]
  simp only [mdel,ids,is,LV.l_of]
  constructor<;>(rw [map_erase,map_erase])
theorem keyed_erase {m:List (EId × Int)} (h:Keyed m) (p:EId × Int):Keyed (m.erase p):=List.Nodup.sublist (List.Sublist.map _ List.erase_sublist) h
theorem is_vals (l:List Int):∀ v∈(is l).l,v=ckv .i (fun _=>v) 0:=by
 intro v hv
 simp only [is,LV.l_of,List.mem_map] at hv
 obtain ⟨x,_,rfl⟩:=hv
 rfl
theorem strike_no {q1 q2 m m1:List (EId × Int)} {p:EId × Int} (h:strike q1 m=some m1) (hp:p∉m1):¬ (q1++p :: q2).Perm m:=by
 intro hq
 have:=(strike_perm _ _).2 hq
 rw [strike_app,h,Option.bind_some,strike,if_neg hp] at this
 cases this
theorem qsT_split (g:Gr) (x i:Nat) (hx:x<g.ord.length) (hi:i<(g.ord.getD x []).length):∃ r,qsT g g.ord.length=(qsT g x++qsE g x i)++((g.ord.getD x []).getD i id0,(x:Int)) :: r:=by
 have h1:∀ n,∃ r,qsT g (x+1+n)=qsT g (x+1)++r:=by
  intro n
  induction n with
  | zero=>exact ⟨[],by simp⟩
  | succ n ih=>obtain ⟨r,hr⟩:=ih;exact ⟨r++qsE g (x+1+n) (g.ord.getD (x+1+n) []).length,by rw [←Nat.add_assoc,qsT_succ,hr,List.append_assoc]⟩
 have h2:∀ n,∃ r,i+1+n≤(g.ord.getD x []).length→qsE g x (i+1+n)=qsE g x (i+1)++r:=by
  intro n
  induction n with
  | zero=>exact ⟨[],by simp⟩
  | succ n ih=>
   obtain ⟨r,hr⟩:=ih
   refine ⟨r++[((g.ord.getD x []).getD (i+1+n) id0,(x:Int))],fun h=>?_⟩
   rw [←Nat.add_assoc,qsE_succ g x _ (by omega),hr (by omega),List.append_assoc]
 obtain ⟨r1,hr1⟩:=h1 (g.ord.length-(x+1))
 obtain ⟨r2,hr2⟩:=h2 ((g.ord.getD x []).length-(i+1))
 have hr2:=hr2 (by omega)
 rw [show x+1+(g.ord.length-(x+1))=g.ord.length by omega] at hr1
 rw [show i+1+((g.ord.getD x []).length-(i+1))=(g.ord.getD x []).length by omega] at hr2
 refine ⟨r2++r1,?_⟩
 rw [hr1,qsT_succ,hr2,qsE_succ g x i hi]
 simp
theorem wsE_keyed (t:Nat) (l:List Ev):∀ n,Keyed (wsE t l n)
 | 0=>by simp [wsE,Keyed]
 | n+1=>by
  rw [wsE_succ]
  unfold Keyed
  rw [List.map_append,List.nodup_append]
  refine ⟨wsE_keyed t l n,by split<;>simp,?_⟩
  intro a ha b hb
  obtain ⟨p,hp,rfl⟩:=List.mem_map.1 ha
  obtain ⟨i,hi,_,rfl⟩:=wsE_mem.1 hp
  split at hb
  ·simp at hb;subst hb;intro h;have:=congrArg EId.i h;simp at this;omega
  ·simp at hb
theorem wsT_keyed (g:Gr):∀ t,Keyed (wsT g t)
 | 0=>by simp [wsT,Keyed]
 | t+1=>by
  rw [wsT_succ]
  unfold Keyed
  rw [List.map_append,List.nodup_append]
  refine ⟨wsT_keyed g t,wsE_keyed _ _ _,?_⟩
  intro a ha b hb
  obtain ⟨p,hp,rfl⟩:=List.mem_map.1 ha
  obtain ⟨q,hq,rfl⟩:=List.mem_map.1 hb
  obtain ⟨k,hk,j,_,_,rfl⟩:=wsT_mem.1 hp
  obtain ⟨j',_,_,rfl⟩:=wsE_mem.1 hq
  intro h;have:=congrArg EId.t h;simp at this;omega
theorem knums_i2 (a b:Unit→Int):knums [.i,.i] (.agg [.i a,.i b])=[a (),b ()]:=rfl
theorem rightOrder_ok (g:Gr) (hg:Rd g) (hs:Short g):Pure Try.prog γ false 51 [aGr g] (.b fun _=>decide ((qsT g g.ord.length).Perm (wsT g g.th.length))):=by
 have hs1:=hs.th
 have hg2:=hg.ord
 skip
 refine Pure.go (ty:=ty) ty_eq mo Try.func51 rfl Try.ntmps51 Try.results51 Try.call51 (by simp) fun P C CQ D W F E hF=>?_
 cbv
 refine E.loopS (ι:=Nat) (fun t=>t≤g.th.length) (fun t=>g.th.length-t) (fun t=>[(18,.i fun _=>((t:Nat):Int))]) (fun t h=>h.set 1 (mapB (wsT g t))) 0 (fun _=>by first|rfl|simp) (Nat.zero_le _) ?_ fun t ht I hI=>?_
 ·cbv;simp [wsT,ids,is,LV.of]
 cbv
 refine ⟨fun _ h4=>?_,fun _ h4=>?_⟩
 ·(try simp only [nc] at *)
  simp (disch:=(first|omega|(simp only [lnS];omega))) only [rdT,rdS,reduceCtorEq,trT] at h4
  have hht:=hs.at t
  cbv
  repeat' (first
   |(refine ⟨fun _ h_s=>?_,fun _ h_s=>?_⟩<;>(cbv;(try simp only [nc] at *);try simp (disch:=(first|omega|(simp only [lnS];omega))) only [rdT,rdS,reduceCtorEq,trT] at h_s))
   |(refine hF ?_;intro _;clear hF)
   |(refine hF ?_;cbv;clear hF)
   |(refine ⟨fun _=>?_,?_⟩;(· ((try simp only [nc] at *);first|done|omega|exact ⟨by omega,rfl⟩|(simp (disch:=(first|omega|(simp only [lnS];omega))) only [rdT,rdS];first|done|omega|rfl|exact ⟨by omega,rfl⟩|(simp;done)|(simp;omega))|(intros;trivial)|exact mok_ids _));try cbv)
   | fail
  )
  refine E.loopS (ι:=Nat) (fun i=>i≤(g.th.getD t []).length) (fun i=>(g.th.getD t []).length-i) (fun i=>[(25,.i fun _=>((i:Nat):Int))]) (fun i h=>h.set 1 (mapB (wsT g t++wsE t (g.th.getD t []) i))) 0 (fun _=>by first|rfl|simp) (Nat.zero_le _) ?_ fun i hi I2 hI2=>?_
  ·cbv;simp [wsE]
  cbv
  repeat' (first
   |(refine hI (t+1) ?_ ?_ ?_;rotate_left 1;(· ((try simp only [nc] at *);omega));(cbv;clear hI;(try clear hF);(try simp only [nc] at *);(try simp (disch:=(first|omega|(simp only [lnS];omega))) only [rdT,rdS,anT]));rotate_left 1;(try ((try simp only [nc] at *);omega)))
   |(refine hI2 (i+1) ?_ ?_ ?_;rotate_left 1;(· ((try simp only [nc] at *);omega));(cbv;clear hI2;(try clear hF);(try simp only [nc] at *);(try simp (disch:=(first|omega|(simp only [lnS];omega))) only [rdT,rdS,anT]));rotate_left 1;(try ((try simp only [nc] at *);omega)))
   |(refine E.c (SCalls.of_le (gwrites_ok ((g.th.getD t []).getD i ev0)) ?_ ?_);(· (cbv;(try simp only [nc] at *);first|done|(simp;done)|(simp (disch:=(first|omega|(simp only [lnS];omega))) only [rdT,rdS,anT];first|done|omega|(refine ⟨?_,?_⟩<;>omega))|(simp (disch:=(first|omega|(simp only [lnS];omega))) [rdT,rdS];done)));cbv)
   |(refine ⟨fun _ h_s=>?_,fun _ h_s=>?_⟩<;>(cbv;(try simp only [nc] at *);try simp (disch:=(first|omega|(simp only [lnS];omega))) only [rdT,rdS,reduceCtorEq,trT] at h_s))
   |(refine hF ?_;intro _;clear hF)
   |(refine hF ?_;cbv;clear hF)
   |(refine ⟨fun _=>?_,?_⟩;(· ((try simp only [nc] at *);first|done|omega|exact ⟨by omega,rfl⟩|(simp (disch:=(first|omega|(simp only [lnS];omega))) only [rdT,rdS];first|done|omega|rfl|exact ⟨by omega,rfl⟩|(simp;done)|(simp;omega))|(intros;trivial)|exact mok_ids _));try cbv)
   | fail
  )
  all_goals (try simp only [nc] at *)
  all_goals (try simp (disch:=(first|omega|(simp only [lnS];omega))) only [rdT,rdS])
  ·refine ⟨by omega,?_,?_⟩
   ·refine (mput_new _ ⟨t+1,i⟩ (ws_fresh g t i) _ rfl _ rfl).trans ?_
    rw [wsE_succ,if_pos (by assumption)]
    simp
   ·refine (mputV_new _ ⟨t+1,i⟩ (ws_fresh g t i) _ rfl _ ((g.th.getD t []).getD i ev0).loc _ rfl).trans ?_
    rw [wsE_succ,if_pos (by assumption)]
    simp
  ·refine ⟨by omega,?_⟩
   rw [wsE_succ,if_neg (by simp_all)]
   simp
  ·have e:i=(g.th.getD t []).length:=by omega
   rw [e,wsT_succ]
   exact ⟨by omega,rfl,rfl⟩
 clear hI
 (try simp only [nc] at *)
 simp (disch:=(first|omega|(simp only [lnS];omega))) only [rdT,rdS,reduceCtorEq,trT] at h4
 have e:t=g.th.length:=by omega
 subst e
 cbv
 repeat' (first
  |(refine ⟨fun _ h_s=>?_,fun _ h_s=>?_⟩<;>(cbv;(try simp only [nc] at *);try simp (disch:=(first|omega|(simp only [lnS];omega))) only [rdT,rdS,reduceCtorEq,trT] at h_s))
  |(refine hF ?_;intro _;clear hF)
  |(refine hF ?_;cbv;clear hF)
  |(refine ⟨fun _=>?_,?_⟩;(· ((try simp only [nc] at *);first|done|omega|exact ⟨by omega,rfl⟩|(simp (disch:=(first|omega|(simp only [lnS];omega))) only [rdT,rdS];first|done|omega|rfl|exact ⟨by omega,rfl⟩|(simp;done)|(simp;omega))|(intros;trivial)|exact mok_ids _));try cbv)
  | fail
 )
 generalize hm0:wsT g g.th.length=m0 at *
 have hk0:Keyed m0:=hm0 ▸ wsT_keyed g _
 refine E.loopS (ι:=Nat × List (EId × Int)) (fun j=>j.1≤g.ord.length∧strike (qsT g j.1) m0=some j.2∧Keyed j.2) (fun j=>g.ord.length-j.1) (fun j=>[(44,.i fun _=>((j.1:Nat):Int))]) (fun j h=>h.set 1 (mapB j.2)) (0,m0) (fun _=>rfl) ⟨Nat.zero_le _,rfl,hk0⟩ ?_ fun j hj I hI=>?_
 ·cbv;simp
 obtain ⟨x,m⟩:=j
 obtain ⟨hx,hst,hk⟩:=hj
 simp only at hx hst hk ⊢
 cbv
 refine ⟨fun _ h5=>?_,fun _ h5=>?_⟩
 ·(try simp only [nc] at *)
  simp (disch:=(first|omega|(simp only [lnS];omega))) only [rdT,rdS,reduceCtorEq,trT] at h5
  have hol:((g.ord.getD x []).length:Int)≤9223372036854775807:=hg.ords _ (getD_mem (by omega))
  cbv
  repeat' (first
   |(refine ⟨fun _ h_s=>?_,fun _ h_s=>?_⟩<;>(cbv;(try simp only [nc] at *);try simp (disch:=(first|omega|(simp only [lnS];omega))) only [rdT,rdS,reduceCtorEq,trT] at h_s))
   |(refine hF ?_;intro _;clear hF)
   |(refine hF ?_;cbv;clear hF)
   |(refine ⟨fun _=>?_,?_⟩;(· ((try simp only [nc] at *);first|done|omega|exact ⟨by omega,rfl⟩|(simp (disch:=(first|omega|(simp only [lnS];omega))) only [rdT,rdS];first|done|omega|rfl|exact ⟨by omega,rfl⟩|(simp;done)|(simp;omega))|(intros;trivial)|exact mok_ids _));try cbv)
   | fail
  )
  refine E.loopS (ι:=Nat × List (EId × Int)) (fun j=>j.1≤(g.ord.getD x []).length∧strike (qsT g x++qsE g x j.1) m0=some j.2∧Keyed j.2) (fun j=>(g.ord.getD x []).length-j.1) (fun j=>[(51,.i fun _=>((j.1:Nat):Int))]) (fun j h=>h.set 1 (mapB j.2)) (0,m) (fun _=>rfl) ⟨Nat.zero_le _,by simpa [qsE] using hst,hk⟩ ?_ fun j hj I2 hI2=>?_
  ·cbv;simp
  obtain ⟨i,m1⟩:=j
  obtain ⟨hi,hst1,hk1⟩:=hj
  simp only at hi hst1 hk1 ⊢
  cbv
  have hlk:=lk_some m1 ((g.ord.getD x []).getD i id0) _ rfl
  have hlv:=lk_val m1 ((g.ord.getD x []).getD i id0) _ rfl (.lit 0) rfl
  skip
  skip
  repeat' (first
   |(refine ⟨fun _ h_s=>?_,fun _ h_s=>?_⟩<;>(cbv;(try simp only [nc] at *);try simp (disch:=(first|omega|(simp only [lnS];omega))) only [rdT,rdS,knums_i2,reduceCtorEq,trT] at h_s))
   |(refine hF ?_;intro _;clear hF)
   |(refine hF ?_;cbv;clear hF)
   |(refine ⟨fun _=>?_,?_⟩;(· ((try simp only [nc] at *);first|done|omega|exact ⟨by omega,rfl⟩|(simp (disch:=(first|omega|(simp only [lnS];omega))) only [rdT,rdS,knums_i2];first|done|omega|rfl|exact ⟨by omega,rfl⟩|(simp;done)|(simp;omega))|(intros;trivial)|exact mok_ids _|exact ⟨mok_ids _,is_vals _⟩));(try (simp only [nc] at *));(try simp (disch:=(first|omega|(simp only [lnS];omega))) only [rdT,rdS,knums_i2]);(try cbv))
   | fail
  )
  all_goals (try simp only [nc] at *)
  all_goals (try simp (disch:=(first|omega|(simp only [lnS];omega))) only [rdT,rdS,knums_i2])
  ·obtain ⟨r,hr⟩:=qsT_split g x i (by omega) (by omega)
   rw [hr]
   refine decide_eq_false (strike_no hst1 fun hm=>?_)
   rw [←mlook_mem _ _ _ hk1] at hm
   simp_all
  ·obtain ⟨r,hr⟩:=qsT_split g x i (by omega) (by omega)
   rw [hr]
   refine decide_eq_false (strike_no hst1 fun hm=>?_)
   rw [←mlook_mem _ _ _ hk1] at hm
   simp_all
  ·have hm:mlook ((g.ord.getD x []).getD i id0) m1=some (x:Int):=by
    cases h:mlook ((g.ord.getD x []).getD i id0) m1<;>simp_all
   have hmm:=(mlook_mem _ _ _ hk1).1 hm
   obtain ⟨hd1,hd2⟩:=lk_del m1 _ _ _ rfl hm
   refine hI2 (i+1,m1.erase ((g.ord.getD x []).getD i id0,(x:Int))) ⟨by simp only;omega,?_,keyed_erase hk1 _⟩ (by simp only;omega) ?_
   ·simp only
    rw [qsE_succ g x i (by omega),←List.append_assoc,strike_app,hst1,Option.bind_some]
    simp only [strike,if_pos hmm]
   ·cbv
    clear hI hI2 hF
    (try simp only [nc] at *)
    (try simp (disch:=(first|omega|(simp only [lnS];omega))) only [rdT,rdS,knums_i2,anT])
    refine ⟨by omega,hd1,hd2⟩
  ·have e:i=(g.ord.getD x []).length:=by omega
   subst e
   refine hI (x+1,m1) ⟨by simp only;omega,by simp only;rw [qsT_succ];exact hst1,hk1⟩ (by simp only;omega) ?_
   cbv
   clear hI hI2 hF
   (try simp only [nc] at *)
   (try simp (disch:=(first|omega|(simp only [lnS];omega))) only [rdT,rdS,knums_i2,anT])
   omega
 ·clear hI
  (try simp only [nc] at *)
  simp (disch:=(first|omega|(simp only [lnS];omega))) only [rdT,rdS,knums_i2,reduceCtorEq,trT] at h5
  have e:x=g.ord.length:=by omega
  subst e
  cbv
  repeat' (first
   |(refine ⟨fun _ h_s=>?_,fun _ h_s=>?_⟩<;>(cbv;(try simp only [nc] at *);try simp (disch:=(first|omega|(simp only [lnS];omega))) only [rdT,rdS,knums_i2,reduceCtorEq,trT] at h_s))
   |(refine hF ?_;intro _;clear hF)
   |(refine hF ?_;cbv;clear hF)
   |(refine ⟨fun _=>?_,?_⟩;(· ((try simp only [nc] at *);first|done|omega|exact ⟨by omega,rfl⟩|(simp (disch:=(first|omega|(simp only [lnS];omega))) only [rdT,rdS,knums_i2];first|done|omega|rfl|exact ⟨by omega,rfl⟩|(simp;done)|(simp;omega))|(intros;trivial)|exact mok_ids _|exact ⟨mok_ids _,is_vals _⟩));try cbv)
   | fail
  )
  all_goals (try simp only [nc] at *)
  all_goals (try simp (disch:=(first|omega|(simp only [lnS];omega))) only [rdT,rdS,knums_i2])
  have hp:=strike_perm (qsT g g.ord.length) m0
  rw [hst] at hp
  rw [decide_eq_decide,←hp]
  simp
end Go.AL.Rl
namespace Go.AL.Rl
open Go Go.AL Go.Proofs
set_option maxRecDepth 100000
variable {γ:Nat→Option AV}
theorem perm_of_sub {α:Type} [DecidableEq α]:∀ {a b:List α},a.Nodup→(∀ x∈a,x∈b)→b.length≤a.length→a.Perm b
 | [],b,_,_,h=>by
  have:b=[]:=List.eq_nil_of_length_eq_zero (by simpa using h)
  rw [this]
 | x :: a,b,hn,hs,hl=>by
  have hx:x∈b:=hs x (by simp)
  have hn':=List.nodup_cons.1 hn
  have:=perm_of_sub (a:=a) (b:=b.erase x) hn'.2 (fun y hy=>by
   have hne:y≠x:=fun e=>hn'.1 (e ▸ hy)
   exact (List.mem_erase_of_ne hne).2 (hs y (by simp [hy]))) (by
   rw [List.length_erase_of_mem hx];simp at hl;omega)
  exact (this.cons x).trans (List.perm_cons_erase hx).symm
theorem wsE_count (x:Int) (t:Nat) (l:List Ev):∀ n,n≤l.length→((wsE t l n).filter fun p=>decide (p.2=x)).length=cntE x (l.take n)
 | 0,_=>by simp [wsE,cntE]
 | n+1,h=>by
  rw [wsE_succ,cntE_succ x l n (by omega),List.filter_append,List.length_append,wsE_count x t l n (by omega)]
  cases hw:writesM (l.getD n ev0)
  ·simp
  ·by_cases h2:(l.getD n ev0).loc=x
   ·simp only [h2,if_true,decide_true,Bool.and_self,List.filter_cons,List.filter_nil,List.length_cons,List.length_nil]
   ·simp only [h2,if_true,decide_false,Bool.and_false,List.filter_cons,List.filter_nil,List.length_nil,if_false,Bool.false_eq_true]
theorem wsT_count (g:Gr) (x:Int):∀ t,t≤g.th.length→((wsT g t).filter fun p=>decide (p.2=x)).length=cntT x (g.th.take t)
 | 0,_=>by simp [wsT,cntT]
 | t+1,h=>by
  rw [wsT_succ,cntT_succ x g.th t (by omega),List.filter_append,List.length_append,wsT_count g x t (by omega),wsE_count x t _ _ (Nat.le_refl _),List.take_length]
theorem event_thread {g:Gr} {k i:Nat} (hk:k<g.th.length) (hi:i<(g.th.getD k []).length):eventM g ⟨k+1,i⟩=some ((g.th.getD k []).getD i ev0):=by
 unfold eventM
 have e:((k:Int)+1-1).toNat=k:=by omega
 rw [if_neg (by simp only;omega),e,if_pos ⟨by simp only;omega,by simp only;omega,by simp only;omega,by simp only;omega⟩]
 simp
theorem isW_mem (g:Gr) (x:Int) (d:EId):isW g x d=true↔(d,x)∈wsT g g.th.length:=by
 rw [wsT_mem]
 constructor
 ·intro h
  unfold isW at h
  split at h
  ·rename_i e he
   simp only [Bool.and_eq_true,decide_eq_true_eq] at h
   obtain ⟨⟨h1,h2⟩,h3⟩:=h
   unfold eventM at he
   rw [if_neg h1] at he
   split at he
   ·rename_i hc
    cases he
    refine ⟨(d.t-1).toNat,by omega,d.i.toNat,by omega,h2,?_⟩
    rw [h3]
    congr 1
    exact EId.ext' (by simp only;omega) (by simp only;omega)
   ·cases he
  ·cases h
 ·rintro ⟨k,hk,i,hi,hw,he⟩
  obtain ⟨rfl,rfl⟩:=Prod.mk.inj he
  unfold isW
  rw [event_thread hk hi]
  simp only [hw,Bool.and_true,decide_true,decide_eq_true_eq]
  omega
theorem keyed_filter {m:List (EId × Int)} (h:Keyed m) (x:Int):((m.filter fun p=>decide (p.2=x)).map (·.1)).Nodup:=List.Nodup.sublist (List.Sublist.map _ List.filter_sublist) h
theorem perm_split {m:List (EId × Int)}:∀ (n:Nat),(∀ p∈m,∃ k<n,p.2=((k:Nat):Int))→((List.range n).flatMap fun k:Nat=>m.filter fun p=>decide (p.2=(k:Int))).Perm m:=by
 induction m with
 | nil=>
  intro n _
  have:((List.range n).flatMap fun k:Nat=>([]:List (EId × Int)).filter fun p=>decide (p.2=(k:Int)))=[]:=by
   rw [List.flatMap_eq_nil_iff];intro k _;rfl
  rw [this]
 | cons p m ih=>
  intro n h
  obtain ⟨k,hk,hpk⟩:=h p (by simp)
  have ih:=ih n fun q hq=>h q (by simp [hq])
  refine List.Perm.trans ?_ (ih.cons p)
  obtain ⟨r,hr⟩:∃ r,List.range n=List.range k++k :: r:=⟨(List.range n).drop (k+1),by
   have h1:(List.range n).take k=List.range k:=by rw [List.take_range];congr 1;omega
   have h2:(List.range n).drop k=k :: (List.range n).drop (k+1):=by
    rw [List.drop_eq_getElem_cons (by simpa using hk)];simp
   rw [←h1,←h2,List.take_append_drop]⟩
  have hnk:∀ j∈List.range k,decide (p.2=((j:Nat):Int))=false:=fun j hj=>by
   have:=List.mem_range.1 hj;rw [hpk];simp;omega
  have hnr:∀ j∈r,decide (p.2=((j:Nat):Int))=false:=fun j hj=>by
   have hnd:(List.range n).Nodup:=List.nodup_range
   rw [hr,List.nodup_append] at hnd
   have:=(List.nodup_cons.1 hnd.2.1).1
   refine decide_eq_false ?_;rw [hpk];intro e;have e':k=j:=by omega
   subst e'
   exact this hj
  have key:∀ (L:List Nat),(∀ j∈L,decide (p.2=((j:Nat):Int))=false)→(L.flatMap fun k:Nat=>(p :: m).filter fun p=>decide (p.2=(k:Int)))=L.flatMap fun k:Nat=>m.filter fun p=>decide (p.2=(k:Int)):=by
   intro L hL
   induction L with
   | nil=>rfl
   | cons j L ihL=>
    simp only [List.flatMap_cons]
    rw [ihL fun j hj=>hL j (by simp [hj]),List.filter_cons,hL j (by simp)]
    simp
  rw [hr,List.flatMap_append,List.flatMap_append,List.flatMap_cons,List.flatMap_cons,key _ hnk,key _ hnr,List.filter_cons]
  rw [if_pos (by simp [hpk])]
  exact List.perm_middle
theorem flatMap_perm {α β:Type} {f g:α→List β}:∀ {L:List α},(∀ x∈L,(f x).Perm (g x))→(L.flatMap f).Perm (L.flatMap g)
 | [],_=>.refl _
 | x :: L,h=>by
  rw [List.flatMap_cons,List.flatMap_cons]
  exact (h x (by simp)).append (flatMap_perm fun y hy=>h y (by simp [hy]))
theorem filter_flat (f:Nat→List (EId × Int)) (hf:∀ k,∀ p∈f k,p.2=((k:Nat):Int)) (x:Nat):∀ n,((List.range n).flatMap f).filter (fun p=>decide (p.2=(x:Int)))=if x<n then f x else []
 | 0=>rfl
 | n+1=>by
  rw [List.range_succ,List.flatMap_append,List.filter_append,filter_flat f hf x n,List.flatMap_singleton]
  by_cases h:x=n
  ·subst h
   rw [if_neg (by omega),if_pos (by omega),List.filter_eq_self.2 fun p hp=>by simp [hf x p hp],List.nil_append]
  ·have:(f n).filter (fun p=>decide (p.2=(x:Int)))=[]:=by
    rw [List.filter_eq_nil_iff]
    intro p hp
    simp [hf n p hp];omega
   rw [this,List.append_nil]
   by_cases h2:x<n
   ·rw [if_pos h2,if_pos (by omega)]
   ·rw [if_neg h2,if_neg (by omega)]
theorem ordered_iff (g:Gr) (x:Nat):orderedM g x=true↔(g.ord.getD x []).Nodup∧(∀ d∈g.ord.getD x [],isW g x d=true)∧(g.ord.getD x []).length=cntT x g.th:=by
 unfold orderedM
 generalize g.ord.getD x []=l
 rw [Bool.and_eq_true,decide_eq_true_iff,decide_eq_true_iff]
 constructor
 ·rintro ⟨h1,h2⟩
  refine ⟨?_,fun d hd=>?_,h2⟩
  ·unfold List.Nodup
   rw [List.pairwise_iff_getElem]
   intro i j hi hj hij
   have:=(h1 j hj).2 i hij
   simpa [hi,hj] using this
  ·obtain ⟨i,hi,rfl⟩:=List.getElem_of_mem hd
   simpa [hi] using (h1 i hi).1
 ·rintro ⟨h1,h2,h3⟩
  refine ⟨fun i hi=>⟨h2 _ (getD_mem hi),fun k hk=>?_⟩,h3⟩
  unfold List.Nodup at h1
  rw [List.pairwise_iff_getElem] at h1
  have:=h1 k i (by omega) hi hk
  simpa [hi,show k<l.length by omega] using this
theorem map_pair (l:List EId) (x:Int):((l.map fun d=>(d,x)).map (·.1))=l:=by rw [List.map_map];exact List.map_id _
theorem nodup_pair {l:List EId} (h:l.Nodup) (x:Int):(l.map fun d=>(d,x)).Nodup:=by
 unfold List.Nodup at *
 rw [List.pairwise_map]
 exact h.imp fun hab he=>hab (Prod.mk.inj he).1
theorem orders_perm {g:Gr} (hl:g.ord.length=g.init.length) (he:eventsOk g):ordersOk g↔(qsT g g.ord.length).Perm (wsT g g.th.length):=by
 have hws:∀ p∈wsT g g.th.length,∃ k<g.ord.length,p.2=((k:Nat):Int):=by
  intro p hp
  obtain ⟨k,hk,i,hi,hw,rfl⟩:=wsT_mem.1 hp
  have hf:=(he k hk).2 i hi
  generalize (g.th.getD k []).getD i ev0=e at *
  refine ⟨e.loc.toNat,?_⟩
  simp only [fineM,Bool.and_eq_true,decide_eq_true_eq] at hf
  simp only [writesM,Bool.or_eq_true,decide_eq_true_eq] at hw
  have:=hf.2
  rw [if_neg (by omega)] at this
  simp only [decide_eq_true_eq] at this
  omega
 have hcnt:∀ x:Nat,((wsT g g.th.length).filter fun p=>decide (p.2=(x:Int))).length=cntT x g.th:=fun x=>by
  have:=wsT_count g x g.th.length (Nat.le_refl _)
  rwa [List.take_length] at this
 have hq:∀ x<g.ord.length,(qsT g g.ord.length).filter (fun p=>decide (p.2=(x:Int)))=(g.ord.getD x []).map fun d=>(d,(x:Int)):=fun x hx=>by
  unfold qsT
  rw [filter_flat (fun k=>(g.ord.getD k []).map fun d=>(d,(k:Int))) (fun k p hp=>by
   obtain ⟨d,_,rfl⟩:=List.mem_map.1 hp;rfl) x,if_pos hx]
 constructor
 ·intro ho
  refine List.Perm.trans ?_ (perm_split g.ord.length hws)
  unfold qsT
  refine flatMap_perm fun x hx=>?_
  obtain ⟨h1,h2,h3⟩:=(ordered_iff g x).1 (ho x (by have:=List.mem_range.1 hx;omega))
  refine perm_of_sub ?_ (fun p hp=>?_) ?_
  ·exact nodup_pair h1 _
  ·obtain ⟨d,hd,rfl⟩:=List.mem_map.1 hp
   rw [List.mem_filter]
   exact ⟨(isW_mem g x d).1 (h2 d hd),by simp⟩
  ·rw [hcnt,List.length_map,h3];exact Nat.le_refl _
 ·intro hp x hx
  rw [ordered_iff]
  have h1:=hp.filter (fun p=>decide (p.2=(x:Int)))
  rw [hq x (by omega)] at h1
  have h2:=h1.map (·.1)
  rw [map_pair] at h2
  refine ⟨(h2.nodup_iff).2 (keyed_filter (wsT_keyed g _) x),fun d hd=>?_,?_⟩
  ·rw [isW_mem]
   have:=h1.subset (List.mem_map.2 ⟨d,hd,rfl⟩)
   exact (List.mem_filter.1 this).1
  ·rw [←hcnt,←h1.length_eq,List.length_map]
theorem gcheck_ok (g:Gr) (hg:Rd g):Pure Try.prog γ false 36 [aGr g] (.i fun _=>gcheckM g):=by
 have hg2:=hg.th
 refine Pure.go (ty:=ty) ty_eq mo Try.func36 rfl Try.ntmps36 Try.results36 Try.call36 (by simp) fun P C CQ D W F E hF=>?_
 cbv
 repeat' (first
  |(refine E.c (SCalls.of_le (tooLong_ok g hg) ?_ ?_);(· (cbv;(try simp only [nc] at *);first|done|(simp;done)|(simp (disch:=(first|omega|(simp only [lnS];omega))) only [rdT,rdS,anT];first|done|omega|(refine ⟨?_,?_⟩<;>omega))|(simp (disch:=(first|omega|(simp only [lnS];omega))) [rdT,rdS];done)));cbv)
  |(refine ⟨fun _ h_s=>?_,fun _ h_s=>?_⟩<;>(cbv;(try simp only [nc] at *);try simp (disch:=(first|omega|(simp only [lnS];omega))) only [rdT,rdS,reduceCtorEq,trT] at h_s))
  |(refine hF ?_;intro _;clear hF)
  |(refine hF ?_;cbv;clear hF)
  |(refine ⟨fun _=>?_,?_⟩;(· ((try simp only [nc] at *);first|done|omega|exact ⟨by omega,rfl⟩|(simp (disch:=(first|omega|(simp only [lnS];omega))) only [rdT,rdS];first|done|omega|rfl|exact ⟨by omega,rfl⟩|(simp;done)|(simp;omega))|(intros;trivial)));try cbv)
  |(refine E.d 20 (by decide +kernel) ?_;cbv;(fail_if_success guard_target =~ False))
  | fail
 )
 all_goals (try simp only [nc] at *)
 all_goals (try simp (disch:=(first|omega|(simp only [lnS];omega))) only [rdT,rdS])
 ·exact (gcheck3 (by simp_all)).symm
 ·exact (gcheck2 (by simp_all) fun h=>by have:=h.lfr;omega).symm
 ·exact (gcheck2 (by simp_all) fun h=>by have:=h.lord;omega).symm
 have hsh:Short g:=by simp_all
 have hlf:g.fr.length=g.th.length:=by omega
 have hlo:g.ord.length=g.init.length:=by omega
 refine E.loopS (ι:=Nat) (fun t=>t≤g.th.length∧(∀ j<t,((g.fr.getD j []).length=(g.th.getD j []).length∧∀ i<(g.th.getD j []).length,fineM g.init.length ((g.th.getD j []).getD i ev0)=true)∧∀ i<(g.th.getD j []).length,sourceM g ⟨j+1,i⟩ ((g.fr.getD j []).getD i id0)=true)) (fun t=>g.th.length-t) (fun t=>[(28,.i fun _=>((t:Nat):Int))]) (fun t h=>h) 0 (fun _=>by first|rfl|simp) ⟨Nat.zero_le _,?_⟩ ?_ fun t ht I hI=>?_
 ·intro j hj;omega
 ·cbv;simp
 obtain ⟨ht,hok⟩:=ht
 cbv
 refine ⟨fun _ h4=>?_,fun _ h4=>?_⟩
 ·(try simp only [nc] at *)
  simp (disch:=(first|omega|(simp only [lnS];omega))) only [rdT,rdS,reduceCtorEq,trT] at h4
  have hht:=hsh.at t
  cbv
  repeat' (first
   |(refine ⟨fun _ h_s=>?_,fun _ h_s=>?_⟩<;>(cbv;(try simp only [nc] at *);try simp (disch:=(first|omega|(simp only [lnS];omega))) only [rdT,rdS,reduceCtorEq,trT] at h_s))
   |(refine hF ?_;intro _;clear hF)
   |(refine hF ?_;cbv;clear hF)
   |(refine ⟨fun _=>?_,?_⟩;(· ((try simp only [nc] at *);first|done|omega|exact ⟨by omega,rfl⟩|(simp (disch:=(first|omega|(simp only [lnS];omega))) only [rdT,rdS];first|done|omega|rfl|exact ⟨by omega,rfl⟩|(simp;done)|(simp;omega))|(intros;trivial)));try cbv)
   |(refine E.d 20 (by decide +kernel) ?_;cbv;(fail_if_success guard_target =~ False))
   | fail
  )
  all_goals (try simp only [nc] at *)
  all_goals (try simp (disch:=(first|omega|(simp only [lnS];omega))) only [rdT,rdS])
  ·exact (gcheck2 hsh fun h=>by have:=(h.events t (by omega)).1;omega).symm
  refine E.loopS (ι:=Nat) (fun i=>i≤(g.th.getD t []).length∧(∀ j<i,fineM g.init.length ((g.th.getD t []).getD j ev0)=true∧sourceM g ⟨t+1,j⟩ ((g.fr.getD t []).getD j id0)=true)) (fun i=>(g.th.getD t []).length-i) (fun i=>[(44,.i fun _=>((i:Nat):Int))]) (fun i h=>h) 0 (fun _=>by first|rfl|simp) ⟨Nat.zero_le _,?_⟩ ?_ fun i hi I2 hI2=>?_
  ·intro j hj;omega
  ·cbv;simp
  obtain ⟨hi,hoki⟩:=hi
  cbv
  repeat' (first
   |(refine hI (t+1) ?_ ?_ ?_;rotate_left 1;(· ((try simp only [nc] at *);omega));(cbv;clear hI;(try clear hF);(try simp only [nc] at *);(try simp (disch:=(first|omega|(simp only [lnS];omega))) only [rdT,rdS,anT]));rotate_left 1;(try ((try simp only [nc] at *);omega)))
   |(refine hI2 (i+1) ?_ ?_ ?_;rotate_left 1;(· ((try simp only [nc] at *);omega));(cbv;clear hI2;(try clear hF);(try simp only [nc] at *);(try simp (disch:=(first|omega|(simp only [lnS];omega))) only [rdT,rdS,anT]));rotate_left 1;(try ((try simp only [nc] at *);omega)))
   |((first|refine E.c (SCalls.of_le (rightFrom_ok g hg ⟨t+1,i⟩ ((g.fr.getD t []).getD i id0)) ?_ ?_)|refine E.q (QCalls.of_le (rightFrom_ok g hg ⟨t+1,i⟩ ((g.fr.getD t []).getD i id0)) ?_ ?_));(· (cbv;(try simp only [nc] at *);first|done|(simp;done)|(simp (disch:=(first|omega|(simp only [lnS];omega))) only [rdT,rdS,anT];first|done|omega|(refine ⟨?_,?_⟩<;>omega))|(simp (disch:=(first|omega|(simp only [lnS];omega))) [rdT,rdS];done)));cbv)
   |((first|refine E.c (SCalls.of_le (rightEvent_ok ((g.th.getD t []).getD i ev0) g.init.length) ?_ ?_)|refine E.q (QCalls.of_le (rightEvent_ok ((g.th.getD t []).getD i ev0) g.init.length) ?_ ?_));(· (cbv;(try simp only [nc] at *);first|done|(simp;done)|(simp (disch:=(first|omega|(simp only [lnS];omega))) only [rdT,rdS,anT];first|done|omega|(refine ⟨?_,?_⟩<;>omega))|(simp (disch:=(first|omega|(simp only [lnS];omega))) [rdT,rdS];done)));cbv)
   |(refine ⟨fun _ h_s=>?_,fun _ h_s=>?_⟩<;>(cbv;(try simp only [nc] at *);try simp (disch:=(first|omega|(simp only [lnS];omega))) only [rdT,rdS,reduceCtorEq,trT] at h_s))
   |(refine hF ?_;intro _;clear hF)
   |(refine hF ?_;cbv;clear hF)
   |(refine ⟨fun _=>?_,?_⟩;(· ((try simp only [nc] at *);first|done|omega|exact ⟨by omega,rfl⟩|(simp (disch:=(first|omega|(simp only [lnS];omega))) only [rdT,rdS];first|done|omega|rfl|exact ⟨by omega,rfl⟩|(simp;done)|(simp;omega))|(intros;trivial)));try cbv)
   |(refine E.d 20 (by decide +kernel) ?_;cbv;(fail_if_success guard_target =~ False))
   | fail
  )
  all_goals (try simp only [nc] at *)
  all_goals (try simp (disch:=(first|omega|(simp only [lnS];omega))) only [rdT,rdS])
  ·refine (gcheck2 hsh fun h=>?_).symm
   have:=(h.events t (by omega)).2 i (by omega)
   simp_all
  ·refine (gcheck2 hsh fun h=>?_).symm
   have:=h.sources t (by omega) i (by omega)
   simp_all
  ·refine ⟨by omega,fun j hj=>?_⟩
   rcases Nat.lt_or_ge j i with h | h
   ·exact hoki j h
   ·obtain rfl:j=i:=by omega
    exact ⟨by assumption,by assumption⟩
  ·omega
  ·refine ⟨by omega,fun j hj=>?_⟩
   rcases Nat.lt_or_ge j t with h | h
   ·exact hok j h
   ·obtain rfl:j=t:=by omega
    exact ⟨⟨by omega,fun k hk=>(hoki k (by omega)).1⟩,fun k hk=>(hoki k (by omega)).2⟩
  ·omega
 clear hI
 (try simp only [nc] at *)
 simp (disch:=(first|omega|(simp only [lnS];omega))) only [rdT,rdS,reduceCtorEq,trT] at h4
 have e:t=g.th.length:=by omega
 subst e
 have hev:eventsOk g:=fun j hj=>(hok j hj).1
 have hso:sourcesOk g:=fun j hj=>(hok j hj).2
 have hp:=orders_perm (by omega) hev
 cbv
 repeat' (first
  |(refine E.c (SCalls.of_le (rightOrder_ok g hg hsh) ?_ ?_);(· (cbv;(try simp only [nc] at *);first|done|(simp;done)|(simp (disch:=(first|omega|(simp only [lnS];omega))) only [rdT,rdS,anT];first|done|omega|(refine ⟨?_,?_⟩<;>omega))|(simp (disch:=(first|omega|(simp only [lnS];omega))) [rdT,rdS];done)));cbv)
  |(refine ⟨fun _ h_s=>?_,fun _ h_s=>?_⟩<;>(cbv;(try simp only [nc] at *);try simp (disch:=(first|omega|(simp only [lnS];omega))) only [rdT,rdS,reduceCtorEq,trT] at h_s))
  |(refine hF ?_;intro _;clear hF)
  |(refine hF ?_;cbv;clear hF)
  |(refine ⟨fun _=>?_,?_⟩;(· ((try simp only [nc] at *);first|done|omega|exact ⟨by omega,rfl⟩|(simp (disch:=(first|omega|(simp only [lnS];omega))) only [rdT,rdS];first|done|omega|rfl|exact ⟨by omega,rfl⟩|(simp;done)|(simp;omega))|(intros;trivial)));try cbv)
  |(refine E.d 20 (by decide +kernel) ?_;cbv;(fail_if_success guard_target =~ False))
  | fail
 )
 all_goals (try simp only [nc] at *)
 all_goals (try simp (disch:=(first|omega|(simp only [lnS];omega))) only [rdT,rdS])
 ·refine (gcheck2 hsh fun h=>?_).symm
  have:=hp.1 h.orders
  simp_all
 ·refine (gcheck0 ⟨hsh,by omega,by omega,hev,hso,hp.2 ?_⟩).symm
  simp_all
end Go.AL.Rl
