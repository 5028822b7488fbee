import Derived.Test.YtjcioienjlonmaaGreatMa3
import Derived.Shelf.Spec.TrailingZeros
set_option linter.unusedVariables false
set_option linter.unusedSimpArgs false
namespace Go.AL
open Go Go.RowKit
section
variable {P:Program} {γ:Nat→Option AV}
mutual
theorem leV_stable (y x:AV) (h:leV 0 y x):y.stable=true:=by
 match y with
 | .any | .i _ | .lit _ | .u _ | .b _ | .tt | .ff | .vs .. | .vp .. | .vm .. | .np | .nils | .undef | .raw _=>rfl
 | .agg cs=>simp only [leV] at h;split at h<;>first | exact h.elim | exact leVs_stable cs _ h
 | .tup cs=>simp only [leV] at h;split at h<;>first | exact h.elim | exact leVs_stable cs _ h
 | .fn f a c=>
  simp only [leV] at h;split at h<;>first | exact h.elim | skip
  simp only [AV.stable,Bool.and_eq_true]
  exact ⟨leVs_stable a _ h.2.1,leVs_stable c _ h.2.2⟩
 | .ptr ..=>simp only [leV] at h;split at h<;>first | exact h.elim | (exact absurd h.2.2 (by omega))
 | .hp ..=>simp only [leV] at h;split at h<;>first | exact h.elim | (exact absurd h.2.2.1 (by omega))
 | .sl ..=>simp only [leV] at h;split at h<;>first | exact h.elim | (exact absurd h.2.2.1 (by omega))
 | .mp ..=>simp only [leV] at h;split at h<;>first | exact h.elim | (exact absurd h.2 (by omega))
 | .v1 x=>simp only [leV] at h;split at h<;>first | exact h.elim | exact leV_stable x _ h
theorem leVs_stable (ys xs:List AV) (h:leVs 0 ys xs):stables ys=true:=by
 match ys with
 | []=>rfl
 | y :: ys=>
  simp only [leVs] at h;split at h<;>first | exact h.elim | skip
  simp only [stables,Bool.and_eq_true]
  exact ⟨leV_stable y _ h.1,leVs_stable ys _ h.2⟩
end
theorem QCalls.of_le {f:FuncId} {args args':List AV} {y:AV} {h:List Blk} {k:AV→Prop} (hp:Pure P γ false f args' y) (hs:leVs 0 args' args) (hk:k y):QCalls P γ h f args k:=by
 refine ⟨y,hk,hp.1,fun B S ρ w vals hh hr=>?_⟩
 refine (hp.2 S w vals hh.sle hh.gok (Rs_stable _ _ (leVs_stable _ _ hs) (Rs_le _ _ _ hs hr))).mono fun e w' ⟨v',S',h1,h2,h3⟩=>?_
 exact ⟨v',S',h1,R.mono (S:=S') (fun _ h=>h) (fun _ _=>rfl) (ρ:=none) (ρ':=some ρ) trivial _ _ h2,h3.of_false⟩
theorem SCalls.of_le {f:FuncId} {args args':List AV} {y:AV} {h:List Blk} {Q:AV→List Blk→Prop} (hp:Pure P γ false f args' y) (hs:leVs 0 args' args) (hk:Q y h):SCalls P γ f args h Q:=.of_q (.of_le hp hs hk)
def Step (γ:Nat→Option AV) (A A':St):Prop:=∀ B S ρ a w,Sim B S γ ρ A a w→∃ S' ρ',Sim B S' γ ρ' A' a w∧Ext B S ρ w S' ρ' w
theorem AWP.step {c:Code} {Q:Exit→St→Prop} {A A':St} (hs:Step γ A A') (h:AWP P γ c Q A'):AWP P γ c Q A:=fun B S ρ a w h0=>by
 obtain ⟨S',ρ',h1,h2⟩:=hs B S ρ a w h0
 exact wp_mono (h B S' ρ' a w h1) fun e a' w' ⟨S'',ρ'',A'',q1,q2,q3⟩=>⟨S'',ρ'',A'',q1,q2,h2.trans q3⟩
theorem AWP.behind {c:Code} {K J:St→Prop} {A:St} (hJ:∀ A',J A'→∃ A'',Step γ A' A''∧K A'') (h:AWP P γ c (thenE J fun _ _=>False) A):AWP P γ c (thenE K fun _ _=>False) A:=fun B S ρ a w h0=>
 wp_mono (h B S ρ a w h0) fun e a' w' ⟨S',ρ',A',q1,q2,q3⟩=>by
  cases e with
  | normal=>
   obtain ⟨A'',k1,k2⟩:=hJ A' q1
   obtain ⟨S'',ρ'',k3,k4⟩:=k1 B S' ρ' a' w' q2
   exact ⟨S'',ρ'',A'',k2,k3,q3.trans k4⟩
  | _=>exact q1.elim
end
end Go.AL
namespace Go.AL
open Go Go.RowKit
section
variable {P:Program} {γ:Nat→Option AV}
structure Env (P:Program) (γ:Nat→Option AV) (C:EC) (CQ:List Blk→QC) (T:Nat→TI) (D:Array Oper→(St→Prop)→St→Prop) (W:Code→(Exit→St→Prop)→St→Prop):Prop where
 c:∀ {f args h Q},SCalls P γ f args h Q→C (.inl f) args h Q
 y:∀ {l args h Q},YCall P γ l args h Q→C (.inr l) args h Q
 q:∀ {h f args k},QCalls P γ h f args k→CQ h f args k
 d:∀ n {ops K A},drawB ops n=true→vhd T γ CQ ops (ops.toList.take n) A (fun A=>vops T γ C.noY ops.toList (ops.toList.drop n) A K)→D ops K A
 da:∀ n t {z ops K A},(drawB ops n && decide (n<ops.size))=true→allocAt (ops.toList.take n)=some t→(T t).k.isOther=false→(T t).zero=some z→z.flat=true →
  vhdA T γ CQ ops A.h.length (ops.toList.take n) ⟨A.n,A.s,A.h++[Blk.any]⟩ (fun A'=>vops T γ C.noY ops.toList (ops.toList.drop n) ⟨A'.n,A'.s,A.h++[Blk.box z]⟩ K)→D ops K A
 de:∀ n (M:List Nat) (gs:List (Option Nat)) {ops K A},drawB ops n=true→vhdE T γ CQ ops (M++rng A.h.length gs.length) (ops.toList.take n) [] (rng A.h.length gs.length) ⟨A.n,A.s,A.h++gs.map gblk⟩ (fun L A=>match sepB .any ops L with | true=>vops T γ C.noY ops.toList (ops.toList.drop n) A K | false=>False)→D ops K A
 dc:∀ n (M:List Nat) (gs:List (Option Nat)) (E:List Nat) {ops K A},drawB ops n=true→vhdC T γ CQ (CallEff C.noY (M++rng A.h.length gs.length)) ops (M++rng A.h.length gs.length) E (ops.toList.take n) [] ⟨A.n,A.s,A.h++gs.map gblk⟩ (fun L A=>match sepB .any ops L with | true=>vops T γ C.noY ops.toList (ops.toList.drop n) A K | false=>False)→D ops K A
 w:∀ {c Q A},AWP P γ (.loop c) Q A→W c Q A
 b:∀ {c Q A},vc T γ C D W c Q A→AWP P γ c Q A
 sb:∀ {ops K A A'},Step γ A A'→D ops K A'→D ops K A
 st:∀ {ops K A},(∀ J:St→Prop,(∀ {A' A''},Step γ A' A''→K A''→J A')→D ops J A)→D ops K A
def Dany (P:Program) (γ:Nat→Option AV) (T:Nat→TI) (ops:Array Oper) (K:St→Prop) (A:St):Prop:=∀ id,AWP P γ (.region id ops true) (thenE K fun _ _=>False) A
theorem Env.top {ty:Program→Nat→TI} (hτ:∀ t,ty P t=tiOf P t) (hm:P.follows .mixedOrders=true):Env P γ (SC P γ) (fun h f args k=>QCalls P γ h f args k) (ty P) (Dany P γ (ty P)) (fun c Q A=>AWP P γ (.loop c) Q A):=by
 have hb:∀ {c Q A},vc (ty P) γ (SC P γ) (Dany P γ (ty P)) (fun c Q A=>AWP P γ (.loop c) Q A) c Q A→AWP P γ c Q A:=fun {c Q A} this=>by
  refine vc_sound hτ (fun _ _ _ _ h=>h) (fun id ops K Q A hK hd=>?_) (fun _ _ _ h=>h) c _ A this
  exact (hd id).mono fun e A' he=>by
   cases e with
   | normal=>exact hK A' he
   | _=>exact he.elim
 exact ⟨fun h=>h,fun h=>h,fun h=>h,fun n {ops K A} h1 h2 id=>AWP.draw (Q:=thenE K fun _ _=>False) hτ SC.noY_pc (fun _ _ _ _ h=>h) hm n h1 h2,
  fun n t {z ops K A} h1 h2 h3 h4 h5 h6 id=>AWP.drawA (Q:=thenE K fun _ _=>False) hτ SC.noY_pc (fun _ _ _ _ h=>h) hm n h1 h2 h3 h4 h5 h6,
  fun n M gs {ops K A} h1 h2 id=>AWP.drawE (Q:=thenE K fun _ _=>False) hτ SC.noY_pc (fun _ _ _ _ h=>h) hm n M gs h1 h2,
  fun n M gs E {ops K A} h1 h2 id=>AWP.drawC (Q:=thenE K fun _ _=>False) hτ SC.noY_pc (fun _ _ _ _ h=>h) hm n M gs E h1 h2,
  fun h=>h,hb,fun hs hd id=>AWP.step hs (hd id),fun {ops K A} h id=>AWP.behind (J:=fun A'=>∃ A'',Step γ A' A''∧K A'') (fun _ h=>h) (h _ (fun h1 h2=>⟨_,h1,h2⟩) id)⟩
theorem AWP.go' {ty:Program→Nat→TI} (hτ:∀ t,ty P t=tiOf P t) (hm:P.follows .mixedOrders=true) {c:Code} {Q:(Nat→TI)→Exit→St→Prop} {A:St}
  (h:∀ (P':Program) (C:EC) (CQ:List Blk→QC) (D:Array Oper→(St→Prop)→St→Prop) (W:Code→(Exit→St→Prop)→St→Prop),Env P γ C CQ (ty P') D W→vc (ty P') γ C D W c (Q (ty P')) A):AWP P γ c (Q (ty P)) A:=
 (Env.top hτ hm).b (h P _ _ _ _ (Env.top hτ hm))
def headSt (c:Code) (A:St) (u:List (Nat × AV)) (h:List Blk):St:=⟨A.n,sets u (havoc (dsts c) A.s),h⟩
theorem Env.loop {C:EC} {CQ:List Blk→QC} {T:Nat→TI} {D:Array Oper→(St→Prop)→St→Prop} {W:Code→(Exit→St→Prop)→St→Prop} (E:Env P γ C CQ T D W) {c:Code} {Q:Exit→St→Prop} {A:St} {ι:Type} (ok:ι→Prop) (m:ι→Nat) (upd:ι→List (Nat × AV)) (hp:ι→List Blk) (j0:ι)
  (hA:A.h.length=(hp j0).length) (hn:∀ j,(hp j).length=(hp j0).length) (hok:ok j0) (h0:leSt (hp j0).length (headSt c A (upd j0) (hp j0)) A)
  (round:∀ j,ok j→∀ (I:St→Prop),(∀ {A'} j',ok j'→m j'<m j→leSt (hp j0).length (headSt c A (upd j') (hp j')) A'→I A')→vc T γ C D W c (thenE I Q) (headSt c A (upd j) (hp j))):W c Q A:=
 E.w (AWP.loopI (ι:=ι) (hp j0).length (fun j=>headSt c A (upd j) (hp j)) ok m j0 hA hn ⟨hok,h0⟩ fun j hj=>E.b (round j hj _ fun j' h1 h2 h3=>⟨j',h1,h2,h3⟩))
theorem Pure.go {ty:Program→Nat→TI} (hτ:∀ t,ty P t=tiOf P t) (hm:P.follows .mixedOrders=true) {f:FuncId} {fn:Func} {n:Nat} {rs:Array ResultVar}
  (hf:P.funcs[f]?=some fn) (hb:fn.body=some (fn.body.getD .skip)) (hn:fn.ntmps=n) (hr:fn.results=rs) (he:Enters P f) {args:List AV} {y:AV} (hsz:args.length≤n∧n<1000)
  (h:∀ (P':Program) (C:EC) (CQ:List Blk→QC) (D:Array Oper→(St→Prop)→St→Prop) (W:Code→(Exit→St→Prop)→St→Prop) (F:AV→List Blk→Prop),Env P γ C CQ (ty P') D W→(∀ {v h},fz h y v→F v h) →
   vc (ty P') γ C D W (fn.body.getD .skip) (bodyQ (ty P') rs.toList F) (start n args [])):Pure P γ false f args y:=
 Pure.of_body hτ hf hb hn (by rw [hr]) he hsz (AWP.go' (Q:=fun T=>bodyQ T rs.toList fun v h=>fz h y v) hτ hm fun P' C CQ D W E=>h P' C CQ D W _ E fun h=>h)
theorem SCalls.go {ty:Program→Nat→TI} (hτ:∀ t,ty P t=tiOf P t) (hm:P.follows .mixedOrders=true) {f:FuncId} {fn:Func} {n:Nat} {rs:Array ResultVar}
  (hf:P.funcs[f]?=some fn) (hb:fn.body=some (fn.body.getD .skip)) (hn:fn.ntmps=n) (hr:fn.results=rs) (he:Enters P f) {args:List AV} {hp:List Blk} {Q:AV→List Blk→Prop} (hsz:args.length≤n∧n<1000)
  (h:∀ (P':Program) (C:EC) (CQ:List Blk→QC) (D:Array Oper→(St→Prop)→St→Prop) (W:Code→(Exit→St→Prop)→St→Prop) (F:AV→List Blk→Prop),Env P γ C CQ (ty P') D W→(∀ {v h},Q v h→F v h) →
   vc (ty P') γ C D W (fn.body.getD .skip) (bodyQ (ty P') rs.toList F) (start n args hp)):SCalls P γ f args hp Q:=
 SCalls.of_body hτ hf hb hn (by rw [hr]) he hsz (AWP.go' (Q:=fun T=>bodyQ T rs.toList Q) hτ hm fun P' C CQ D W E=>h P' C CQ D W _ E fun h=>h)
end
end Go.AL
namespace Go.AL.Rl
open Go Go.AL Go.Proofs
theorem mo:Tryz.prog.follows .mixedOrders=true:=by kernel_rfl
@[simp] theorem nc (n:Nat):(NatCast.natCast n:Int)=(n:Int):=rfl
theorem nct (i:Nat):(NatCast.natCast i:Int).toNat=i:=rfl
theorem w64_of {n:Int} (h0:-9223372036854775808≤n) (h1:n<9223372036854775808):w64 n=n:=by
 show (if (true && decide (n % 18446744073709551616≥9223372036854775808))=true then n % 18446744073709551616-18446744073709551616 else n % 18446744073709551616)=n
 split<;>rename_i h<;>simp at h<;>omega
theorem at_u (x:Unit→BitVec 64):((AV.u x).at 0).asU=x ():=rfl
theorem at_i (x:Unit→Int):((AV.i x).at 0).asI=x ():=rfl
def us (rows:List (BitVec 64)):LV:=LV.of (rows.map fun x=>.u fun _=>x)
@[simp] theorem us_len (rows:List (BitVec 64)):(us rows).l.length=rows.length:=by simp [us]
theorem us_get (rows:List (BitVec 64)) (i:Nat) (h:i<rows.length):(us rows).l.getD i .any=.u fun _=>rows.getD i 0:=by
 simp [us,h]
def is (l:List Int):LV:=LV.of (l.map fun x=>.i fun _=>x)
@[simp] theorem is_len (l:List Int):(is l).l.length=l.length:=by simp [is]
theorem is_get (l:List Int) (i:Nat) (h:i<l.length):(is l).l.getD i .any=.i fun _=>l.getD i 0:=by
 simp [is,h]
section
variable (n:Int) (f:Unit→Int) (u:Unit→BitVec 64) (b:Unit→Bool) (k j:Nat) (es:Unit→LV) (l vs:List AV) (c:CK) (cs:List CK) (v:AV)
@[simp] theorem nrm1_lit:nrm1 .i (.lit n)=.i fun _=>n:=rfl
@[simp] theorem nrm1_i:nrm1 .i (.i f)=.i f:=rfl
@[simp] theorem nrm1_u:nrm1 .u (.u u)=.u u:=rfl
@[simp] theorem nrm1_tt:nrm1 .b .tt=.b fun _=>true:=rfl
@[simp] theorem nrm1_ff:nrm1 .b .ff=.b fun _=>false:=rfl
@[simp] theorem nrm1_b:nrm1 .b (.b b)=.b b:=rfl
@[simp] theorem nrm1_nils:nrm1 (.sl k) .nils=.vs k fun _=>.nil:=rfl
@[simp] theorem nrm1_vs:nrm1 (.sl k) (.vs j es)=.vs j es:=rfl
@[simp] theorem nrm_agg:AV.nrm cs (.agg l)=.agg (nrms cs l):=rfl
@[simp] theorem nrm_lit:AV.nrm [c] (.lit n)=nrm1 c (.lit n):=rfl
@[simp] theorem nrm_i:AV.nrm [c] (.i f)=nrm1 c (.i f):=rfl
@[simp] theorem nrm_u:AV.nrm [c] (.u u)=nrm1 c (.u u):=rfl
@[simp] theorem nrm_tt:AV.nrm [c] .tt=nrm1 c .tt:=rfl
@[simp] theorem nrm_ff:AV.nrm [c] .ff=nrm1 c .ff:=rfl
@[simp] theorem nrm_b:AV.nrm [c] (.b b)=nrm1 c (.b b):=rfl
@[simp] theorem nrm_nils:AV.nrm [c] .nils=nrm1 c .nils:=rfl
@[simp] theorem nrm_vs:AV.nrm [c] (.vs k es)=nrm1 c (.vs k es):=rfl
@[simp] theorem nrms_nil:nrms [] l=l:=rfl
@[simp] theorem nrms_cons:nrms (c :: cs) (v :: vs)=nrm1 c v :: nrms cs vs:=rfl
@[simp] theorem nrms_nil':nrms cs []=[]:=by cases cs<;>rfl
@[simp] theorem setAll_nil:setAll l []=l:=rfl
@[simp] theorem setAll_cons (i:Nat) (ps:List (Nat × AV)):setAll l ((i,v) :: ps)=setAll (l.set i v) ps:=rfl
end
theorem br_t {b:Bool} {p q:Prop} (h:b=true) (hp:p):(∀ _:Unit,b=true→p)∧(∀ _:Unit,b=false→q):=⟨fun _ _=>hp,fun _ h'=>by rw [h] at h';cases h'⟩
theorem br_f {b:Bool} {p q:Prop} (h:b=false) (hq:q):(∀ _:Unit,b=true→p)∧(∀ _:Unit,b=false→q):=⟨fun _ h'=>(by rw [h] at h';cases h'),fun _ _=>hq⟩
abbrev encRel (n:Int) (rows:List (BitVec 64)):AV:=.agg [.i fun _=>n,.vs 1 fun _=>us rows]
end Go.AL.Rl
namespace Go.AL
open Go Go.RowKit
mutual
def AV.sh (d:Nat):AV→AV
 | .ptr b off=>.ptr (d+b) off
 | .hp b g i off=>.hp (d+b) g i off
 | .sl b g k off len=>.sl (d+b) g k off len
 | .mp b=>.mp (d+b)
 | .v1 x=>.v1 (x.sh d)
 | .agg cs=>.agg (shs d cs)
 | .tup cs=>.tup (shs d cs)
 | .fn f a c=>.fn f (shs d a) (shs d c)
 | x=>x
def shs (d:Nat):List AV→List AV
 | []=>[]
 | x :: xs=>x.sh d :: shs d xs
end
def Blk.sh (d:Nat):Blk→Blk
 | .box v=>.box (v.sh d)
 | .obj ..=>.any
 | .nest g k ess hole=>.nest g k ess (match hole with | none=>none | some (i,x)=>some (i,x.sh d))
 | b=>b
section
variable {P:Program} {γ:Nat→Option AV}
theorem get_app {ρ ρ':List Loc} {b:Nat} {loc:Loc} (h:ρ'[b]?=some loc):(ρ++ρ')[ρ.length+b]?=some loc:=by
 rw [List.getElem?_append_right (by omega)];simpa using h
mutual
theorem R_sh {S:Nat→Prop} {w:World} {ρ ρ':List Loc} (x:AV) (v:Value) (h:R S w (some ρ') x v):R S w (some (ρ++ρ')) (x.sh ρ.length) v:=by
 match x with
 | .any | .undef | .tt | .ff | .b _ | .lit _ | .i _ | .u _ | .raw _ | .np | .nils | .vp .. | .vs .. | .vm ..=>exact h
 | .ptr b off=>
  obtain ⟨l,loc,K,hl,k1,k2⟩:=h
  cases hl
  exact ⟨_,loc,K,rfl,get_app k1,k2⟩
 | .hp b g i off=>
  obtain ⟨l,loc,ab,ao,hl,k1,k2⟩:=h
  cases hl
  exact ⟨_,loc,ab,ao,rfl,get_app k1,k2⟩
 | .sl b g k off len=>
  obtain ⟨l,loc,a,cap,hl,k1,k2⟩:=h
  cases hl
  exact ⟨_,loc,a,cap,rfl,get_app k1,k2⟩
 | .mp b=>
  obtain ⟨l,loc,K,hl,k1,k2⟩:=h
  cases hl
  exact ⟨_,loc,K,rfl,get_app k1,k2⟩
 | .v1 x=>
  obtain ⟨ab,ao,cap,xv,h1,h2,h3,h4,h5,h6⟩:=h
  exact ⟨ab,ao,cap,xv,h1,h2,h3,h4,h5,R_sh x xv h6⟩
 | .agg cs=>
  obtain ⟨vals,h1,h2⟩:=h
  exact ⟨vals,h1,Rs_sh cs vals h2⟩
 | .tup cs=>
  obtain ⟨vals,h1,h2⟩:=h
  exact ⟨vals,h1,Rs_sh cs vals h2⟩
 | .fn f a c=>
  obtain ⟨fv,cv,h1,h2,h3⟩:=h
  exact ⟨fv,cv,h1,Rs_sh a fv h2,Rs_sh c cv h3⟩
theorem Rs_sh {S:Nat→Prop} {w:World} {ρ ρ':List Loc} (xs:List AV) (vs:List Value) (h:Rs S w (some ρ') xs vs):Rs S w (some (ρ++ρ')) (shs ρ.length xs) vs:=by
 match xs with
 | []=>exact h
 | x :: xs=>
  obtain ⟨v,vs,rfl,h1,h2⟩:=h
  exact ⟨v,vs,rfl,R_sh x v h1,Rs_sh xs vs h2⟩
end
theorem one_sh (d:Nat) (x:AV) (h:x.one=true):(x.sh d).one=true:=by cases x<;>first | exact h | (simp [AV.one] at h) | rfl
theorem shs_all (d:Nat):∀ (xs:List AV),xs.all AV.one=true→(shs d xs).all AV.one=true
 | [],h=>h
 | x :: xs,h=>by
  simp only [List.all_cons,Bool.and_eq_true,shs] at h ⊢
  exact ⟨one_sh d x h.1,shs_all d xs h.2⟩
def Owns (P:Program) (γ:Nat→Option AV) (f:FuncId) (args:List AV) (v:AV) (h:List Blk):Prop:=
 SCalls P γ f args [] fun v' h'=>leV h.length v v'∧leH h.length h h'
theorem HeapR.le {n B:Nat} {S:Nat→Prop} {ρ:List Loc} {h h':List Blk} {w:World} (hh:HeapR B S γ ρ h w) (hl:leH n h' h) (hn:h'.length=n):HeapR B S γ (ρ.take n) h' w:=by
 have hs:Sim B S γ ρ ⟨0,.nil,h⟩ ⟨#[],[]⟩ w:=⟨rfl,rfl,Nat.zero_le _,fun k=>rfl,hh⟩
 exact (hs.le0 (A':=⟨0,.nil,h'⟩) ⟨rfl,trivial,hl⟩ hn).heap
theorem flat_sh (d:Nat) (x:AV) (h:x.flat=true):(x.sh d).flat=true:=by
 cases x with
 | agg cs=>exact shs_all d cs h
 | _=>exact h
theorem BlkR.sh {S:Nat→Prop} {w:World} {ρ ρ':List Loc} {loc:Loc} {blk:Blk} (h:BlkR S w ρ' loc blk):BlkR S w (ρ++ρ') loc (blk.sh ρ.length):=by
 cases blk with
 | any=>trivial
 | ghost=>exact h
 | box v=>
  obtain ⟨k1,K,ty,xv,k2,k3,k4,k5⟩:=h
  exact ⟨k1,K,ty,xv,k2,k3,R_sh _ _ k4,flat_sh _ _ k5⟩
 | run g k es=>exact h
 | map ks vs=>exact h
 | obj K o s tmps=>trivial
 | nest g k ess hole=>
  obtain ⟨h1,h2,h3,evs,h4,h5,h6,h7⟩:=h
  refine ⟨h1,h2,h3,evs,h4,h5,h6,fun p es v s g1 g2 g3=>?_⟩
  have:=h7 p es v s g1 g2 g3
  cases hole with
  | none=>exact this
  | some ix=>
   rcases this with ⟨a1,a2,a3,a4⟩ | a
   ·exact .inl ⟨a1,a2,R_sh _ _ a3,a4⟩
   ·exact .inr a
theorem SCalls.of_owns {f:FuncId} {args args':List AV} {v:AV} {h h0:List Blk} {Q:AV→List Blk→Prop} (ho:Owns P γ f args' v h0) (hs:leVs 0 args' args)
  (hk:Q (v.sh h.length) (h++h0.map (Blk.sh h.length))):SCalls P γ f args h Q:=by
 refine ⟨ho.1,fun B S ρ w vals hh hr=>?_⟩
 have hh0:HeapR w.heap.size S γ [] [] w:=⟨rfl,fun b blk loc h _=>by simp at h,fun b loc K h _=>by simp at h,fun b b' loc loc' K h _ _ _=>by simp at h,hh.sle,hh.gok,Nat.le_refl _,fun b loc h=>by simp at h⟩
 have hr0:Rs S w (some []) args' vals:=Rs_stable (m:=some (ρ.take 0)) (m':=some []) _ _ (leVs_stable _ _ hs) (Rs_le _ _ _ hs hr)
 refine (ho.2 w.heap.size S [] w vals hh0 hr0).mono fun e w' ⟨v',h',S',ρ',val,h1,⟨h2,h3⟩,h4,h5,h6⟩=>?_
 have hv:=R_le _ _ _ h2 h4
 have hb:=h5.le h3 rfl
 have hl:h.length=ρ.length:=hh.len.symm
 generalize hρ:ρ'.take h0.length=ρ2 at hv hb
 have hsz:=h6.fr.size
 refine ⟨v.sh h.length,h++h0.map (Blk.sh h.length),S',ρ++ρ2,val,h1,hk,hl ▸ R_sh _ _ hv,?_,?_⟩
 ·have old:∀ (b:Nat) (loc:Loc) (K:Nat),ρ[b]?=some loc→loc.has K→¬ S' K∧K<w.heap.size∧B≤K:=fun b loc K e1 e2=>by
   obtain ⟨m1,m2,m3⟩:=hh.own b loc K e1 e2
   refine ⟨fun hs'=>?_,m2,m3⟩
   rcases h6.grow K hs' with h7 | h7
   ·exact m1 h7
   ·omega
  have which:∀ (b:Nat) (loc:Loc),(ρ++ρ2)[b]?=some loc→(b<ρ.length∧ρ[b]?=some loc)∨(ρ.length≤b∧ρ2[b-ρ.length]?=some loc):=fun b loc e=>by
   by_cases hlt:b<ρ.length
   ·rw [List.getElem?_append_left hlt] at e;exact .inl ⟨hlt,e⟩
   ·rw [List.getElem?_append_right (by omega)] at e;exact .inr ⟨by omega,e⟩
  refine ⟨by simp [hl,hb.len],fun b blk loc e1 e2=>?_,fun b loc K e1 e2=>?_,fun b b' loc loc' K e1 e2 e3 e4=>?_,h5.sle,h5.gok,Nat.le_trans hh.bsz hsz,fun b loc e1=>?_⟩
  ·rcases which b loc e2 with ⟨hlt,e2⟩ | ⟨hge,e2⟩
   ·rw [List.getElem?_append_left (by omega)] at e1
    exact (hh.blk b blk loc e1 e2).mono h6.sub h6.same (LocsUp.append _ _) fun K hK=>h6.below K (old b loc K e2 hK).2.1
   ·rw [List.getElem?_append_right (by omega),List.getElem?_map] at e1
    cases hb0:h0[b-h.length]? with
    | none=>rw [hb0] at e1;cases e1
    | some b0=>
     rw [hb0] at e1
     obtain rfl:b0.sh h.length=blk:=Option.some.inj e1
     rw [hl] at hb0 ⊢
     exact (hb.blk _ b0 loc hb0 e2).sh
  ·rcases which b loc e1 with ⟨hlt,e1⟩ | ⟨hge,e1⟩
   ·obtain ⟨m1,m2,m3⟩:=old b loc K e1 e2
    exact ⟨m1,by omega,m3⟩
   ·obtain ⟨m1,m2,m3⟩:=hb.own _ loc K e1 e2
    exact ⟨m1,m2,Nat.le_trans hh.bsz m3⟩
  ·rcases which b loc e1 with ⟨hlt,e1⟩ | ⟨hge,e1⟩<;>rcases which b' loc' e2 with ⟨hlt',e2⟩ | ⟨hge',e2⟩
   ·exact hh.inj b b' loc loc' K e1 e2 e3 e4
   ·have m:=(old b loc K e1 e3).2.1;have m':=(hb.own _ loc' K e2 e4).2.2;omega
   ·have m:=(old b' loc' K e2 e4).2.1;have m':=(hb.own _ loc K e1 e3).2.2;omega
   ·have:=hb.inj _ _ loc loc' K e1 e2 e3 e4;omega
  ·rcases which b loc e1 with ⟨hlt,e1⟩ | ⟨hge,e1⟩
   ·exact hh.sok b loc e1
   ·exact hb.sok _ loc e1
 ·exact ⟨h6.fr,fun k hk=>h6.below k (Nat.lt_of_lt_of_le hk hh.bsz),h6.sub,h6.same,LocsUp.append _ _,fun k hk=>(h6.grow k hk).imp id fun h=>Nat.le_trans hh.bsz h⟩
theorem Owns.go {ty:Program→Nat→TI} (hτ:∀ t,ty P t=tiOf P t) (hm:P.follows .mixedOrders=true) {f:FuncId} {fn:Func} {n:Nat} {rs:Array ResultVar}
  (hf:P.funcs[f]?=some fn) (hb:fn.body=some (fn.body.getD .skip)) (hn:fn.ntmps=n) (hr:fn.results=rs) (he:Enters P f) {args:List AV} {v:AV} {h0:List Blk} (hsz:args.length≤n∧n<1000)
  (h:∀ (P':Program) (C:EC) (CQ:List Blk→QC) (D:Array Oper→(St→Prop)→St→Prop) (W:Code→(Exit→St→Prop)→St→Prop) (F:AV→List Blk→Prop),Env P γ C CQ (ty P') D W→(∀ {v' h'},leV h0.length v v'→leH h0.length h0 h'→F v' h') →
   vc (ty P') γ C D W (fn.body.getD .skip) (bodyQ (ty P') rs.toList F) (start n args [])):Owns P γ f args v h0:=
 SCalls.go hτ hm hf hb hn hr he hsz fun P' C CQ D W F E hF=>h P' C CQ D W F E fun h1 h2=>hF ⟨h1,h2⟩
theorem Env.loopA {C:EC} {CQ:List Blk→QC} {T:Nat→TI} {D:Array Oper→(St→Prop)→St→Prop} {W:Code→(Exit→St→Prop)→St→Prop} (E:Env P γ C CQ T D W) {c:Code} {Q:Exit→St→Prop} {A:St} {ι:Type} (ok:ι→Prop) (m:ι→Nat) (upd:ι→List (Nat × AV)) (hp:ι→List Blk) (j0:ι)
  (hA:A.h.length=(hp j0).length) (hn:∀ j,(hp j).length=(hp j0).length) (hok:ok j0) (h0:leSt (hp j0).length (headSt c A (upd j0) (hp j0)) A)
  (round:∀ j,ok j→∀ (I:St→Prop),(∀ {A'} j',ok j'→m j'<m j→leSt (hp j0).length (headSt c A (upd j') (hp j')) A'→I A')→vc T γ C D W c (thenE I Q) (headSt c A (upd j) (hp j))):AWP P γ (.loop c) Q A:=
 AWP.loopI (ι:=ι) (hp j0).length (fun j=>headSt c A (upd j) (hp j)) ok m j0 hA hn ⟨hok,h0⟩ fun j hj=>E.b (round j hj _ fun j' h1 h2 h3=>⟨j',h1,h2,h3⟩)
end
end Go.AL
namespace Go.AL.Rl
open Go Go.AL Go.Proofs
variable {γ:Nat→Option AV}
set_option maxRecDepth 100000
def fullM (n:Int):BitVec 64:=1#64 <<< (BitVec.ofInt 64 n).toNat-1#64
theorem full_ok (n:Int):Pure Tryz.prog γ false 113 [.i fun _=>n] (.u fun _=>fullM n):=by
 refine Pure.go (ty:=ty) ty_eq mo Tryz.func113 rfl Tryz.ntmps113 Tryz.results113 Tryz.call113 (by simp) fun P C CQ D W F E hF=>?_
 cbv
 exact hF fun _=>rfl
def Fits (n:Int) (rows:List (BitVec 64)):Prop:=0≤n∧n≤64∧(rows.length:Int)=n∧∀ r∈rows,r &&& ~~~ fullM n=0#64
instance (n:Int) (rows:List (BitVec 64)):Decidable (Fits n rows):=
 decidable_of_iff (0≤n∧n≤64∧(rows.length:Int)=n∧rows.all (fun r=>r &&& ~~~ fullM n == 0#64)=true) (by simp [Fits])
def checkM (n:Int) (rows:List (BitVec 64)):Int:=if Fits n rows then 0 else 2
theorem check_ok (n:Int) (rows:List (BitVec 64)):Pure Tryz.prog γ false 72 [encRel n rows] (.i fun _=>checkM n rows):=by
 refine Pure.go (ty:=ty) ty_eq mo Tryz.func72 rfl Tryz.ntmps72 Tryz.results72 Tryz.call72 (by simp) fun P C CQ D W F E hF=>?_
 cbv
 refine ⟨fun _ h0=>?_,fun _ h0=>?_⟩
 ·cbv
  refine hF ?_
  simp at h0
  intro _
  simp [checkM,Fits];omega
 cbv
 refine ⟨fun _ h1=>?_,fun _ h1=>?_⟩
 ·cbv
  refine hF ?_
  simp at h1
  intro _
  simp [checkM,Fits];omega
 cbv
 refine ⟨fun _ h2=>?_,fun _ h2=>?_⟩
 ·cbv
  refine hF ?_
  simp at h2
  intro _
  simp [checkM,Fits];omega
 cbv
 simp at h0 h1 h2
 refine E.loop (ι:=Nat) (fun i=>i≤rows.length∧∀ k<i,rows.getD k 0 &&& ~~~ fullM n=0#64) (fun i=>rows.length-i) (fun i=>[(24,.i fun _=>(i:Int))]) (fun _=>[.box (encRel n rows)]) 0 rfl (fun _=>rfl) ⟨Nat.zero_le _,by simp⟩ ?_ fun i hi I hI=>?_
 ·cbv
  simp
 cbv
 refine ⟨fun _ h3=>?_,fun _ h3=>?_⟩
 ·cbv
  simp at h3
  refine ⟨fun _=>?_,?_⟩
  ·simp;omega
  refine ⟨fun _=>?_,?_⟩
  ·rw [nct,us_get rows i h3];rfl
  refine E.c (SCalls.of_le (full_ok n) ?_ ?_)
  ·cbv
   simp
  cbv
  refine ⟨fun _ h4=>?_,fun _ h4=>?_⟩
  ·cbv
   refine hF ?_
   intro _
   clear hI
   rw [nct,us_get rows i h3,at_u] at h4;simp at h4
   simp only [checkM]
   rw [if_neg fun h:Fits n rows=>h4 (by have:=h.2.2.2 _ (List.getElem_mem h3);simpa [h3] using this)]
  ·cbv
   refine hI (i+1) ?_ ?_ ?_
   ·clear hI
    rw [nct,us_get rows i h3,at_u] at h4;simp at h4
    refine ⟨h3,fun k hk=>?_⟩
    rcases Nat.lt_or_ge k i with h | h
    ·exact hi.2 k h
    ·obtain rfl:k=i:=by omega
     simpa [h3] using h4
   ·omega
   ·cbv
    clear hI
    simp
    simp only [nc] at h2
    exact w64_of (by omega) (by omega)
 ·cbv
  refine hF ?_
  intro _
  clear hI
  simp at h3
  simp only [checkM]
  rw [if_pos]
  refine ⟨h0,h1,h2,fun r hr=>?_⟩
  obtain ⟨k,hk,rfl⟩:=List.getElem_of_mem hr
  have:=hi.2 k (by omega)
  simpa [hk] using this
theorem none_in (n:Int) (h0:0≤n) (h1:n≤64):Owns Tryz.prog γ 101 [.i fun _=>n] (.agg [.i fun _=>n,.sl 1 0 1 (fun _=>0) fun _=>n.toNat]) [.any,.run 0 1 fun _=>us (List.replicate n.toNat 0#64)]:=by
 refine Owns.go (ty:=ty) ty_eq mo Tryz.func101 rfl Tryz.ntmps101 Tryz.results101 Tryz.call101 (by simp) fun P C CQ D W F E hF=>?_
 cbv
 refine br_f (by simp;omega) ?_
 cbv
 refine br_f (by simp;omega) ?_
 cbv
 refine ⟨fun _=>?_,?_⟩
 ·simp;omega
 cbv
 refine hF ?_ ?_
 ·cbv;simp
 ·cbv;simp [us]
end Go.AL.Rl
namespace Go.AL.Rl
open Go Go.AL Go.Proofs
variable {γ:Nat→Option AV}
set_option maxRecDepth 100000
theorem us_of (a:List (BitVec 64)):LV.of (us a).l=us a:=by simp [us]
theorem us_flat (rows:List (BitVec 64)):∀ v∈(us rows).l,v.flat=true:=by
 intro v hv
 simp only [us,LV.l_of,List.mem_map] at hv
 obtain ⟨x,_,rfl⟩:=hv
 rfl
theorem upd_u (x y:Unit→BitVec 64):(AV.u x).upd 0 (.u y)=.u y:=rfl
theorem us_set (rows:List (BitVec 64)) (i:Nat) (x:BitVec 64):(us rows).l.set i (.u fun _=>x)=(us (rows.set i x)).l:=by simp [us,List.map_set]
theorem copied_ok (n:Int) (rows:List (BitVec 64)) (hf:Fits n rows):Owns Tryz.prog γ 73 [encRel n rows] (.agg [.i fun _=>n,.sl 3 0 1 (fun _=>0) fun _=>n.toNat]) [.any,.any,.any,.run 0 1 fun _=>us rows]:=by
 refine Owns.go (ty:=ty) ty_eq mo Tryz.func73 rfl Tryz.ntmps73 Tryz.results73 Tryz.call73 (by simp) fun P C CQ D W F E hF=>?_
 cbv
 refine E.c (SCalls.of_owns (none_in n hf.1 hf.2.1) ?_ ?_)
 ·cbv;simp
 cbv
 obtain ⟨h0,h1,h2,h3⟩:=hf
 refine ⟨fun _=>⟨rfl,by simp,us_flat rows⟩,?_⟩
 cbv
 refine hF ?_ ?_
 ·cbv;simp
 ·cbv
  simp
  have e:n.toNat=rows.length:=by simp only [nc] at h2;omega
  rw [e]
  simp [us,List.take_of_length_le]
def wStep (by_:Nat) (rows:List (BitVec 64)) (i:Nat):List (BitVec 64):=
 if (rows.getD i 0 >>> by_) &&& 1#64=0#64 then rows else rows.set i (rows.getD i 0 ||| rows.getD by_ 0)
def wIn (by_ k:Nat) (rows:List (BitVec 64)):List (BitVec 64):=(List.range k).foldl (wStep by_) rows
def wOut (m:Nat) (rows:List (BitVec 64)):List (BitVec 64):=(List.range m).foldl (fun r b=>wIn b rows.length r) rows
theorem wStep_len (b:Nat) (rows:List (BitVec 64)) (i:Nat):(wStep b rows i).length=rows.length:=by unfold wStep;split<;>simp
theorem wIn_succ (b k:Nat) (rows:List (BitVec 64)):wIn b (k+1) rows=wStep b (wIn b k rows) k:=by simp [wIn,List.range_succ]
theorem wIn_len (b:Nat) (rows:List (BitVec 64)):∀ k,(wIn b k rows).length=rows.length
 | 0=>rfl
 | k+1=>by rw [wIn_succ,wStep_len,wIn_len b rows k]
theorem wOut_succ (m:Nat) (rows:List (BitVec 64)):wOut (m+1) rows=wIn m rows.length (wOut m rows):=by simp [wOut,List.range_succ]
theorem wOut_len (rows:List (BitVec 64)):∀ m,(wOut m rows).length=rows.length
 | 0=>rfl
 | m+1=>by rw [wOut_succ,wIn_len,wOut_len rows m]
def plusM (n:Int) (rows:List (BitVec 64)):List (BitVec 64):=wOut n.toNat rows
theorem plus_ok (n:Int) (rows:List (BitVec 64)) (hf:Fits n rows):Pure Tryz.prog γ false 46 [encRel n rows] (encRel n (plusM n rows)):=by
 refine Pure.go (ty:=ty) ty_eq mo Tryz.func46 rfl Tryz.ntmps46 Tryz.results46 Tryz.call46 (by simp) fun P C CQ D W F E hF=>?_
 cbv
 refine E.c (SCalls.of_le (check_ok n rows) ?_ ?_)
 ·cbv;simp
 cbv
 refine br_f (by simp [checkM,hf]) ?_
 cbv
 refine E.c (SCalls.of_owns (copied_ok n rows hf) ?_ ?_)
 ·cbv;simp
 cbv
 obtain ⟨h0,h1,h2,h3⟩:=hf
 obtain ⟨len,hlen⟩:∃ len:Nat,n=len:=⟨n.toNat,by omega⟩
 subst hlen
 simp only [Int.toNat_natCast,nc,nct]
 have h2:rows.length=len:=by first | omega | (simp only [nc] at h2;omega)
 have hl:len≤64:=by omega
 refine E.loop (ι:=Nat) (fun m=>m≤len) (fun m=>len-m) (fun m=>[(15,.i fun _=>(m:Int))])
  (fun m=>[.box (encRel len rows),.box (.agg [.lit 0,.nils]),.any,.any,.any,.run 0 1 fun _=>us (wOut m rows),.box (.agg [.i fun _=>len,.sl 5 0 1 (fun _=>0) fun _=>len])])
  0 rfl (fun _=>rfl) (Nat.zero_le _) ?_ fun m hm I hI=>?_
 ·cbv
  simp [wOut]
 cbv
 refine ⟨fun _ h4=>?_,fun _ h4=>?_⟩
 ·cbv
  have hmm:m<len:=by simpa using h4
  refine E.loop (ι:=Nat) (fun k=>k≤len) (fun k=>len-k) (fun k=>[(21,.i fun _=>(k:Int))])
   (fun k=>[.box (encRel len rows),.box (.agg [.lit 0,.nils]),.any,.any,.any,.run 0 1 fun _=>us (wIn m k (wOut m rows)),.box (.agg [.i fun _=>len,.sl 5 0 1 (fun _=>0) fun _=>len])])
   0 rfl (fun _=>rfl) (Nat.zero_le _) ?_ fun k hk I2 hI2=>?_
  ·cbv
   simp [wIn]
  cbv
  refine ⟨fun _ h5=>?_,fun _ h5=>?_⟩
  ·cbv
   have hkk:k<len:=by simpa using h5
   have hlw:(wIn m k (wOut m rows)).length=len:=by rw [wIn_len,wOut_len,h2]
   have hku:k<(wIn m k (wOut m rows)).length:=by omega
   have hmu:m<(wIn m k (wOut m rows)).length:=by omega
   have hsh:(BitVec.ofInt 64 (m:Int)).toNat=m:=by simp;omega
   refine ⟨fun _=>by simp;omega,fun _=>⟨rfl,by simp;omega⟩,fun _=>by rw [Nat.zero_add,nct,us_get _ k hku];rfl,fun _ h6=>?_,fun _ h6=>?_⟩
   ·cbv
    refine E.d 12 (by kernel_rfl) ?_
    cbv
    refine ⟨fun _=>by simp;omega,fun _=>⟨rfl,by simp;omega⟩,fun _=>by rw [Nat.zero_add,nct,us_get _ k hku];rfl,fun _=>by simp;omega,fun _=>⟨rfl,by simp;omega⟩,fun _=>by rw [Nat.zero_add,nct,us_get _ m hmu];rfl,fun _=>by simp;omega,
     fun _=>⟨rfl,by simp;omega,by rw [Nat.zero_add,nct,us_get _ k hku];rfl⟩,?_⟩
    refine hI2 (k+1) (by omega) (by omega) ?_
    cbv
    clear hI hI2
    simp only [Nat.zero_add,nct,us_get _ k hku,at_u,nc,hsh] at h6
    simp only [Nat.zero_add,nct,us_get _ k hku,us_get _ m hmu,at_u,upd_u,us_set,us_of,nc]
    simp only [implies_true,and_true,true_and,forall_const]
    refine ⟨w64_of (by omega) (by omega),?_⟩
    rw [wIn_succ,wStep,if_neg (by simpa using h6)]
   ·cbv
    refine hI2 (k+1) (by omega) (by omega) ?_
    cbv
    clear hI hI2
    simp
    simp only [Nat.zero_add,nct,us_get _ k hku,at_u,nc,hsh] at h6
    refine ⟨w64_of (by omega) (by omega),?_⟩
    rw [wIn_succ,wStep,if_pos (by simpa using h6)]
  ·cbv
   refine hI (m+1) (by omega) (by omega) ?_
   cbv
   clear hI hI2
   have:k=len:=by simp at h5;omega
   simp
   refine ⟨w64_of (by omega) (by omega),?_⟩
   rw [wOut_succ,this,h2]
 ·cbv
  refine hF ?_
  cbv
  clear hI
  have hml:m=len:=by simp at h4;omega
  have hlw:(wOut m rows).length=len:=by rw [wOut_len,h2]
  simp [plusM]
  rw [hml] at hlw ⊢
  exact ⟨by omega,by rw [List.take_of_length_le (by simp;omega)]⟩
end Go.AL.Rl
namespace Go.Proofs
end Go.Proofs
namespace Go.AL.Rl
open Go Go.AL Go.Proofs
variable {γ:Nat→Option AV}
set_option maxRecDepth 100000
end Go.AL.Rl
namespace Go.AL.Rl
open Go Go.AL Go.Proofs
variable {γ:Nat→Option AV}
set_option maxRecDepth 100000
def reachTo (q:Nat) (rows:List (BitVec 64)) (from_:BitVec 64):BitVec 64:=(List.range q).foldl (fun a p=>if from_.getLsbD p then a ||| rows.getD p 0 else a) 0#64
theorem reachTo_succ (q:Nat) (rows:List (BitVec 64)) (f:BitVec 64):reachTo (q+1) rows f=if f.getLsbD q then reachTo q rows f ||| rows.getD q 0 else reachTo q rows f:=by simp [reachTo,List.range_succ]
def reachM (rows:List (BitVec 64)) (from_:BitVec 64):BitVec 64:=reachTo 64 rows from_
theorem fullM_bit (k:Nat) (hk:k≤64) (p:Nat) (hp:p<64):(fullM k).getLsbD p=decide (p<k):=by
 have e:(fullM k).toNat=2 ^ k-1:=by
  unfold fullM
  rw [show (BitVec.ofInt 64 (k:Int)).toNat=k from by simp;omega]
  rcases Nat.lt_or_ge k 64 with h | h
  ·have h2:(1#64 <<< k).toNat=2 ^ k:=by
    rw [BitVec.toNat_shiftLeft,Nat.shiftLeft_eq]
    simp
    exact Nat.pow_lt_pow_right (by omega) h
   have hpos:0<2 ^ k:=Nat.pow_pos (by omega)
   rw [BitVec.toNat_sub_of_le (by rw [BitVec.le_def,h2];exact hpos),h2]
   rfl
  ·obtain rfl:k=64:=by omega
   rfl
 show (fullM k).toNat.testBit p=_
 rw [e,Nat.testBit_two_pow_sub_one]
theorem fits_bit {n:Int} {rows:List (BitVec 64)} (hf:Fits n rows) {f:BitVec 64} {p:Nat} (hp:p<64) (h:(f &&& fullM n).getLsbD p=true):p<rows.length:=by
 obtain ⟨h0,h1,h2,_⟩:=hf
 obtain ⟨k,rfl⟩:∃ k:Nat,n=k:=⟨n.toNat,by omega⟩
 rw [BitVec.getLsbD_and,fullM_bit k (by omega) p hp] at h
 simp at h
 omega
theorem fits_row {n:Int} {rows:List (BitVec 64)} (hf:Fits n rows) {r:BitVec 64} (hr:r∈rows) {p:Nat} (hp:p<64) (h:r.getLsbD p=true):p<rows.length:=by
 refine fits_bit hf (f:=r) hp ?_
 have:=congrArg (fun x:BitVec 64=>x.getLsbD p) (hf.2.2.2 r hr)
 rw [BitVec.getLsbD_and,h,Bool.true_and,BitVec.getLsbD_eq_getElem hp]
 simpa [h,hp] using this
end Go.AL.Rl
namespace Go.AL.Rl
open Go Go.AL Go.Proofs
variable {γ:Nat→Option AV}
set_option maxRecDepth 100000
theorem ints_ok (r q:List Int) (hr:r.length<4611686018427387904):Pure Tryz.prog γ false 11 [.vs 1 fun _=>is r,.vs 1 fun _=>is q] (.b fun _=>decide (r=q)):=by
 refine Pure.go (ty:=ty) ty_eq mo Tryz.func11 rfl Tryz.ntmps11 Tryz.results11 Tryz.call11 (by simp) fun P C CQ D W F E hF=>?_
 cbv
 refine ⟨fun _ h1=>?_,fun _ h1=>?_⟩
 ·cbv
  refine hF ?_
  cbv
  intro _
  simp at h1 ⊢
  rintro rfl
  omega
 cbv
 have e1:r.length=q.length:=by simp at h1;omega
 refine E.loop (ι:=Nat) (fun i=>i≤r.length∧∀ k<i,r.getD k 0=q.getD k 0) (fun i=>r.length-i) (fun i=>[(5,.i fun _=>(i:Int))]) (fun _=>[]) 0 rfl (fun _=>rfl) ⟨Nat.zero_le _,by simp⟩ ?_ fun i hi I hI=>?_
 ·cbv
  simp
 cbv
 refine ⟨fun _ h2=>?_,fun _ h2=>?_⟩
 ·cbv
  have hlt:i<r.length:=by simpa using h2
  refine E.d 9 (by kernel_rfl) ?_
  cbv
  refine ⟨fun _=>by simp;omega,fun _=>by rw [nct,is_get _ i hlt];rfl,fun _=>by simp;omega,fun _=>by rw [nct,is_get _ i (by omega)];rfl,fun _ h3=>?_,fun _ h3=>?_⟩
  ·cbv
   refine hF ?_
   cbv
   clear hI
   simp only [nct,is_get _ i hlt,is_get q i (by omega),at_i] at h3
   intro _
   simp at h3 ⊢
   rintro rfl
   simp at h3
  ·cbv
   refine hI (i+1) ?_ (by omega) ?_
   ·clear hI
    simp only [nct,is_get _ i hlt,is_get q i (by omega),at_i] at h3
    refine ⟨hlt,fun k hk=>?_⟩
    rcases Nat.lt_or_ge k i with h | h
    ·exact hi.2 k h
    ·obtain rfl:k=i:=by omega
     simpa using h3
   ·cbv
    clear hI
    simp
    exact w64_of (by omega) (by omega)
 ·cbv
  refine hF ?_
  cbv
  clear hI
  intro _
  have:i=r.length:=by simp at h2;omega
  simp
  refine List.ext_getElem e1 fun k h1 h2=>?_
  have:=hi.2 k (by omega)
  simpa [h1,h2] using this
theorem plusM_len (n:Int) (rows:List (BitVec 64)):(plusM n rows).length=rows.length:=wOut_len _ _
end Go.AL.Rl
namespace Go.AL.Rl
open Go Go.AL Go.Proofs
variable {γ:Nat→Option AV}
set_option maxRecDepth 100000
def tIn (i:Nat) (row:BitVec 64) (q:Nat) (acc:List (BitVec 64)):List (BitVec 64):=
 (List.range q).foldl (fun a p=>if row.getLsbD p then a.set p (a.getD p 0 ||| 1#64 <<< i) else a) acc
theorem tIn_succ (i:Nat) (row:BitVec 64) (q:Nat) (acc:List (BitVec 64)):tIn i row (q+1) acc=if row.getLsbD q then (tIn i row q acc).set q ((tIn i row q acc).getD q 0 ||| 1#64 <<< i) else tIn i row q acc:=by simp [tIn,List.range_succ]
theorem tIn_len (i:Nat) (row:BitVec 64) (acc:List (BitVec 64)):∀ q,(tIn i row q acc).length=acc.length
 | 0=>rfl
 | q+1=>by rw [tIn_succ];split<;>simp [tIn_len i row acc q]
def tOut (m:Nat) (rows:List (BitVec 64)):List (BitVec 64):=(List.range m).foldl (fun a i=>tIn i (rows.getD i 0) 64 a) (List.replicate rows.length 0#64)
theorem tOut_succ (m:Nat) (rows:List (BitVec 64)):tOut (m+1) rows=tIn m (rows.getD m 0) 64 (tOut m rows):=by simp [tOut,List.range_succ]
theorem tOut_len (rows:List (BitVec 64)):∀ m,(tOut m rows).length=rows.length
 | 0=>by simp [tOut]
 | m+1=>by rw [tOut_succ,tIn_len,tOut_len rows m]
def turnM (rows:List (BitVec 64)):List (BitVec 64):=tOut rows.length rows
end Go.AL.Rl
namespace Go.AL.Rl
def bit (rows:List (BitVec 64)) (i j:Nat):Bool:=(rows.getD i 0).getLsbD j
theorem and_one_zero (x:BitVec 64) (k:Nat):((x >>> k) &&& 1#64=0#64)↔x.getLsbD k=false:=by
 constructor
 ·intro h
  have:=congrArg (fun y:BitVec 64=>y.getLsbD 0) h
  simpa [BitVec.getLsbD_and,BitVec.getLsbD_ushiftRight] using this
 ·intro h
  apply BitVec.eq_of_getLsbD_eq
  intro i hi
  rw [BitVec.getLsbD_and,BitVec.getLsbD_ushiftRight,BitVec.getLsbD_one,BitVec.getLsbD_zero]
  by_cases h0:i=0
  ·subst h0;simp [h]
  ·simp [h0]
theorem getD_set_self (l:List (BitVec 64)) (i:Nat) (x:BitVec 64) (h:i<l.length):(l.set i x).getD i 0=x:=by simp [h]
theorem getD_set_ne' (l:List (BitVec 64)) (i k:Nat) (x:BitVec 64) (h:i≠k):(l.set i x).getD k 0=l.getD k 0:=by simp [List.getElem?_set_ne h]
theorem wStep_get (b:Nat) (rows:List (BitVec 64)) (i:Nat) (hi:i<rows.length) (k:Nat) :
  (wStep b rows i).getD k 0=if k=i∧bit rows i b=true then rows.getD i 0 ||| rows.getD b 0 else rows.getD k 0:=by
 unfold wStep
 by_cases hb:bit rows i b=true
 ·rw [if_neg (by rw [and_one_zero];unfold bit at hb;simp only [hb];simp)]
  by_cases hk:k=i
  ·subst hk;rw [getD_set_self _ _ _ hi,if_pos ⟨rfl,hb⟩]
  ·rw [getD_set_ne' _ _ _ _ (Ne.symm hk),if_neg (fun h=>hk h.1)]
 ·rw [if_pos (by rw [and_one_zero];unfold bit at hb;simpa using hb),if_neg (fun h=>hb h.2)]
theorem wIn_get (b:Nat) (rows:List (BitVec 64)):∀ (k:Nat),k≤rows.length→∀ i,(wIn b k rows).getD i 0=if i<k∧bit rows i b=true then rows.getD i 0 ||| rows.getD b 0 else rows.getD i 0
 | 0,_,i=>by simp [wIn]
 | k+1,hk,i=>by
  have ih:=wIn_get b rows k (by omega)
  have hrowb:(wIn b k rows).getD b 0=rows.getD b 0:=by
   rw [ih b];split
   ·simp
   ·rfl
  have hrowk:(wIn b k rows).getD k 0=rows.getD k 0:=by
   rw [ih k,if_neg (by omega)]
  rw [wIn_succ,wStep_get b _ k (by rw [wIn_len];omega) i,hrowb,hrowk]
  have hbk:bit (wIn b k rows) k b=bit rows k b:=by unfold bit;rw [hrowk]
  rw [hbk]
  by_cases hik:i=k
  ·subst hik
   by_cases hb:bit rows i b=true
   ·rw [if_pos ⟨rfl,hb⟩,if_pos ⟨by omega,hb⟩]
   ·rw [if_neg (fun h=>hb h.2),if_neg (fun h=>hb h.2),hrowk]
  ·rw [if_neg (fun h=>hik h.1),ih i]
   by_cases hlt:i<k
   ·by_cases hb:bit rows i b=true
    ·rw [if_pos ⟨hlt,hb⟩,if_pos ⟨by omega,hb⟩]
    ·rw [if_neg (fun h=>hb h.2),if_neg (fun h=>hb h.2)]
   ·rw [if_neg (fun h=>hlt h.1),if_neg (fun h=>by omega)]
theorem bit_out {rows:List (BitVec 64)} {i:Nat} (h:rows.length≤i) (j:Nat):bit rows i j=false:=by
 unfold bit
 rw [List.getD_eq_getElem?_getD,List.getElem?_eq_none h]
 simp
theorem bit_wIn (b:Nat) (rows:List (BitVec 64)) (i j:Nat):bit (wIn b rows.length rows) i j=(bit rows i j || (bit rows i b && bit rows b j)):=by
 by_cases hi:i<rows.length
 ·unfold bit
  rw [wIn_get b rows _ (Nat.le_refl _) i]
  by_cases hb:bit rows i b=true
  ·rw [if_pos ⟨hi,hb⟩]
   unfold bit at hb
   rw [BitVec.getLsbD_or,hb,Bool.true_and]
  ·rw [if_neg (fun h=>hb h.2)]
   unfold bit at hb
   simp only [Bool.not_eq_true] at hb
   rw [hb];simp
 ·rw [bit_out (by rw [wIn_len];omega),bit_out (by omega),bit_out (i:=i) (by omega)];rfl
def Way (rows:List (BitVec 64)) (m i j:Nat):Prop:=bit (wOut m rows) i j=true
theorem way_succ (rows:List (BitVec 64)) (m i j:Nat):Way rows (m+1) i j↔Way rows m i j∨(Way rows m i m∧Way rows m m j):=by
 unfold Way
 rw [wOut_succ,show rows.length=(wOut m rows).length from (wOut_len _ _).symm,bit_wIn]
 simp
theorem way_trans (rows:List (BitVec 64)):∀ (m i k j:Nat),k<m→Way rows m i k→Way rows m k j→Way rows m i j
 | 0,i,k,j,h,_,_=>by omega
 | m+1,i,k,j,h,h1,h2=>by
  rw [way_succ] at h1 h2 ⊢
  by_cases hk:k=m
  ·subst hk
   exact .inr ⟨h1.elim id (·.1),h2.elim id (·.2)⟩
  ·have hk':k<m:=by omega
   have tr:=fun i j=>way_trans rows m i k j hk'
   rcases h1 with h1 | ⟨h1,h1'⟩<;>rcases h2 with h2 | ⟨h2,h2'⟩
   ·exact .inl (tr i j h1 h2)
   ·exact .inr ⟨tr i m h1 h2,h2'⟩
   ·exact .inr ⟨h1,tr m j h1' h2⟩
   ·exact .inr ⟨h1,h2'⟩
theorem way_mono (rows:List (BitVec 64)) (m i j:Nat):∀ d,Way rows m i j→Way rows (m+d) i j
 | 0,h=>h
 | d+1,h=>by rw [←Nat.add_assoc,way_succ];exact .inl (way_mono rows m i j d h)
theorem way_edge (rows:List (BitVec 64)) (m i j:Nat) (h:bit rows i j=true):Way rows m i j:=by
 have:=way_mono rows 0 i j m h
 simpa using this
theorem way_least (rows:List (BitVec 64)) (T:Nat→Nat→Prop) (h1:∀ i j,bit rows i j=true→T i j) (h2:∀ i k j,T i k→T k j→T i j):∀ (m i j:Nat),Way rows m i j→T i j
 | 0,i,j,h=>h1 i j h
 | m+1,i,j,h=>by
  rw [way_succ] at h
  rcases h with h | ⟨h,h'⟩
  ·exact way_least rows T h1 h2 m i j h
  ·exact h2 i m j (way_least rows T h1 h2 m i m h) (way_least rows T h1 h2 m m j h')
end Go.AL.Rl
namespace Go.AL.Rl
open Go Go.AL Go.Proofs
variable {γ:Nat→Option AV}
set_option maxRecDepth 100000
def ps (l:List (Int × Int)):LV:=LV.of (l.map fun x=>.agg [.i fun _=>x.1,.i fun _=>x.2])
@[simp] theorem ps_len (l:List (Int × Int)):(ps l).l.length=l.length:=by simp [ps]
theorem ps_get (l:List (Int × Int)) (i:Nat) (h:i<l.length):(ps l).l.getD i .any=.agg [.i fun _=>(l.getD i (0,0)).1,.i fun _=>(l.getD i (0,0)).2]:=by
 simp [ps,h]
theorem at_p0 (x y:Unit→Int):((AV.agg [.i x,.i y]).at 0).asI=x ():=rfl
theorem at_p1 (x y:Unit→Int):((AV.agg [.i x,.i y]).at 1).asI=y ():=rfl
def ofStep (n:Int) (acc:List (BitVec 64)) (p:Int × Int):List (BitVec 64):=
 if 0≤p.1∧p.1<n∧0≤p.2∧p.2<n then acc.set p.1.toNat (acc.getD p.1.toNat 0 ||| 1#64 <<< p.2.toNat) else acc
def ofTo (n:Int) (l:List (Int × Int)) (k:Nat):List (BitVec 64):=(l.take k).foldl (ofStep n) (List.replicate n.toNat 0#64)
theorem ofTo_succ (n:Int) (l:List (Int × Int)) (k:Nat) (h:k<l.length):ofTo n l (k+1)=ofStep n (ofTo n l k) (l.getD k (0,0)):=by
 rw [ofTo,List.take_succ_eq_append_getElem h,List.foldl_append];simp only [List.foldl_cons,List.foldl_nil,List.getD_eq_getElem?_getD,List.getElem?_eq_getElem h,Option.getD_some];rfl
theorem ofStep_len (n:Int) (acc:List (BitVec 64)) (p:Int × Int):(ofStep n acc p).length=acc.length:=by unfold ofStep;split<;>simp
theorem ofTo_len (n:Int) (l:List (Int × Int)) (k:Nat):(ofTo n l k).length=n.toNat:=by
 unfold ofTo
 generalize l.take k=q
 have:∀ (q:List (Int × Int)) (a:List (BitVec 64)),(q.foldl (ofStep n) a).length=a.length:=by
  intro q
  induction q with
  | nil=>intro a;rfl
  | cons x q ih=>intro a;rw [List.foldl_cons,ih,ofStep_len]
 rw [this];simp
theorem of_in (n:Int) (l:List (Int × Int)) (h0:0≤n) (h1:n≤64) (hl:l.length<4611686018427387904):Pure Tryz.prog γ false 98 [.i fun _=>n,.vs 2 fun _=>ps l] (encRel n (ofTo n l l.length)):=by
 refine Pure.go (ty:=ty) ty_eq mo Tryz.func98 rfl Tryz.ntmps98 Tryz.results98 Tryz.call98 (by simp) fun P C CQ D W F E hF=>?_
 cbv
 refine E.c (SCalls.of_owns (none_in n h0 h1) ?_ ?_)
 ·cbv;simp
 cbv
 obtain ⟨len,hlen⟩:∃ len:Nat,n=len:=⟨n.toNat,by omega⟩
 subst hlen
 simp only [Int.toNat_natCast,nc]
 have hln:len≤64:=by omega
 refine E.loop (ι:=Nat) (fun m=>m≤l.length) (fun m=>l.length-m) (fun m=>[(12,.i fun _=>(m:Int))])
  (fun m=>[.box (.agg [.lit 0,.nils]),.any,.run 0 1 fun _=>us (ofTo len l m),.box (.agg [.i fun _=>len,.sl 2 0 1 (fun _=>0) fun _=>len])])
  0 rfl (fun _=>rfl) (Nat.zero_le _) ?_ fun m hm I hI=>?_
 ·cbv
  simp [ofTo]
 cbv
 refine ⟨fun _ h4=>?_,fun _ h4=>?_⟩
 ·cbv
  have hmr:m<l.length:=by simp at h4;omega
  refine ⟨fun _=>by simp;omega,fun _=>by rw [nct,ps_get _ m hmr];rfl,?_⟩
  cbv
  have hs:=ofTo_succ len l m hmr
  simp only [nct,ps_get _ m hmr,at_p0,at_p1]
  generalize l.getD m (0,0)=p at hs ⊢
  have hlw:(ofTo len l m).length=len:=by rw [ofTo_len];simp
  have no:¬ (0≤p.1∧p.1<len∧0≤p.2∧p.2<len)→ofTo len l (m+1)=ofTo len l m:=fun h=>by rw [hs,ofStep,if_neg h]
  refine ⟨fun _ h5=>?_,fun _ h5=>?_⟩
  ·cbv
   simp at h5
   refine ⟨fun _ h6=>?_,fun _ h6=>?_⟩
   ·cbv
    simp at h6
    refine ⟨fun _ h7=>?_,fun _ h7=>?_⟩
    ·cbv
     simp at h7
     refine ⟨fun _ h8=>?_,fun _ h8=>?_⟩
     ·cbv
      simp at h8
      refine E.d 12 (by kernel_rfl) ?_
      cbv
      simp only [nc] at hlw h5 h6 h7 h8
      have hp:p.1.toNat<(ofTo len l m).length:=by omega
      have hsh:(BitVec.ofInt 64 p.2).toNat=p.2.toNat:=by simp;omega
      refine ⟨fun _=>by simp only [nc];omega,fun _=>⟨rfl,by simp;omega⟩,fun _=>by rw [Nat.zero_add,us_get _ _ hp];rfl,fun _=>by simp only [nc];omega,fun _=>⟨rfl,by simp;omega,by rw [Nat.zero_add,us_get _ _ hp];rfl⟩,?_⟩
      refine hI (m+1) (by omega) (by omega) ?_
      cbv
      clear hI
      simp only [nc] at hs h6 h8
      simp only [Nat.zero_add,nc,us_get _ _ hp,at_u,upd_u,us_set,us_of,hsh]
      simp only [implies_true,and_true,true_and,forall_const]
      refine ⟨w64_of (by omega) (by omega),?_⟩
      rw [hs,ofStep,if_pos ⟨h5,h6,h7,h8⟩]
      rfl
     ·cbv
      refine hI (m+1) (by omega) (by omega) ?_
      cbv
      clear hI
      simp at h8
      simp
      refine ⟨w64_of (by omega) (by omega),?_⟩
      simp only [nc] at no
      rw [no (fun h=>absurd h.2.2.2 (by simpa using h8))]
    ·cbv
     refine hI (m+1) (by omega) (by omega) ?_
     cbv
     clear hI
     simp at h7
     simp
     exact ⟨w64_of (by omega) (by omega),by rw [no (by omega)]⟩
   ·cbv
    refine hI (m+1) (by omega) (by omega) ?_
    cbv
    clear hI
    simp at h6
    simp
    refine ⟨w64_of (by omega) (by omega),?_⟩
    simp only [nc] at no
    rw [no (fun h=>absurd h.2.1 (by simpa using h6))]
  ·cbv
   refine hI (m+1) (by omega) (by omega) ?_
   cbv
   clear hI
   simp at h5
   simp
   exact ⟨w64_of (by omega) (by omega),by rw [no (by omega)]⟩
 ·cbv
  refine hF ?_
  cbv
  clear hI
  have hml:m=l.length:=by simp at h4;omega
  have hlw:(ofTo len l l.length).length=len:=by rw [ofTo_len];simp
  simp [hml]
  exact ⟨by omega,by rw [List.take_of_length_le (by simp;omega)]⟩
end Go.AL.Rl
namespace Go.AL.Rl
open Go Go.AL Go.Proofs
variable {γ:Nat→Option AV}
set_option maxRecDepth 100000
def cand (ahead:List (BitVec 64)) (left:BitVec 64) (i:Nat):Prop:=left.getLsbD i=true∧ahead.getD i 0 &&& left=0#64
inductive Sorts (ahead:List (BitVec 64)) (len:Nat):BitVec 64→List Int→List Int→Prop
 | done (acc:List Int):Sorts ahead len 0#64 acc acc
 | step (left:BitVec 64) (acc res:List Int) (i:Nat) (hi:i<len) (hc:cand ahead left i) (hn:∀ k<i,¬ cand ahead left k) (h:Sorts ahead len (left &&& ~~~ (1#64 <<< i)) (acc++[(i:Int)]) res):Sorts ahead len left acc res
def cnt (x:BitVec 64):Nat:=(List.range 64).countP fun p=>x.getLsbD p
theorem cnt_le (x:BitVec 64):cnt x≤64:=by
 have:=List.countP_le_length (p:=fun p=>x.getLsbD p) (l:=List.range 64)
 simpa [cnt] using this
end Go.AL.Rl
namespace Go.AL.Rl
open Go Go.AL Go.Proofs
variable {γ:Nat→Option AV}
set_option maxRecDepth 100000
end Go.AL.Rl
namespace Go.AL.Rl
theorem bit_reachTo (rows:List (BitVec 64)) (f:BitVec 64) (j:Nat):∀ q,(reachTo q rows f).getLsbD j=true↔∃ p,p<q∧f.getLsbD p=true∧bit rows p j=true
 | 0=>by simp [reachTo]
 | q+1=>by
  have ih:=bit_reachTo rows f j q
  rw [reachTo_succ]
  constructor
  ·intro h
   split at h
   ·rename_i hf
    rw [BitVec.getLsbD_or,Bool.or_eq_true,ih] at h
    rcases h with ⟨p,h1,h2⟩ | h
    ·exact ⟨p,by omega,h2⟩
    ·exact ⟨q,by omega,hf,h⟩
   ·obtain ⟨p,h1,h2⟩:=ih.1 h
    exact ⟨p,by omega,h2⟩
  ·rintro ⟨p,h1,h2,h3⟩
   by_cases hp:p=q
   ·subst hp
    rw [if_pos h2,BitVec.getLsbD_or]
    unfold bit at h3
    rw [h3,Bool.or_true]
   ·have:=ih.2 ⟨p,by omega,h2,h3⟩
    split
    ·rw [BitVec.getLsbD_or,this,Bool.true_or]
    ·exact this
theorem bit_reach (rows:List (BitVec 64)) (f:BitVec 64) (j:Nat):(reachM rows f).getLsbD j=true↔∃ p,f.getLsbD p=true∧bit rows p j=true:=by
 unfold reachM
 rw [bit_reachTo]
 constructor
 ·rintro ⟨p,_,h⟩;exact ⟨p,h⟩
 ·rintro ⟨p,h⟩
  refine ⟨p,?_,h⟩
  rcases Nat.lt_or_ge p 64 with h' | h'
  ·exact h'
  ·rw [BitVec.getLsbD_of_ge _ _ h'] at h;cases h.1
theorem fits_bits {n:Int} {rows:List (BitVec 64)} (hf:Fits n rows) {i j:Nat} (h:bit rows i j=true):i<rows.length∧j<rows.length:=by
 have hi:i<rows.length:=by
  rcases Nat.lt_or_ge i rows.length with h' | h'
  ·exact h'
  ·rw [bit_out h'] at h;cases h
 have hj:j<64:=by
  rcases Nat.lt_or_ge j 64 with h' | h'
  ·exact h'
  ·unfold bit at h;rw [BitVec.getLsbD_of_ge _ _ h'] at h;cases h
 refine ⟨hi,fits_row hf (r:=rows.getD i 0) ?_ hj h⟩
 simp [hi]
theorem fits_mk {n:Nat} {rows:List (BitVec 64)} (hn:n≤64) (hl:rows.length=n) (h:∀ i j,bit rows i j=true→j<n):Fits n rows:=by
 refine ⟨by omega,by omega,by omega,fun r hr=>?_⟩
 obtain ⟨i,hi,rfl⟩:=List.getElem_of_mem hr
 apply BitVec.eq_of_getLsbD_eq
 intro j hj
 rw [BitVec.getLsbD_and,BitVec.getLsbD_not,fullM_bit n hn j hj,BitVec.getLsbD_zero]
 have:=h i j
 unfold bit at this
 rw [List.getD_eq_getElem?_getD,List.getElem?_eq_getElem hi,Option.getD_some] at this
 cases hb:rows[i].getLsbD j with
 | false=>rfl
 | true=>simp [hj,this hb]
theorem fits_n {n:Int} {rows:List (BitVec 64)} (hf:Fits n rows):n=rows.length∧rows.length≤64:=by
 have:=hf.1;have:=hf.2.1;have:=hf.2.2.1;omega
theorem fits_plus {n:Int} {rows:List (BitVec 64)} (hf:Fits n rows):Fits n (plusM n rows):=by
 obtain ⟨h1,h2⟩:=fits_n hf
 rw [h1]
 refine fits_mk h2 (plusM_len _ _) fun i j h=>?_
 exact way_least rows (fun _ j=>j<rows.length) (fun i j h=>(fits_bits hf h).2) (fun _ _ _ _ h=>h) _ i j h
theorem plus_edge {n:Int} {rows:List (BitVec 64)} {i j:Nat} (h:bit rows i j=true):bit (plusM n rows) i j=true:=way_edge rows _ i j h
theorem plus_trans {n:Int} {rows:List (BitVec 64)} (hf:Fits n rows) {i k j:Nat} (h1:bit (plusM n rows) i k=true) (h2:bit (plusM n rows) k j=true):bit (plusM n rows) i j=true:=by
 refine way_trans rows n.toNat i k j ?_ h1 h2
 have h3:=(fits_bits (fits_plus hf) h1).2
 have h4:=fits_n hf
 rw [plusM_len] at h3
 omega
theorem plus_least {n:Int} {rows:List (BitVec 64)} (T:Nat→Nat→Prop) (h1:∀ i j,bit rows i j=true→T i j) (h2:∀ i k j,T i k→T k j→T i j) {i j:Nat} (h:bit (plusM n rows) i j=true):T i j:=
 way_least rows T h1 h2 _ i j h
section
variable {n:Int} {rows:List (BitVec 64)} (hf:Fits n rows) (f:BitVec 64)
include hf
end
end Go.AL.Rl
namespace Go.AL.Rl
open Go Go.AL Go.Proofs
variable {γ:Nat→Option AV}
set_option maxRecDepth 100000
end Go.AL.Rl
namespace Go.AL.Rl
open Go Go.AL Go.Proofs
variable {γ:Nat→Option AV}
set_option maxRecDepth 100000
def tab (n:Nat) (f:Nat→BitVec 64):List (BitVec 64):=(List.range n).map f
@[simp] theorem tab_len (n:Nat) (f:Nat→BitVec 64):(tab n f).length=n:=by simp [tab]
theorem tab_get (n:Nat) (f:Nat→BitVec 64) (i:Nat) (h:i<n):(tab n f).getD i 0=f i:=by simp [tab,h]
theorem tab_congr {n:Nat} {f g:Nat→BitVec 64} (h:∀ i<n,f i=g i):tab n f=tab n g:=List.map_congr_left fun i hi=>h i (by simpa using hi)
theorem tab_set {n:Nat} {f g:Nat→BitVec 64} (i:Nat) (x:BitVec 64) (_:i<n) (hx:g i=x) (h:∀ j<n,j≠i→g j=f j):(tab n f).set i x=tab n g:=by
 apply List.ext_getElem (by simp)
 intro j h1 h2
 have hj:j<n:=by simpa using h2
 rw [List.getElem_set]
 split
 ·rename_i e;subst e;simp [tab,hx]
 ·rename_i e;simp [tab];exact (h j hj (Ne.symm e)).symm
theorem tab_self (rows:List (BitVec 64)):tab rows.length (fun i=>rows.getD i 0)=rows:=by
 apply List.ext_getElem (by simp)
 intro j h1 h2
 simp [tab,h2]
theorem tab_zero (n:Nat):tab n (fun _=>0#64)=List.replicate n 0#64:=by
 apply List.ext_getElem (by simp)
 intro j h1 h2
 simp [tab]
theorem fits_len {n:Int} {rows:List (BitVec 64)} (hf:Fits n rows):∃ k:Nat,n=k∧rows.length=k∧k≤64:=by
 have:=hf.1;have:=hf.2.1;have:=hf.2.2.1
 exact ⟨rows.length,by omega,rfl,by omega⟩
def hasM (n:Int) (rows:List (BitVec 64)) (i j:Int):Bool:=decide (Fits n rows∧0≤i∧i<n∧0≤j∧j<n) && bit rows i.toNat j.toNat
abbrev RelV:=Int × List (BitVec 64)
def rls (l:List RelV):LV:=LV.of (l.map fun r=>encRel r.1 r.2)
@[simp] theorem rls_len (l:List RelV):(rls l).l.length=l.length:=by simp [rls]
theorem rls_get (l:List RelV) (i:Nat) (h:i<l.length):(rls l).l.getD i .any=encRel (l.getD i (0,[])).1 (l.getD i (0,[])).2:=by
 simp [rls,h]
theorem at_r0 (x:Unit→Int) (y:AV):((AV.agg [.i x,y]).at 0).asI=x ():=rfl
theorem at_r1 (x:AV) (k:Nat) (y:Unit→LV):((AV.agg [x,.vs k y]).at 1).asL=y ():=rfl
def Alike (l:List RelV):Prop:=0<l.length∧∀ i<l.length,Fits (l.getD i (0,[])).1 (l.getD i (0,[])).2∧(l.getD i (0,[])).1=(l.getD 0 (0,[])).1
instance (l:List RelV):Decidable (Alike l):=by unfold Alike;infer_instance
theorem alike_ok (l:List RelV) (hl:l.length<4611686018427387904):Pure Tryz.prog γ false 100 [.vs 2 fun _=>rls l] (.b fun _=>decide (Alike l)):=by
 refine Pure.go (ty:=ty) ty_eq mo Tryz.func100 rfl Tryz.ntmps100 Tryz.results100 Tryz.call100 (by simp) fun P C CQ D W F E hF=>?_
 cbv
 refine E.loop (ι:=Nat) (fun m=>m≤l.length∧∀ k<m,Fits (l.getD k (0,[])).1 (l.getD k (0,[])).2∧(l.getD k (0,[])).1=(l.getD 0 (0,[])).1) (fun m=>l.length-m) (fun m=>[(7,.i fun _=>(m:Int))])
  (fun m=>[]) 0 rfl (fun _=>rfl) ⟨Nat.zero_le _,by simp⟩ ?_ fun m hm I hI=>?_
 ·cbv
  simp
 cbv
 refine ⟨fun _ h4=>?_,fun _ h4=>?_⟩
 ·cbv
  have hmm:m<l.length:=by simpa using h4
  refine ⟨fun _=>by simp;omega,fun _=>by rw [nct,rls_get _ m hmm];rfl,?_⟩
  cbv
  simp only [nct,rls_get _ m hmm,at_r0,at_r1]
  generalize hv:l.getD m (0,[])=v
  obtain ⟨vn,vr⟩:=v
  simp only
  refine E.d 12 (by kernel_rfl) ?_
  cbv
  refine E.q (QCalls.of_le (check_ok vn vr) ?_ ?_)
  ·cbv;all_goals simp
  cbv
  have hfit:l.getD m (0,[])=(vn,vr):=hv
  refine ⟨fun _ h5=>?_,fun _ h5=>?_⟩
  ·cbv
   refine hF ?_
   cbv
   intro _
   clear hI
   have:¬ Alike l:=fun h=>by
    have:=(h.2 m hmm).1
    rw [hfit] at this
    simp [checkM,this] at h5
   simp [this]
  cbv
  have hfv:Fits vn vr:=by
   by_cases h:Fits vn vr
   ·exact h
   ·simp [checkM,h] at h5
  refine ⟨fun _=>by simp;omega,fun _=>by rw [show (0:Int).toNat=0 from rfl,rls_get _ 0 (by omega)];rfl,?_⟩
  simp only [show (0:Int).toNat=0 from rfl,rls_get _ 0 (show 0<l.length by omega),at_r0]
  refine ⟨fun _ h6=>?_,fun _ h6=>?_⟩
  ·cbv
   refine hF ?_
   cbv
   intro _
   clear hI
   have:¬ Alike l:=fun h=>by
    have:=(h.2 m hmm).2
    rw [hfit] at this
    simp at h6
    exact h6 (by simpa using this)
   simp [this]
  ·cbv
   refine hI (m+1) ⟨hmm,fun k hk=>?_⟩ (by omega) ?_
   ·rcases Nat.lt_or_ge k m with h | h
    ·exact hm.2 k h
    ·obtain rfl:k=m:=by omega
     rw [hfit]
     exact ⟨hfv,by simpa using h6⟩
   ·cbv
    clear hI
    simp
    exact w64_of (by omega) (by omega)
 ·cbv
  refine hF ?_
  cbv
  clear hI
  intro _
  have:m=l.length:=by simp at h4;omega
  subst this
  simp
  exact ⟨fun h=>⟨h,hm.2⟩,fun h=>h.1⟩
end Go.AL.Rl
namespace Go.AL.Rl
open Go Go.AL Go.Proofs
variable {γ:Nat→Option AV}
set_option maxRecDepth 100000
theorem getD_mem {α:Type} {l:List α} {i:Nat} {d:α} (h:i<l.length):l.getD i d∈l:=by simp [h]
def orV (l:List RelV) (j:Nat):BitVec 64:=l.foldl (fun a r=>a ||| r.2.getD j 0) 0#64
theorem orV_succ (l:List RelV) (k j:Nat) (h:k<l.length):orV (l.take (k+1)) j=orV (l.take k) j ||| (l.getD k (0,[])).2.getD j 0:=by
 rw [orV,List.take_succ_eq_append_getElem h,List.foldl_append]
 simp only [List.foldl_cons,List.foldl_nil,List.getD_eq_getElem?_getD,List.getElem?_eq_getElem h,Option.getD_some];rfl
def orM (n:Nat) (l:List RelV):List (BitVec 64):=tab n (orV l)
theorem or_yes (l:List RelV) (hl:l.length<4611686018427387904) (h:Alike l) (n:Nat) (hn:(l.getD 0 (0,[])).1=n):Pure Tryz.prog γ false 68 [.vs 2 fun _=>rls l] (encRel n (orM n l)):=by
 have h0:=(h.2 0 h.1).1
 have hl0:=h.1
 obtain ⟨k0,hk1,hk2,hk3⟩:=fits_len h0
 rw [hn] at hk1
 obtain rfl:n=k0:=by omega
 have hall:∀ k<l.length,(l.getD k (0,[])).2.length=n:=fun k hk=>by
  have:=h.2 k hk
  obtain ⟨j,e1,e2,_⟩:=fits_len this.1
  have e3:=this.2
  rw [hn,e1] at e3
  omega
 refine Pure.go (ty:=ty) ty_eq mo Tryz.func68 rfl Tryz.ntmps68 Tryz.results68 Tryz.call68 (by simp) fun P C CQ D W F E hF=>?_
 cbv
 refine E.c (SCalls.of_le (alike_ok l hl) ?_ ?_)
 ·(cbv;(try simp only [nc] at *);first|done|(simp;done)|(simp (disch:=(first|omega|(simp only [lnS];omega))) only [rdT,rdS,anT];first|done|omega|(refine ⟨?_,?_⟩<;>omega))|(simp (disch:=(first|omega|(simp only [lnS];omega))) [rdT,rdS];done))
 cbv
 refine br_f (by simp [h]) ?_
 cbv
 refine ⟨fun _=>by simp;omega,fun _=>by rw [show (0:Int).toNat=0 from rfl,rls_get _ 0 hl0];rfl,?_⟩
 cbv
 simp only [show (0:Int).toNat=0 from rfl,rls_get _ 0 hl0,at_r0,hn]
 refine E.c (SCalls.of_owns (none_in (n:Int) (by omega) (by omega)) ?_ ?_)
 ·cbv;all_goals simp
 cbv
 simp only [Int.toNat_natCast,nc]
 refine E.loop (ι:=Nat) (fun k=>k≤l.length) (fun k=>l.length-k) (fun k=>[(19,.i fun _=>(k:Int))])
  (fun k=>[.box (.agg [.lit 0,.nils]),.any,.run 0 1 fun _=>us (tab n (orV (l.take k))),.box (.agg [.i fun _=>(n:Int),.sl 2 0 1 (fun _=>0) fun _=>n])])
  0 rfl (fun _=>rfl) (Nat.zero_le _) ?_ fun k hk I hI=>?_
 ·cbv
  simp [←tab_zero,show orV []=fun _=>0#64 from rfl]
 cbv
 refine ⟨fun _ h4=>?_,fun _ h4=>?_⟩
 ·cbv
  have hkk:k<l.length:=by simpa using h4
  refine ⟨fun _=>by simp;omega,fun _=>by rw [nct,rls_get _ k hkk];rfl,?_⟩
  cbv
  have hsu:=orV_succ l k
  have hrl:=hall k hkk
  simp only [nct,rls_get _ k hkk,at_r0,at_r1]
  generalize l.getD k (0,[])=r at hsu hrl
  obtain ⟨rn,rr⟩:=r
  simp only at hsu hrl ⊢
  refine E.loop (ι:=Nat) (fun i=>i≤n) (fun i=>n-i) (fun i=>[(26,.i fun _=>(i:Int))])
   (fun i=>[.box (.agg [.lit 0,.nils]),.any,.run 0 1 fun _=>us (tab n fun j=>if j<i then orV (l.take (k+1)) j else orV (l.take k) j),.box (.agg [.i fun _=>(n:Int),.sl 2 0 1 (fun _=>0) fun _=>n]),.box (encRel rn rr)])
   0 rfl (fun _=>rfl) (Nat.zero_le _) ?_ fun i hi I2 hI2=>?_
  ·cbv
   simp
  cbv
  refine ⟨fun _ h5=>?_,fun _ h5=>?_⟩
  ·cbv
   have hii:i<n:=by simp at h5;omega
   refine ⟨fun _=>by simp;omega,fun _=>by rw [nct,us_get _ i (by omega)];rfl,fun _=>by simp;omega,fun _=>⟨rfl,by simp;omega⟩,fun _=>by rw [Nat.zero_add,nct,us_get _ i (by simpa using hii)];rfl,fun _=>by simp;omega,
    fun _=>⟨rfl,by simp;omega,by rw [Nat.zero_add,nct,us_get _ i (by simpa using hii)];rfl⟩,?_⟩
   refine hI2 (i+1) (by omega) (by omega) ?_
   cbv
   clear hI hI2
   simp only [Nat.zero_add,nct,us_get _ i (show i<(tab n _).length by simpa using hii),us_get rr i (by omega),at_u,upd_u,us_set,us_of,nc,tab_get n _ i hii]
   simp only [implies_true,and_true,true_and,forall_const]
   refine ⟨w64_of (by omega) (by omega),congrArg us (tab_set i _ hii (by simp [hsu i hkk]) fun j _ hj=>?_)⟩
   by_cases h:j<i<;>simp [h]<;>omega
  ·cbv
   refine hI (k+1) (by omega) (by omega) ?_
   cbv
   clear hI hI2
   have:i=n:=by simp at h5;omega
   subst this
   simp
   exact ⟨w64_of (by omega) (by omega),congrArg us (tab_congr fun j hj=>by simp [hj])⟩
 ·cbv
  refine hF ?_
  cbv
  clear hI
  have hml:k=l.length:=by simp at h4;omega
  subst hml
  simp [orM]
  rw [List.take_of_length_le (by simp)]
theorem alike2 (n m:Int) (a b:List (BitVec 64)):Alike [(n,a),(m,b)]↔Fits n a∧Fits m b∧m=n:=by
 constructor
 ·intro h
  have h0:=h.2 0 (by simp)
  have h1:=h.2 1 (by simp)
  simp at h0 h1
  exact ⟨h0,h1.1,h1.2⟩
 ·rintro ⟨h1,h2,rfl⟩
  refine ⟨by simp,fun i hi=>?_⟩
  have:i=0∨i=1:=by simp at hi;omega
  rcases this with rfl | rfl
  ·simp [h1]
  ·simp [h2]
def andM (n:Nat) (a b:List (BitVec 64)):List (BitVec 64):=tab n fun j=>a.getD j 0 &&& b.getD j 0
end Go.AL.Rl
namespace Go.AL.Rl
open Go Go.AL Go.Proofs
variable {γ:Nat→Option AV}
set_option maxRecDepth 100000
def thenV (l:List RelV) (k:Nat):Nat→BitVec 64:=((l.drop 1).take k).foldl (fun f r j=>reachM r.2 (f j)) fun j=>(l.getD 0 (0,[])).2.getD j 0
theorem thenV_succ (l:List RelV) (k:Nat) (h:k+1<l.length) (j:Nat):thenV l (k+1) j=reachM (l.getD (k+1) (0,[])).2 (thenV l k j):=by
 have h':k<(l.drop 1).length:=by simp;omega
 rw [thenV,List.take_succ_eq_append_getElem h',List.foldl_append]
 simp only [List.foldl_cons,List.foldl_nil,List.getElem_drop,List.getD_eq_getElem?_getD,List.getElem?_eq_getElem h,Option.getD_some,Nat.add_comm 1 k]
 rfl
def thenM (n:Nat) (l:List RelV):List (BitVec 64):=tab n (thenV l (l.length-1))
end Go.AL.Rl
namespace Go.AL.Rl
open Go Go.AL Go.Proofs
variable {γ:Nat→Option AV}
set_option maxRecDepth 100000
@[simp] theorem ps_nil:ps []=.nil:=rfl
def prow (i:Nat) (row:BitVec 64) (q:Nat):List (Int × Int):=((List.range q).filter fun j=>row.getLsbD j).map fun (j:Nat)=>((i:Int),(j:Int))
theorem prow_succ (i:Nat) (row:BitVec 64) (q:Nat):prow i row (q+1)=if row.getLsbD q then prow i row q++[((i:Int),(q:Int))] else prow i row q:=by
 simp only [prow,List.range_succ,List.filter_append,List.map_append]
 cases h:row.getLsbD q<;>simp [List.filter_cons,h]
def prows (rows:List (BitVec 64)) (m:Nat):List (Int × Int):=(List.range m).flatMap fun i=>prow i (rows.getD i 0) 64
theorem prows_succ (rows:List (BitVec 64)) (m:Nat):prows rows (m+1)=prows rows m++prow m (rows.getD m 0) 64:=by simp [prows,List.range_succ,List.flatMap_append]
theorem prow_len (i:Nat) (row:BitVec 64) (q:Nat):(prow i row q).length≤q:=by
 have:=List.length_filter_le (fun j=>row.getLsbD j) (List.range q)
 simpa [prow] using this
theorem prows_len (rows:List (BitVec 64)):∀ m,(prows rows m).length≤64 * m
 | 0=>by simp [prows]
 | m+1=>by
  rw [prows_succ,List.length_append]
  have:=prows_len rows m;have:=prow_len m (rows.getD m 0) 64
  omega
def pairsM (rows:List (BitVec 64)):List (Int × Int):=prows rows rows.length
end Go.AL.Rl
namespace Go.AL.Rl
theorem bit_tab (n:Nat) (f:Nat→BitVec 64) (i j:Nat):bit (tab n f) i j=(decide (i<n) && (f i).getLsbD j):=by
 unfold bit
 by_cases h:i<n
 ·rw [tab_get n f i h];simp [h]
 ·rw [List.getD_eq_getElem?_getD,List.getElem?_eq_none (by simp;omega)];simp [h]
theorem rows_ext {a b:List (BitVec 64)} (hl:a.length=b.length) (h:∀ i j,i<a.length→(bit a i j=true↔bit b i j=true)):a=b:=by
 apply List.ext_getElem hl
 intro i h1 h2
 apply BitVec.eq_of_getLsbD_eq
 intro j hj
 have:=h i j h1
 unfold bit at this
 simp only [List.getD_eq_getElem?_getD,List.getElem?_eq_getElem h1,List.getElem?_eq_getElem h2,Option.getD_some] at this
 rw [Bool.eq_iff_iff];exact this
theorem fits_ext {n:Int} {a b:List (BitVec 64)} (ha:Fits n a) (hb:Fits n b) (h:∀ i j,bit a i j=true↔bit b i j=true):a=b:=by
 obtain ⟨x,e1,e2,_⟩:=fits_len ha
 obtain ⟨y,e3,e4,_⟩:=fits_len hb
 exact rows_ext (by omega) fun i j _=>h i j
theorem one_shl_bit (i j:Nat) (hj:j<64):(1#64 <<< i).getLsbD j=decide (i=j):=by
 rw [BitVec.getLsbD_shiftLeft]
 by_cases h1:j<i
 ·simp [h1];omega
 ·by_cases h2:j=i
  ·subst h2;simp [hj]
  ·have:¬ j-i=0:=by omega
   simp [h1,hj,BitVec.getLsbD_one,this];omega
theorem or_bit (l:List RelV) (i j:Nat):(orV l i).getLsbD j=true↔∃ r∈l,bit r.2 i j=true:=by
 have key:∀ (l:List RelV) (a:BitVec 64),(l.foldl (fun a r=>a ||| r.2.getD i 0) a).getLsbD j=true↔a.getLsbD j=true∨∃ r∈l,bit r.2 i j=true:=by
  intro l
  induction l with
  | nil=>simp
  | cons r l ih=>
   intro a
   rw [List.foldl_cons,ih,BitVec.getLsbD_or,Bool.or_eq_true]
   simp only [List.mem_cons,exists_eq_or_imp]
   unfold bit
   rw [or_assoc]
 unfold orV
 rw [key]
 simp
theorem bit_or {n:Nat} {l:List RelV} (i j:Nat):bit (orM n l) i j=true↔i<n∧∃ r∈l,bit r.2 i j=true:=by
 unfold orM
 rw [bit_tab,Bool.and_eq_true,or_bit]
 simp
theorem fits_or {n:Nat} (hn:n≤64) {l:List RelV} (h:∀ r∈l,Fits n r.2):Fits n (orM n l):=by
 refine fits_mk hn (by simp [orM]) fun i j hb=>?_
 obtain ⟨_,r,hr,h2⟩:=(bit_or i j).1 hb
 have h3:=(fits_bits (h r hr) h2).2
 obtain ⟨k,e1,e2,_⟩:=fits_len (h r hr)
 omega
theorem bit_or2 {n:Nat} {a b:List (BitVec 64)} (ha:Fits n a) (hb:Fits n b) (i j:Nat):bit (orM n [((n:Int),a),((n:Int),b)]) i j=true↔bit a i j=true∨bit b i j=true:=by
 rw [bit_or]
 simp only [List.mem_cons,List.not_mem_nil,or_false,exists_eq_or_imp,exists_eq_left]
 constructor
 ·rintro ⟨_,h⟩;exact h
 ·intro h
  refine ⟨?_,h⟩
  obtain ⟨k,e1,e2,_⟩:=fits_len ha
  obtain ⟨k',e1',e2',_⟩:=fits_len hb
  rcases h with h | h
  ·have:=(fits_bits ha h).1;omega
  ·have:=(fits_bits hb h).1;omega
theorem bit_and {n:Nat} {a b:List (BitVec 64)} (ha:Fits n a) (i j:Nat):bit (andM n a b) i j=true↔bit a i j=true∧bit b i j=true:=by
 unfold andM
 rw [bit_tab,BitVec.getLsbD_and]
 simp only [Bool.and_eq_true,decide_eq_true_eq]
 constructor
 ·rintro ⟨_,h⟩;exact h
 ·intro h
  obtain ⟨k,e1,e2,_⟩:=fits_len ha
  have:=(fits_bits ha h.1).1
  exact ⟨by omega,h⟩
theorem fits_and {n:Nat} {a b:List (BitVec 64)} (ha:Fits n a):Fits n (andM n a b):=by
 obtain ⟨k,e1,e2,hk⟩:=fits_len ha
 refine fits_mk (by omega) (by simp [andM]) fun i j hb=>?_
 have:=(fits_bits ha ((bit_and ha i j).1 hb).1).2
 omega
theorem thenV_one (a b:RelV) (j:Nat):thenV [a,b] 1 j=reachM b.2 (a.2.getD j 0):=by simp [thenV]
theorem bit_then2 {n:Nat} {a b:List (BitVec 64)} (ha:Fits n a) (i j:Nat):bit (thenM n [((n:Int),a),((n:Int),b)]) i j=true↔∃ k,bit a i k=true∧bit b k j=true:=by
 unfold thenM
 rw [bit_tab]
 rw [List.length_cons,List.length_cons,List.length_nil,show 0+1+1-1=1 from rfl,thenV_one,Bool.and_eq_true,bit_reach]
 constructor
 ·rintro ⟨_,h⟩;exact h
 ·rintro ⟨k,h1,h2⟩
  obtain ⟨k0,e1,e2,_⟩:=fits_len ha
  have:=(fits_bits ha h1).1
  exact ⟨by simp;omega,k,h1,h2⟩
theorem fits_then2 {n:Nat} {a b:List (BitVec 64)} (ha:Fits n a) (hb:Fits n b):Fits n (thenM n [((n:Int),a),((n:Int),b)]):=by
 obtain ⟨k0,e1,e2,hk⟩:=fits_len ha
 refine fits_mk (by omega) (by simp [thenM]) fun i j h=>?_
 obtain ⟨k,_,h2⟩:=(bit_then2 ha i j).1 h
 obtain ⟨k1,e3,e4,_⟩:=fits_len hb
 have:=(fits_bits hb h2).2
 omega
theorem tIn_get (i:Nat) (row:BitVec 64) (acc:List (BitVec 64)) (p:Nat) (hp:p<acc.length):∀ q,(tIn i row q acc).getD p 0=if p<q∧row.getLsbD p=true then acc.getD p 0 ||| 1#64 <<< i else acc.getD p 0
 | 0=>by simp [tIn]
 | q+1=>by
  have ih:=tIn_get i row acc p hp q
  rw [tIn_succ]
  by_cases hq:row.getLsbD q=true
  ·rw [if_pos hq]
   by_cases hpq:p=q
   ·subst hpq
    rw [getD_set_self _ _ _ (by rw [tIn_len];exact hp),ih,if_neg (by omega),if_pos ⟨by omega,hq⟩]
   ·rw [getD_set_ne' _ _ _ _ (Ne.symm hpq),ih]
    by_cases h:p<q
    ·simp [h,show p<q+1 by omega]
    ·rw [if_neg (fun e=>h e.1),if_neg (fun e=>by omega)]
  ·rw [if_neg hq,ih]
   by_cases hpq:p=q
   ·subst hpq
    rw [if_neg (by omega),if_neg (fun e=>hq e.2)]
   ·by_cases h:p<q
    ·simp [h,show p<q+1 by omega]
    ·rw [if_neg (fun e=>h e.1),if_neg (fun e=>by omega)]
theorem bit_tOut (rows:List (BitVec 64)) (hl:rows.length≤64) (p:Nat) (hp:p<rows.length) (i:Nat):∀ m,m≤rows.length→(bit (tOut m rows) p i=true↔i<m∧bit rows i p=true)
 | 0,_=>by
  unfold bit
  simp [tOut,hp]
 | m+1,hm=>by
  have ih:=bit_tOut rows hl p hp i m (by omega)
  unfold bit at ih ⊢
  rw [tOut_succ,tIn_get m _ _ p (by rw [tOut_len];exact hp)]
  by_cases hb:(rows.getD m 0).getLsbD p=true
  ·rw [if_pos ⟨by omega,hb⟩,BitVec.getLsbD_or,Bool.or_eq_true,ih]
   by_cases hi:i<64
   ·rw [one_shl_bit m i hi]
    constructor
    ·rintro (h | h)
     ·exact ⟨by omega,h.2⟩
     ·have:m=i:=by simpa using h
      subst this;exact ⟨by omega,hb⟩
    ·rintro ⟨h1,h2⟩
     by_cases h:i=m
     ·subst h;right;simp
     ·left;exact ⟨by omega,h2⟩
   ·rw [BitVec.getLsbD_of_ge (1#64 <<< m) _ (by omega)]
    constructor
    ·rintro (h | h)
     ·omega
     ·cases h
    ·intro h;omega
  ·rw [if_neg (fun e=>hb e.2),ih]
   constructor
   ·rintro ⟨h1,h2⟩;exact ⟨by omega,h2⟩
   ·rintro ⟨h1,h2⟩
    refine ⟨?_,h2⟩
    by_cases h:i=m
    ·subst h;exact absurd h2 hb
    ·omega
theorem bit_turn {n:Int} {rows:List (BitVec 64)} (hf:Fits n rows) (i j:Nat):bit (turnM rows) i j=true↔bit rows j i=true:=by
 have h64:=(fits_n hf).2
 by_cases hi:i<rows.length
 ·unfold turnM
  rw [bit_tOut rows h64 i hi j rows.length (Nat.le_refl _)]
  exact ⟨fun h=>h.2,fun h=>⟨(fits_bits hf h).1,h⟩⟩
 ·constructor
  ·intro h
   rw [bit_out (by unfold turnM;rw [tOut_len];omega)] at h;cases h
  ·intro h
   have:=(fits_bits hf h).2;omega
theorem fits_turn {n:Nat} {rows:List (BitVec 64)} (hf:Fits n rows):Fits n (turnM rows):=by
 obtain ⟨k0,e1,e2,hk⟩:=fits_len hf
 refine fits_mk (by omega) (by unfold turnM;rw [tOut_len];omega) fun i j h=>?_
 have:=(fits_bits hf ((bit_turn hf i j).1 h)).1
 omega
end Go.AL.Rl
namespace Go.AL.Rl
theorem countP_lt {α:Type} (p q:α→Bool):∀ (l:List α),(∀ x∈l,p x=true→q x=true)→(∃ x∈l,q x=true∧p x=false)→l.countP p<l.countP q
 | [],_,h=>by obtain ⟨x,hx,_⟩:=h;cases hx
 | a :: l,h1,h2=>by
  have hle:∀ l:List α,(∀ x∈l,p x=true→q x=true)→l.countP p≤l.countP q:=fun l h=>by
   induction l with
   | nil=>simp
   | cons b l ih=>
    have:=ih fun x hx=>h x (by simp [hx])
    have hb:=h b (by simp)
    simp only [List.countP_cons]
    cases hp:p b<;>cases hq:q b<;>simp_all<;>omega
  have hl:=hle l fun x hx=>h1 x (by simp [hx])
  have ha:=h1 a (by simp)
  simp only [List.countP_cons]
  obtain ⟨x,hx,hx1,hx2⟩:=h2
  rcases List.mem_cons.1 hx with rfl | hx
  ·rw [hx1,hx2];simp;omega
  ·have:=countP_lt p q l (fun y hy=>h1 y (by simp [hy])) ⟨x,hx,hx1,hx2⟩
   cases hp:p a<;>cases hq:q a<;>simp_all<;>omega
instance (ahead:List (BitVec 64)) (left:BitVec 64):DecidablePred (cand ahead left):=fun _=>by unfold cand;infer_instance
section
variable {n:Int} {rows:List (BitVec 64)} (hf:Fits n rows)
include hf
end
end Go.AL.Rl
namespace Go.AL.Rl
open Go Go.AL Go.Proofs
variable {γ:Nat→Option AV}
set_option maxRecDepth 100000
theorem alike3 (n:Int) (a b c:List (BitVec 64)) (ha:Fits n a) (hb:Fits n b) (hc:Fits n c):Alike [(n,a),(n,b),(n,c)]:=by
 refine ⟨by simp,fun i hi=>?_⟩
 have:i=0∨i=1∨i=2:=by simp at hi;omega
 rcases this with rfl | rfl | rfl
 ·simp [ha]
 ·simp [hb]
 ·simp [hc]
theorem or2 (n:Nat) (a b:List (BitVec 64)) (ha:Fits n a) (hb:Fits n b):Pure Tryz.prog γ false 68 [.vs 2 fun _=>rls [((n:Int),a),((n:Int),b)]] (encRel n (orM n [((n:Int),a),((n:Int),b)])):=
 or_yes _ (by simp) ((alike2 _ _ _ _).2 ⟨ha,hb,rfl⟩) n rfl
theorem fits_or2 {n:Nat} {a b:List (BitVec 64)} (ha:Fits n a) (hb:Fits n b):Fits n (orM n [((n:Int),a),((n:Int),b)]):=
 fits_or (by obtain ⟨k,e,_,h⟩:=fits_len ha;omega) (by simp [ha,hb])
end Go.AL.Rl
namespace Go.AL
open Go Go.RowKit
def citems:Code→List Code
 | .seq x y=>citems x++citems y
 | c=>[c]
def vcl (τ:Nat→TI) (γ:Nat→Option AV) (C:EC) (D:Array Oper→(St→Prop)→St→Prop) (W:Code→(Exit→St→Prop)→St→Prop):List Code→(Exit→St→Prop)→St→Prop
 | [],Q,A=>Q .normal A
 | c :: r,Q,A=>vc τ γ C D W c (thenE (fun A=>vcl τ γ C D W r Q A) Q) A
def told (n:Nat) (u:List (Nat × AV)) (h:List Blk):St:=⟨n,sets u (havoc (List.range n) .nil),h⟩
section
variable {P:Program} {γ:Nat→Option AV}
def AWPr (P:Program) (γ:Nat→Option AV) (n:Nat) (c:Code) (Q:Exit→St→Prop) (A:St):Prop:=
 ∀ B S ρ a w,Sim B S γ ρ A a w→c.wp P (fun e a' w'=>∃ S' ρ' A',Q e A'∧Sim B S' γ ρ' A' a' w'∧Ext B S (ρ.take n) w S' ρ' w') a w
theorem Ext.takeL {B n:Nat} {S S':Nat→Prop} {ρ ρ':List Loc} {w w':World} (h:Ext B S ρ w S' ρ' w'):Ext B S (ρ.take n) w S' ρ' w':=
 ⟨h.fr,h.below,h.sub,h.same,fun b loc hb=>h.locs b loc (get_take hb).2,h.grow⟩
theorem Ext.transR {B n:Nat} {S S' S'':Nat→Prop} {ρ ρ' ρ'':List Loc} {w w' w'':World} (h:Ext B S (ρ.take n) w S' ρ' w') (k:Ext B S' (ρ'.take n) w' S'' ρ'' w''):Ext B S (ρ.take n) w S'' ρ'' w'':=by
 have h':Ext B S (ρ.take n) w S' (ρ'.take n) w':=⟨h.fr,h.below,h.sub,h.same,fun b loc hb=>by
  obtain ⟨l',h1,h2⟩:=h.locs b loc hb
  exact ⟨l',take_get h1 (get_take hb).1,h2⟩,h.grow⟩
 exact h'.trans k
theorem AWPr.of {n:Nat} {c:Code} {Q:Exit→St→Prop} {A:St} (h:AWP P γ c Q A):AWPr P γ n c Q A:=
 fun B S ρ a w hs=>wp_mono (h B S ρ a w hs) fun _ _ _ ⟨S',ρ',A',h1,h2,h3⟩=>⟨S',ρ',A',h1,h2,h3.takeL⟩
theorem AWPr.to {c:Code} {Q:Exit→St→Prop} {A:St} (h:AWPr P γ A.h.length c Q A):AWP P γ c Q A:=
 fun B S ρ a w hs=>wp_mono (h B S ρ a w hs) fun _ _ _ ⟨S',ρ',A',h1,h2,h3⟩=>⟨S',ρ',A',h1,h2,by rwa [List.take_of_length_le (by rw [hs.heap.len];exact Nat.le_refl _)] at h3⟩
theorem AWPr.mono {n:Nat} {c:Code} {Q Q':Exit→St→Prop} {A:St} (h:AWPr P γ n c Q A) (hq:∀ e A,Q e A→Q' e A):AWPr P γ n c Q' A:=
 fun B S ρ a w hs=>wp_mono (h B S ρ a w hs) fun _ _ _ ⟨S',ρ',A',h1,h2,h3⟩=>⟨S',ρ',A',hq _ _ h1,h2,h3⟩
theorem AWPr.seq {n:Nat} {x y:Code} {Q:Exit→St→Prop} {A:St} (h:AWPr P γ n x (thenE (fun A=>AWPr P γ n y Q A) Q) A):AWPr P γ n (.seq x y) Q A:=by
 intro B S ρ a w hs
 refine wp_seq (wp_mono (h B S ρ a w hs) fun e a' w' ⟨S',ρ',A',h1,h2,h3⟩=>?_)
 cases e with
 | normal=>exact wp_mono (h1 B S' ρ' a' w' h2) fun e a'' w'' ⟨S'',ρ'',A'',k1,k2,k3⟩=>⟨S'',ρ'',A'',k1,k2,h3.transR k3⟩
 | _=>exact ⟨S',ρ',A',h1,h2,h3⟩
theorem AWPr.weak {n:Nat} {c:Code} {Q:Exit→St→Prop} {A A':St} (h:AWPr P γ n c Q A) (hn:n≤A.h.length) (hl:leSt A.h.length A A'):AWPr P γ n c Q A':=by
 intro B S ρ a w hs
 obtain ⟨hs0,hg0⟩:=hs.le hl rfl
 refine wp_mono (h B _ _ a w hs0) fun e a' w' ⟨S',ρ',A'',q1,q2,q3⟩=>⟨S',ρ',A'',q1,q2,?_⟩
 rw [List.take_take,Nat.min_eq_left hn] at q3
 have hx0:Ext B S (ρ.take n) w (SF A.h.length S ρ) (ρ.take n) w:=⟨Fr.refl w,fun _ _=>rfl,fun k hk=>.inl hk,fun _ _=>rfl,LocsUp.refl _,hg0⟩
 exact hx0.trans q3
def AWPl (P:Program) (γ:Nat→Option AV) (n:Nat):List Code→(Exit→St→Prop)→St→Prop
 | [],Q,A=>Q .normal A
 | c :: r,Q,A=>AWPr P γ n c (thenE (fun A=>AWPl P γ n r Q A) Q) A
theorem AWPl.app {n:Nat}:∀ {xs ys:List Code} {Q:Exit→St→Prop} {A:St},AWPl P γ n xs (thenE (fun A=>AWPl P γ n ys Q A) Q) A→AWPl P γ n (xs++ys) Q A
 | [],ys,Q,A,h=>h
 | x :: xs,ys,Q,A,h=>AWPr.mono h fun e A' h'=>by
  cases e with
  | normal=>exact AWPl.app h'
  | _=>exact h'
theorem AWPl.unapp {n:Nat}:∀ {xs ys:List Code} {Q:Exit→St→Prop} {A:St},AWPl P γ n (xs++ys) Q A→AWPl P γ n xs (thenE (fun A=>AWPl P γ n ys Q A) Q) A
 | [],ys,Q,A,h=>h
 | x :: xs,ys,Q,A,h=>AWPr.mono h fun e A' h'=>by
  cases e with
  | normal=>exact AWPl.unapp h'
  | _=>exact h'
theorem AWPl.mono {n:Nat}:∀ {xs:List Code} {Q Q':Exit→St→Prop} {A:St},AWPl P γ n xs Q A→(∀ e A,Q e A→Q' e A)→AWPl P γ n xs Q' A
 | [],Q,Q',A,h,hq=>hq _ _ h
 | x :: xs,Q,Q',A,h,hq=>AWPr.mono h fun e A' h'=>by
  cases e with
  | normal=>exact AWPl.mono h' hq
  | _=>exact hq _ _ h'
theorem AWPl.one {n:Nat} {c:Code} {Q:Exit→St→Prop} {A:St} (h:AWPl P γ n [c] Q A):AWPr P γ n c Q A:=AWPr.mono h fun e A' h'=>by cases e<;>exact h'
theorem AWPr.of_items {n:Nat}:∀ (c:Code) {Q:Exit→St→Prop} {A:St},AWPl P γ n (citems c) Q A→AWPr P γ n c Q A
 | .seq x y,Q,A,h=>by
  refine AWPr.seq ?_
  have:=AWPl.unapp (xs:=citems x) (ys:=citems y) h
  exact AWPr.of_items x (this.mono fun e A' h'=>by
   cases e with
   | normal=>exact AWPr.of_items y h'
   | _=>exact h')
 | .skip,Q,A,h=>h.one
 | .region ..,Q,A,h=>h.one
 | .cond ..,Q,A,h=>h.one
 | .loop ..,Q,A,h=>h.one
 | .block ..,Q,A,h=>h.one
 | .exit ..,Q,A,h=>h.one
 | .ret,Q,A,h=>h.one
 | .scope ..,Q,A,h=>h.one
 | .goto ..,Q,A,h=>h.one
 | .label ..,Q,A,h=>h.one
 | .refuse ..,Q,A,h=>h.one
 | .rangeFunc ..,Q,A,h=>h.one
theorem AWPl.weak {n:Nat} {l:List Code} {Q:Exit→St→Prop} {A A':St} (h:AWPl P γ n l Q A) (hl0:l≠[]) (hn:n≤A.h.length) (hl:leSt A.h.length A A'):AWPl P γ n l Q A':=by
 cases l with
 | nil=>exact absurd rfl hl0
 | cons c r=>exact AWPr.weak h hn hl
theorem AWPr.block {n id:Nat} {c:Code} {Q:Exit→St→Prop} {A:St} (h:AWPr P γ n c (inBlk id Q) A):AWPr P γ n (.block id c) Q A:=by
 intro B S ρ a w hs
 refine wp_block (wp_mono (h B S ρ a w hs) fun e a' w' ⟨S',ρ',A',h1,h2,h3⟩=>?_)
 cases e with
 | exit id'=>
  simp only [Exit.inBlock]
  simp only [inBlk] at h1
  split at h1
  ·rename_i e;rw [if_pos e];exact ⟨S',ρ',A',h1,h2,h3⟩
  ·rename_i e;rw [if_neg e];exact ⟨S',ρ',A',h1,h2,h3⟩
 | _=>exact ⟨S',ρ',A',h1,h2,h3⟩
theorem AWPl.block {n id:Nat} {c:Code} {r:List Code} {Q:Exit→St→Prop} {A:St} (h:AWPl P γ n (citems c) (inBlk id (thenE (fun A=>AWPl P γ n r Q A) Q)) A):AWPl P γ n (.block id c :: r) Q A:=
 AWPr.block (AWPr.of_items c h)
variable {C:EC} {CQ:List Blk→QC} {T:Nat→TI} {D:Array Oper→(St→Prop)→St→Prop} {W:Code→(Exit→St→Prop)→St→Prop}
theorem Env.bl (E:Env P γ C CQ T D W) {n:Nat}:∀ {l:List Code} {Q:Exit→St→Prop} {A:St},vcl T γ C D W l Q A→AWPl P γ n l Q A
 | [],Q,A,h=>h
 | c :: r,Q,A,h=>AWPr.mono (AWPr.of (E.b h)) fun e A' h'=>by
  cases e with
  | normal=>exact E.bl h'
  | _=>exact h'
theorem Env.cut (E:Env P γ C CQ T D W) {n:Nat} {l:List Code} {Q:Exit→St→Prop} {A:St} (k:Nat) (A2:St) (hk0:(l.drop k).isEmpty=false) (hn:n≤A2.h.length)
  (h1:∀ I:St→Prop,(∀ {A'},leSt A2.h.length A2 A'→I A')→vcl T γ C D W (l.take k) (thenE I Q) A) (h2:AWPl P γ n (l.drop k) Q A2):AWPl P γ n l Q A:=by
 have hk:l.drop k≠[]:=fun e=>by rw [e] at hk0;cases hk0
 rw [←List.take_append_drop k l]
 exact AWPl.app ((E.bl (h1 (fun A'=>AWPl P γ n (l.drop k) Q A') fun hl=>h2.weak hk hn hl)).mono fun e A' h=>by cases e<;>exact h)
theorem AWP.goL {ty:Program→Nat→TI} (hτ:∀ t,ty P t=tiOf P t) (hm:P.follows .mixedOrders=true) {c:Code} {Q:(Nat→TI)→Exit→St→Prop} {A:St}
  (h:∀ (P':Program) (C:EC) (CQ:List Blk→QC) (D:Array Oper→(St→Prop)→St→Prop) (W:Code→(Exit→St→Prop)→St→Prop),Env P γ C CQ (ty P') D W→AWPl P γ A.h.length (citems c) (Q (ty P')) A):AWP P γ c (Q (ty P)) A:=
 AWPr.to (AWPr.of_items c (h P _ _ _ _ (Env.top hτ hm)))
theorem Pure.goL {ty:Program→Nat→TI} (hτ:∀ t,ty P t=tiOf P t) (hm:P.follows .mixedOrders=true) {f:FuncId} {fn:Func} {n:Nat} {rs:Array ResultVar}
  (hf:P.funcs[f]?=some fn) (hb:fn.body=some (fn.body.getD .skip)) (hn:fn.ntmps=n) (hr:fn.results=rs) (he:Enters P f) {args:List AV} {y:AV} (hsz:args.length≤n∧n<1000)
  (h:∀ (P':Program) (C:EC) (CQ:List Blk→QC) (D:Array Oper→(St→Prop)→St→Prop) (W:Code→(Exit→St→Prop)→St→Prop) (F:AV→List Blk→Prop),Env P γ C CQ (ty P') D W→(∀ {v h},fz h y v→F v h) →
   AWPl P γ 0 (citems (fn.body.getD .skip)) (bodyQ (ty P') rs.toList F) (start n args [])):Pure P γ false f args y:=
 Pure.of_body hτ hf hb hn (by rw [hr]) he hsz (AWP.goL (Q:=fun T=>bodyQ T rs.toList fun v h=>fz h y v) hτ hm fun P' C CQ D W E=>h P' C CQ D W _ E fun h=>h)
end
end Go.AL
namespace Go.AL.Rl
open Go Go.AL Go.Proofs
variable {γ:Nat→Option AV}
set_option maxRecDepth 100000
theorem bit_zero (n i j:Nat):bit (List.replicate n 0#64) i j=false:=by
 rw [←tab_zero,bit_tab];simp
theorem cnt_full_bits (x:BitVec 64) (p:Nat):((x >>> p) % 2#64=1#64)↔x.getLsbD p=true:=by
 have e:(x >>> p) % 2#64=(x >>> p) &&& 1#64:=by
  apply BitVec.eq_of_toNat_eq
  rw [BitVec.toNat_umod,BitVec.toNat_and]
  exact (Nat.and_one_is_mod _).symm
 rw [e]
 constructor
 ·intro h
  have:=congrArg (fun y:BitVec 64=>y.getLsbD 0) h
  simpa [BitVec.getLsbD_and,BitVec.getLsbD_ushiftRight] using this
 ·intro h
  apply BitVec.eq_of_getLsbD_eq
  intro i hi
  rw [BitVec.getLsbD_and,BitVec.getLsbD_ushiftRight,BitVec.getLsbD_one]
  by_cases h0:i=0
  ·subst h0;simp [h]
  ·simp [h0]
theorem pairs_mem {rows:List (BitVec 64)} {x:Int × Int} (h:x∈pairsM rows):∃ a b:Nat,x=((a:Int),(b:Int))∧bit rows a b=true:=by
 unfold pairsM prows at h
 simp only [List.mem_flatMap,List.mem_range] at h
 obtain ⟨i,hi,h⟩:=h
 simp only [prow,List.mem_map,List.mem_filter,List.mem_range] at h
 obtain ⟨j,⟨_,hj⟩,rfl⟩:=h
 exact ⟨i,j,rfl,hj⟩
structure Srt (rows:List (BitVec 64)) (tl:List Nat):Prop where
 nd:tl.Nodup
 mem:∀ p,p∈tl↔p<rows.length
 len:tl.length=rows.length
 ord:∀ k m (_:k≤m) (hm:m<tl.length),bit rows tl[m] tl[k]=false
end Go.AL.Rl
namespace Go.AL.Rl
open Go Go.AL Go.Proofs
variable {γ:Nat→Option AV}
set_option maxRecDepth 100000
theorem rnone_in (n:Int) (h0:0≤n) (h1:n≤64):Owns Tryz.prog γ 127 [.i fun _=>n] (.agg [.i fun _=>n,.sl 1 0 1 (fun _=>0) fun _=>n.toNat]) [.any,.run 0 1 fun _=>us (List.replicate n.toNat 0#64)]:=by
 refine Owns.go (ty:=ty) ty_eq mo Tryz.func127 rfl Tryz.ntmps127 Tryz.results127 Tryz.call127 (by simp) fun P C CQ D W F E hF=>?_
 cbv
 refine br_f (by simp;omega) ?_
 cbv
 refine br_f (by simp;omega) ?_
 cbv
 refine ⟨fun _=>by simp;omega,?_⟩
 cbv
 refine hF ?_ ?_
 ·cbv;simp
 ·cbv;simp [us]
theorem rcheck_ok (n:Int) (rows:List (BitVec 64)):Pure Tryz.prog γ false 123 [encRel n rows] (.i fun _=>checkM n rows):=by
 refine Pure.go (ty:=ty) ty_eq mo Tryz.func123 rfl Tryz.ntmps123 Tryz.results123 Tryz.call123 (by simp) fun P C CQ D W F E hF=>?_
 cbv
 refine ⟨fun _ h0=>?_,fun _ h0=>?_⟩
 ·cbv
  refine hF ?_
  cbv
  simp at h0
  intro _
  simp [checkM,Fits];omega
 cbv
 refine ⟨fun _ h1=>?_,fun _ h1=>?_⟩
 ·cbv
  refine hF ?_
  cbv
  simp at h0 h1
  intro _
  simp [checkM,Fits];omega
 cbv
 refine ⟨fun _ h2=>?_,fun _ h2=>?_⟩
 ·cbv
  refine hF ?_
  cbv
  simp at h0 h1 h2
  intro _
  simp [checkM,Fits];omega
 cbv
 obtain ⟨la,rfl⟩:∃ la:Nat,n=la:=⟨n.toNat,by simp at h0;omega⟩
 have hl64:la≤64:=by simp at h1;omega
 have hla:rows.length=la:=by simp at h2;omega
 clear h0 h1 h2
 have bad:∀ i j,la≤j→bit rows i j=true→checkM la rows=2:=fun i j h1 h2=>by
  have:¬ Fits la rows:=fun hf=>by have:=(fits_bits hf h2).2;omega
  simp [checkM,this]
 refine E.loop (ι:=Nat) (fun i=>i≤la∧∀ k<i,∀ j,la≤j→bit rows k j=false) (fun i=>la-i) (fun i=>[(3,.i fun _=>(i:Int))]) (fun _=>[.box (encRel la rows)]) 0 rfl (fun _=>rfl) ⟨Nat.zero_le _,by simp⟩ ?_ fun i hi I hI=>?_
 ·cbv
  simp
 cbv
 refine ⟨fun _ h3=>?_,fun _ h3=>?_⟩
 ·cbv
  have hii:i<la:=by simp at h3;omega
  refine E.loop (ι:=Nat) (fun j=>la≤j∧j≤64∧∀ k<j,la≤k→bit rows i k=false) (fun j=>64-j) (fun j=>[(4,.i fun _=>(j:Int))]) (fun _=>[.box (encRel la rows)]) la rfl (fun _=>rfl) ⟨Nat.le_refl _,hl64,fun k h1 h2=>by omega⟩ ?_ fun j hj I2 hI2=>?_
  ·cbv
   simp
  cbv
  refine ⟨fun _ h4=>?_,fun _ h4=>?_⟩
  ·cbv
   have hjj:j<64:=by simp at h4;omega
   have hsh:(BitVec.ofInt 64 (j:Int)).toNat=j:=by simp;omega
   refine ⟨fun _=>by simp;omega,fun _=>by rw [nct,us_get _ i (by omega)];rfl,fun _=>by simp,?_⟩
   simp only [nct,us_get _ i (show i<rows.length by omega),at_u,nc,hsh]
   have hbit:=cnt_full_bits (rows.getD i 0) j
   refine ⟨fun _ h5=>?_,fun _ h5=>?_⟩
   ·cbv
    refine hF ?_
    cbv
    intro _
    exact (bad i j hj.1 (hbit.1 (by simpa using h5))).symm
   ·cbv
    refine hI2 (j+1) ⟨by omega,by omega,fun k h1 h2=>?_⟩ (by omega) ?_
    ·by_cases e:k=j
     ·subst e
      cases hb:bit rows i k with
      | false=>rfl
      | true=>exact absurd (hbit.2 hb) (by simpa using h5)
     ·exact hj.2.2 k (by omega) h2
    ·cbv
     clear hI hI2
     simp
     exact w64_of (by omega) (by omega)
  ·cbv
   refine hI (i+1) ⟨by omega,fun k hk j' hj'=>?_⟩ (by omega) ?_
   ·by_cases e:k=i
    ·subst e
     have hj64:j=64:=by simp at h4;omega
     by_cases h64:j'<64
     ·exact hj.2.2 j' (by omega) hj'
     ·unfold bit;exact BitVec.getLsbD_of_ge _ _ (by omega)
    ·exact hi.2 k (by omega) j' hj'
   ·cbv
    clear hI hI2
    simp
    exact w64_of (by omega) (by omega)
 ·cbv
  refine hF ?_
  cbv
  clear hI
  intro _
  have:i=la:=by simp at h3;omega
  subst this
  have:Fits i rows:=fits_mk hl64 hla fun k j hb=>by
   rcases Nat.lt_or_ge j i with h | h
   ·exact h
   ·rcases Nat.lt_or_ge k i with h' | h'
    ·rw [hi.2 k h' j h] at hb;cases hb
    ·rw [bit_out (by omega)] at hb;cases hb
  simp [checkM,this]
theorem rhas_ok (n:Int) (rows:List (BitVec 64)) (i j:Int):Pure Tryz.prog γ false 135 [encRel n rows,.i fun _=>i,.i fun _=>j] (.b fun _=>hasM n rows i j):=by
 refine Pure.go (ty:=ty) ty_eq mo Tryz.func135 rfl Tryz.ntmps135 Tryz.results135 Tryz.call135 (by simp) fun P C CQ D W F E hF=>?_
 cbv
 refine E.c (SCalls.of_le (rcheck_ok n rows) ?_ ?_)
 ·(cbv;(try simp only [nc] at *);first|done|(simp;done)|(simp (disch:=(first|omega|(simp only [lnS];omega))) only [rdT,rdS,anT];first|done|omega|(refine ⟨?_,?_⟩<;>omega))|(simp (disch:=(first|omega|(simp only [lnS];omega))) [rdT,rdS];done))
 cbv
 by_cases hf:Fits n rows
 case neg=>
  refine br_f (by simp [checkM,hf]) ?_
  cbv
  refine hF ?_
  cbv
  simp [hasM,hf]
 refine br_t (by simp [checkM,hf]) ?_
 cbv
 refine ⟨fun _ h1=>?_,fun _ h1=>?_⟩
 rotate_left
 ·cbv
  refine hF ?_
  cbv
  intro _
  simp at h1
  simp [hasM];omega
 cbv
 refine ⟨fun _ h2=>?_,fun _ h2=>?_⟩
 rotate_left
 ·cbv
  refine hF ?_
  cbv
  intro _
  simp at h1 h2
  simp [hasM];omega
 cbv
 refine ⟨fun _ h3=>?_,fun _ h3=>?_⟩
 rotate_left
 ·cbv
  refine hF ?_
  cbv
  intro _
  simp at h1 h2 h3
  simp [hasM];omega
 cbv
 refine ⟨fun _ h4=>?_,fun _ h4=>?_⟩
 rotate_left
 ·cbv
  refine hF ?_
  cbv
  intro _
  simp at h1 h2 h3 h4
  simp [hasM];omega
 cbv
 obtain ⟨len,rfl,hl,hl2⟩:=fits_len hf
 simp at h1 h2 h3 h4
 obtain ⟨p,rfl⟩:∃ p:Nat,i=p:=⟨i.toNat,by omega⟩
 obtain ⟨q,rfl⟩:∃ q:Nat,j=q:=⟨j.toNat,by omega⟩
 have hp:p<rows.length:=by omega
 have h5:(p:Int)<len∧(q:Int)<len:=⟨h2,h4⟩
 have hsh:(BitVec.ofInt 64 (q:Int)).toNat=q:=by simp;omega
 refine ⟨fun _=>by simp;omega,fun _=>by rw [nct,us_get _ p hp];rfl,fun _=>by simp,?_⟩
 cbv
 refine hF ?_
 cbv
 intro _
 simp only [nct,us_get _ p hp,at_u,nc,hsh]
 have hb:=cnt_full_bits (rows.getD p 0) q
 simp only [hasM,hf,h5,Int.toNat_natCast]
 unfold bit
 simp
 rw [Bool.eq_iff_iff,decide_eq_true_iff]
 simpa using hb
theorem rof_in (n:Int) (l:List (Int × Int)) (h0:0≤n) (h1:n≤64) (hl:l.length<4611686018427387904):Pure Tryz.prog γ false 88 [.i fun _=>n,.vs 2 fun _=>ps l] (encRel n (ofTo n l l.length)):=by
 refine Pure.go (ty:=ty) ty_eq mo Tryz.func88 rfl Tryz.ntmps88 Tryz.results88 Tryz.call88 (by simp) fun P C CQ D W F E hF=>?_
 cbv
 refine E.c (SCalls.of_owns (rnone_in n h0 h1) ?_ ?_)
 ·cbv;all_goals simp
 cbv
 obtain ⟨len,hlen⟩:∃ len:Nat,n=len:=⟨n.toNat,by omega⟩
 subst hlen
 simp only [Int.toNat_natCast,nc]
 have hln:len≤64:=by omega
 refine E.loop (ι:=Nat) (fun m=>m≤l.length) (fun m=>l.length-m) (fun m=>[(6,.i fun _=>(m:Int))])
  (fun m=>[.box (.agg [.lit 0,.nils]),.any,.run 0 1 fun _=>us (ofTo len l m),.box (.agg [.i fun _=>len,.sl 2 0 1 (fun _=>0) fun _=>len])])
  0 rfl (fun _=>rfl) (Nat.zero_le _) ?_ fun m hm I hI=>?_
 ·cbv
  simp [ofTo]
 cbv
 refine ⟨fun _ h4=>?_,fun _ h4=>?_⟩
 ·cbv
  have hmr:m<l.length:=by simp at h4;omega
  refine E.d 12 (by kernel_rfl) ?_
  cbv
  refine ⟨fun _=>by simp;omega,fun _=>by rw [nct,ps_get _ m hmr];rfl,fun _=>by simp;omega,fun _=>by rw [nct,ps_get _ m hmr];rfl,?_⟩
  have hs:=ofTo_succ len l m hmr
  simp only [nct,ps_get _ m hmr,at_p0,at_p1]
  generalize l.getD m (0,0)=p at hs ⊢
  have hlw:(ofTo len l m).length=len:=by rw [ofTo_len];simp
  have no:¬ (0≤p.1∧p.1<len∧0≤p.2∧p.2<len)→ofTo len l (m+1)=ofTo len l m:=fun h=>by rw [hs,ofStep,if_neg h]
  refine ⟨fun _ h5=>?_,fun _ h5=>?_⟩
  rotate_left
  ·cbv
   refine hI (m+1) (by omega) (by omega) ?_
   cbv
   clear hI
   simp at h5
   simp
   exact ⟨w64_of (by omega) (by omega),by rw [no (by omega)]⟩
  cbv
  simp at h5
  refine ⟨fun _ h6=>?_,fun _ h6=>?_⟩
  rotate_left
  ·cbv
   refine hI (m+1) (by omega) (by omega) ?_
   cbv
   clear hI
   simp at h6
   simp
   refine ⟨w64_of (by omega) (by omega),?_⟩
   simp only [nc] at no
   rw [no (fun h=>absurd h.2.1 (by simpa using h6))]
  cbv
  simp at h6
  refine ⟨fun _ h7=>?_,fun _ h7=>?_⟩
  rotate_left
  ·cbv
   refine hI (m+1) (by omega) (by omega) ?_
   cbv
   clear hI
   simp at h7
   simp
   exact ⟨w64_of (by omega) (by omega),by rw [no (by omega)]⟩
  cbv
  simp at h7
  refine ⟨fun _ h8=>?_,fun _ h8=>?_⟩
  rotate_left
  ·cbv
   refine hI (m+1) (by omega) (by omega) ?_
   cbv
   clear hI
   simp at h8
   simp
   refine ⟨w64_of (by omega) (by omega),?_⟩
   simp only [nc] at no
   rw [no (fun h=>absurd h.2.2.2 (by simpa using h8))]
  cbv
  simp at h8
  refine E.d 12 (by kernel_rfl) ?_
  cbv
  simp only [nc] at hlw h5 h6 h7 h8
  have hp:p.1.toNat<(ofTo len l m).length:=by omega
  have hsh:(BitVec.ofInt 64 p.2).toNat=p.2.toNat:=by simp;omega
  refine ⟨fun _=>by simp only [nc];omega,fun _=>⟨rfl,by simp;omega⟩,fun _=>by rw [Nat.zero_add,us_get _ _ hp];rfl,fun _=>by simp only [nc];omega,fun _=>⟨rfl,by simp;omega,by rw [Nat.zero_add,us_get _ _ hp];rfl⟩,?_⟩
  refine hI (m+1) (by omega) (by omega) ?_
  cbv
  clear hI
  simp only [nc] at hs h6 h8
  simp only [Nat.zero_add,nc,us_get _ _ hp,at_u,upd_u,us_set,us_of,hsh]
  simp only [implies_true,and_true,true_and,forall_const]
  refine ⟨w64_of (by omega) (by omega),?_⟩
  rw [hs,ofStep,if_pos ⟨h5,h6,h7,h8⟩]
  rfl
 ·cbv
  refine hF ?_
  cbv
  clear hI
  have hml:m=l.length:=by simp at h4;omega
  have hlw:(ofTo len l l.length).length=len:=by rw [ofTo_len];simp
  simp [hml]
  exact ⟨by omega,by rw [List.take_of_length_le (by simp;omega)]⟩
end Go.AL.Rl
namespace Go.AL.Rl
open Go Go.AL Go.Proofs
variable {γ:Nat→Option AV}
set_option maxRecDepth 100000
theorem ralike_ok (l:List RelV) (hl:l.length<4611686018427387904):Pure Tryz.prog γ false 126 [.vs 2 fun _=>rls l] (.b fun _=>decide (Alike l)):=by
 refine Pure.go (ty:=ty) ty_eq mo Tryz.func126 rfl Tryz.ntmps126 Tryz.results126 Tryz.call126 (by simp) fun P C CQ D W F E hF=>?_
 cbv
 refine E.loop (ι:=Nat) (fun m=>m≤l.length∧∀ k<m,Fits (l.getD k (0,[])).1 (l.getD k (0,[])).2∧(l.getD k (0,[])).1=(l.getD 0 (0,[])).1) (fun m=>l.length-m) (fun m=>[(3,.i fun _=>(m:Int))])
  (fun m=>[]) 0 rfl (fun _=>rfl) ⟨Nat.zero_le _,by simp⟩ ?_ fun m hm I hI=>?_
 ·cbv
  simp
 cbv
 refine ⟨fun _ h4=>?_,fun _ h4=>?_⟩
 ·cbv
  have hmm:m<l.length:=by simp at h4;omega
  refine E.d 18 (by kernel_rfl) ?_
  cbv
  refine ⟨fun _=>by simp;omega,fun _=>by rw [nct,rls_get _ m hmm];rfl,?_⟩
  simp only [nct,rls_get _ m hmm,at_r0,at_r1]
  generalize hv:l.getD m (0,[])=v
  obtain ⟨vn,vr⟩:=v
  simp only
  have hfit:l.getD m (0,[])=(vn,vr):=hv
  refine E.q (QCalls.of_le (rcheck_ok vn vr) ?_ ?_)
  ·cbv;all_goals simp
  cbv
  refine ⟨fun _ h5=>?_,fun _ h5=>?_⟩
  ·cbv
   refine hF ?_
   cbv
   intro _
   clear hI
   have:¬ Alike l:=fun h=>by
    have:=(h.2 m hmm).1
    rw [hfit] at this
    simp [checkM,this] at h5
   simp [this]
  cbv
  have hfv:Fits vn vr:=by
   by_cases h:Fits vn vr
   ·exact h
   ·simp [checkM,h] at h5
  refine ⟨fun _=>by simp;omega,fun _=>by rw [nct,rls_get _ m hmm,hfit];rfl,fun _=>by simp;omega,fun _=>by rw [show (0:Int).toNat=0 from rfl,rls_get _ 0 (by omega)];rfl,?_⟩
  simp only [show (0:Int).toNat=0 from rfl,nct,rls_get _ m hmm,hfit,rls_get _ 0 (show 0<l.length by omega),at_r0]
  refine ⟨fun _ h6=>?_,fun _ h6=>?_⟩
  ·cbv
   refine hF ?_
   cbv
   intro _
   clear hI
   have:¬ Alike l:=fun h=>by
    have:=(h.2 m hmm).2
    rw [hfit] at this
    simp at h6
    exact h6 (by simpa using this)
   simp [this]
  ·cbv
   refine hI (m+1) ⟨hmm,fun k hk=>?_⟩ (by omega) ?_
   ·rcases Nat.lt_or_ge k m with h | h
    ·exact hm.2 k h
    ·obtain rfl:k=m:=by omega
     rw [hfit]
     exact ⟨hfv,by simpa using h6⟩
   ·cbv
    clear hI
    simp
    exact w64_of (by omega) (by omega)
 ·cbv
  refine hF ?_
  cbv
  clear hI
  intro _
  have:m=l.length:=by simp at h4;omega
  subst this
  simp
  exact ⟨fun h=>⟨h,hm.2⟩,fun h=>h.1⟩
theorem alike_all {l:List RelV} (h:Alike l) {n:Nat} (hn:(l.getD 0 (0,[])).1=n):n≤64∧∀ k<l.length,(l.getD k (0,[])).2.length=n:=by
 have h0:=(h.2 0 h.1).1
 obtain ⟨k0,hk1,hk2,hk3⟩:=fits_len h0
 rw [hn] at hk1
 refine ⟨by omega,fun k hk=>?_⟩
 have:=h.2 k hk
 obtain ⟨j,e1,e2,_⟩:=fits_len this.1
 have e3:=this.2
 rw [hn,e1] at e3
 omega
theorem ror_yes (l:List RelV) (hl:l.length<4611686018427387904) (h:Alike l) (n:Nat) (hn:(l.getD 0 (0,[])).1=n):Pure Tryz.prog γ false 87 [.vs 2 fun _=>rls l] (encRel n (orM n l)):=by
 have hl0:=h.1
 obtain ⟨h64,hall⟩:=alike_all h hn
 refine Pure.go (ty:=ty) ty_eq mo Tryz.func87 rfl Tryz.ntmps87 Tryz.results87 Tryz.call87 (by simp) fun P C CQ D W F E hF=>?_
 cbv
 refine E.c (SCalls.of_le (ralike_ok l hl) ?_ ?_)
 ·(cbv;(try simp only [nc] at *);first|done|(simp;done)|(simp (disch:=(first|omega|(simp only [lnS];omega))) only [rdT,rdS,anT];first|done|omega|(refine ⟨?_,?_⟩<;>omega))|(simp (disch:=(first|omega|(simp only [lnS];omega))) [rdT,rdS];done))
 cbv
 refine br_f (by simp [h]) ?_
 cbv
 refine ⟨fun _=>by simp;omega,fun _=>by rw [show (0:Int).toNat=0 from rfl,rls_get _ 0 hl0];rfl,?_⟩
 cbv
 simp only [show (0:Int).toNat=0 from rfl,rls_get _ 0 hl0,at_r0,hn]
 refine E.c (SCalls.of_owns (rnone_in (n:Int) (by omega) (by omega)) ?_ ?_)
 ·cbv;all_goals simp
 cbv
 simp only [Int.toNat_natCast,nc]
 refine E.loop (ι:=Nat) (fun k=>k≤l.length) (fun k=>l.length-k) (fun k=>[(4,.i fun _=>(k:Int))])
  (fun k=>[.box (.agg [.lit 0,.nils]),.any,.run 0 1 fun _=>us (tab n (orV (l.take k))),.box (.agg [.i fun _=>(n:Int),.sl 2 0 1 (fun _=>0) fun _=>n])])
  0 rfl (fun _=>rfl) (Nat.zero_le _) ?_ fun k hk I hI=>?_
 ·cbv
  simp [←tab_zero,show orV []=fun _=>0#64 from rfl]
 cbv
 refine ⟨fun _ h4=>?_,fun _ h4=>?_⟩
 ·cbv
  have hkk:k<l.length:=by simp at h4;omega
  have hsu:=orV_succ l k
  have hrl:=hall k hkk
  refine E.loop (ι:=Nat) (fun i=>i≤n) (fun i=>n-i) (fun i=>[(5,.i fun _=>(i:Int))])
   (fun i=>[.box (.agg [.lit 0,.nils]),.any,.run 0 1 fun _=>us (tab n fun j=>if j<i then orV (l.take (k+1)) j else orV (l.take k) j),.box (.agg [.i fun _=>(n:Int),.sl 2 0 1 (fun _=>0) fun _=>n])])
   0 rfl (fun _=>rfl) (Nat.zero_le _) ?_ fun i hi I2 hI2=>?_
  ·cbv
   simp
  cbv
  refine ⟨fun _ h5=>?_,fun _ h5=>?_⟩
  ·cbv
   have hii:i<n:=by simp at h5;omega
   refine E.d 17 (by kernel_rfl) ?_
   cbv
   simp only [nct,rls_get _ k hkk,at_r1]
   refine ⟨fun _=>by simp;omega,fun _=>⟨trivial,by simp;omega⟩,fun _=>by rw [Nat.zero_add,us_get _ i (by simpa using hii)];rfl,fun _=>by simp;omega,fun _=>rfl,fun _=>by simp only [us_len,nc];omega,fun _=>by rw [us_get _ i (by omega)];rfl,fun _=>by simp;omega,
    fun _=>⟨trivial,by simp;omega,by rw [Nat.zero_add,us_get _ i (by simpa using hii)];rfl⟩,?_⟩
   refine hI2 (i+1) (by omega) (by omega) ?_
   cbv
   clear hI hI2
   simp only [Nat.zero_add,nct,us_get _ i (show i<(tab n _).length by simpa using hii),us_get (l.getD k (0,[])).2 i (by omega),at_u,upd_u,us_set,us_of,nc,tab_get n _ i hii]
   simp only [implies_true,and_true,true_and,forall_const]
   refine ⟨w64_of (by omega) (by omega),congrArg us (tab_set i _ hii (by simp [hsu i hkk]) fun j _ hj=>?_)⟩
   by_cases h:j<i<;>simp [h]<;>omega
  ·cbv
   refine hI (k+1) (by omega) (by omega) ?_
   cbv
   clear hI hI2
   have:i=n:=by simp at h5;omega
   subst this
   simp
   exact ⟨w64_of (by omega) (by omega),congrArg us (tab_congr fun j hj=>by simp [hj])⟩
 ·cbv
  refine hF ?_
  cbv
  clear hI
  have hml:k=l.length:=by simp at h4;omega
  subst hml
  simp [orM]
  rw [List.take_of_length_le (by simp)]
theorem rand_yes (n:Nat) (a b:List (BitVec 64)) (ha:Fits n a) (hb:Fits n b):Pure Tryz.prog γ false 93 [encRel n a,encRel n b] (encRel n (andM n a b)):=by
 obtain ⟨la,e1,hla,hl64⟩:=fits_len ha
 obtain rfl:n=la:=by omega
 obtain ⟨lb,e2,hlb,_⟩:=fits_len hb
 obtain rfl:n=lb:=by omega
 refine Pure.go (ty:=ty) ty_eq mo Tryz.func93 rfl Tryz.ntmps93 Tryz.results93 Tryz.call93 (by simp) fun P C CQ D W F E hF=>?_
 cbv
 refine E.c (SCalls.of_le (ralike_ok [((n:Int),a),((n:Int),b)] (by simp)) ?_ ?_)
 ·cbv
  simp [rls]
 cbv
 refine br_f (by simp [alike2,ha,hb]) ?_
 cbv
 refine E.c (SCalls.of_owns (rnone_in (n:Int) (by omega) (by omega)) ?_ ?_)
 ·cbv;all_goals simp
 cbv
 simp only [Int.toNat_natCast,nc]
 refine E.loop (ι:=Nat) (fun i=>i≤n) (fun i=>n-i) (fun i=>[(6,.i fun _=>(i:Int))])
  (fun i=>[.box (encRel n a),.box (encRel n b),.box (.agg [.lit 0,.nils]),.any,.run 0 1 fun _=>us (tab n fun j=>if j<i then a.getD j 0 &&& b.getD j 0 else 0#64),.box (.agg [.i fun _=>(n:Int),.sl 4 0 1 (fun _=>0) fun _=>n])])
  0 rfl (fun _=>rfl) (Nat.zero_le _) ?_ fun i hi I hI=>?_
 ·cbv
  simp [←tab_zero]
 cbv
 refine ⟨fun _ h4=>?_,fun _ h4=>?_⟩
 ·cbv
  have hii:i<n:=by simp at h4;omega
  refine E.d 14 (by kernel_rfl) ?_
  cbv
  refine ⟨fun _=>by simp;omega,fun _=>by rw [nct,us_get _ i (by omega)];rfl,fun _=>by simp;omega,fun _=>by rw [nct,us_get _ i (by omega)];rfl,fun _=>by simp;omega,
   fun _=>⟨rfl,by simp;omega,by rw [Nat.zero_add,nct,us_get _ i (by simpa using hii)];rfl⟩,?_⟩
  refine hI (i+1) (by omega) (by omega) ?_
  cbv
  clear hI
  simp only [Nat.zero_add,nct,us_get _ i (show i<(tab n _).length by simpa using hii),us_get b i (by omega),us_get a i (by omega),at_u,upd_u,us_set,us_of,nc,tab_get n _ i hii]
  simp only [implies_true,and_true,true_and,forall_const]
  refine ⟨w64_of (by omega) (by omega),congrArg us (tab_set i _ hii (by simp) fun j _ hj=>?_)⟩
  by_cases h:j<i<;>simp [h]<;>omega
 ·cbv
  refine hF ?_
  cbv
  clear hI
  have hml:i=n:=by simp at h4;omega
  subst hml
  simp [andM]
  rw [List.take_of_length_le (by simp)]
  exact congrArg (fun x=>(us x).l) (tab_congr fun i hi=>by simp [hi])
end Go.AL.Rl
namespace Go.AL.Rl
open Go Go.AL Go.Proofs
variable {γ:Nat→Option AV}
set_option maxRecDepth 100000
def rtV (rows:List (BitVec 64)) (m q:Nat) (p:Nat):BitVec 64:=
 (List.range m).foldl (fun a i=>if bit rows i p then a ||| 1#64 <<< i else a) 0#64 ||| (if p<q∧bit rows m p=true then 1#64 <<< m else 0#64)
theorem rtV_zero (rows:List (BitVec 64)) (p:Nat):rtV rows 0 0 p=0#64:=by simp [rtV]
theorem rtV_next (rows:List (BitVec 64)) (m q p:Nat) (hq:p<q):rtV rows (m+1) 0 p=rtV rows m q p:=by
 unfold rtV
 rw [List.range_succ,List.foldl_append]
 simp only [List.foldl_cons,List.foldl_nil]
 by_cases h:bit rows m p=true
 ·simp [h,hq]
 ·simp [h]
theorem rtV_step (rows:List (BitVec 64)) (m q p:Nat) (hne:p≠q):rtV rows m (q+1) p=rtV rows m q p:=by
 unfold rtV
 by_cases h:p<q
 ·simp [h,show p<q+1 by omega]
 ·rw [if_neg (fun e=>by omega),if_neg (fun e=>h e.1)]
theorem rtV_hit (rows:List (BitVec 64)) (m q:Nat) (h:bit rows m q=true):rtV rows m (q+1) q=rtV rows m q q ||| 1#64 <<< m:=by
 unfold rtV
 rw [if_pos ⟨by omega,h⟩,if_neg (by omega)]
 simp
theorem rtV_miss (rows:List (BitVec 64)) (m q:Nat) (h:bit rows m q=false):rtV rows m (q+1) q=rtV rows m q q:=by
 unfold rtV
 rw [if_neg (by simp [h]),if_neg (by omega)]
theorem rtV_bit (rows:List (BitVec 64)) (m p:Nat):∀ i,(rtV rows m 0 p).getLsbD i=true↔i<m∧i<64∧bit rows i p=true:=by
 intro i
 unfold rtV
 rw [if_neg (fun e=>by omega),BitVec.or_zero]
 induction m with
 | zero=>simp
 | succ m ih=>
  rw [List.range_succ,List.foldl_append]
  simp only [List.foldl_cons,List.foldl_nil]
  by_cases hb:bit rows m p=true
  ·rw [if_pos hb,BitVec.getLsbD_or,Bool.or_eq_true,ih]
   by_cases hi:i<64
   ·rw [one_shl_bit m i hi]
    constructor
    ·rintro (h | h)
     ·exact ⟨by omega,h.2⟩
     ·have:m=i:=by simpa using h
      subst this;exact ⟨by omega,hi,hb⟩
    ·rintro ⟨h1,h2⟩
     by_cases e:i=m
     ·subst e;right;simp
     ·left;exact ⟨by omega,h2⟩
   ·rw [BitVec.getLsbD_of_ge (1#64 <<< m) _ (by omega)]
    constructor
    ·rintro (h | h)
     ·exact ⟨by omega,h.2⟩
     ·cases h
    ·rintro ⟨_,h,_⟩;exact absurd h hi
  ·rw [if_neg hb,ih]
   constructor
   ·rintro ⟨h1,h2⟩;exact ⟨by omega,h2⟩
   ·rintro ⟨h1,h2,h3⟩
    refine ⟨?_,h2,h3⟩
    by_cases e:i=m
    ·subst e;exact absurd h3 hb
    ·omega
theorem rturn_eq {n:Nat} {rows:List (BitVec 64)} (hf:Fits n rows):tab n (rtV rows n 0)=turnM rows:=by
 obtain ⟨k,e,hl,h64⟩:=fits_len hf
 have e:=Int.ofNat.inj e
 subst e
 refine rows_ext (by simp [turnM,tOut_len,hl]) fun i j hi=>?_
 rw [bit_tab,bit_turn hf,Bool.and_eq_true,rtV_bit,decide_eq_true_eq]
 constructor
 ·exact fun h=>h.2.2.2
 ·intro h
  have:=fits_bits hf h
  exact ⟨by omega,by omega,by omega,h⟩
theorem rturn_yes (n:Nat) (rows:List (BitVec 64)) (hf:Fits n rows):Pure Tryz.prog γ false 94 [encRel n rows] (encRel n (turnM rows)):=by
 obtain ⟨la,e1,hla,hl64⟩:=fits_len hf
 obtain rfl:n=la:=by omega
 rw [←rturn_eq hf]
 refine Pure.go (ty:=ty) ty_eq mo Tryz.func94 rfl Tryz.ntmps94 Tryz.results94 Tryz.call94 (by simp) fun P C CQ D W F E hF=>?_
 cbv
 refine E.c (SCalls.of_le (rcheck_ok n rows) ?_ ?_)
 ·(cbv;(try simp only [nc] at *);first|done|(simp;done)|(simp (disch:=(first|omega|(simp only [lnS];omega))) only [rdT,rdS,anT];first|done|omega|(refine ⟨?_,?_⟩<;>omega))|(simp (disch:=(first|omega|(simp only [lnS];omega))) [rdT,rdS];done))
 cbv
 refine br_f (by simp [checkM,hf]) ?_
 cbv
 refine E.c (SCalls.of_owns (rnone_in (n:Int) (by omega) (by omega)) ?_ ?_)
 ·cbv;all_goals simp
 cbv
 simp only [Int.toNat_natCast,nc]
 refine E.loop (ι:=Nat) (fun m=>m≤n) (fun m=>n-m) (fun m=>[(4,.i fun _=>(m:Int))])
  (fun m=>[.box (encRel n rows),.box (.agg [.lit 0,.nils]),.any,.run 0 1 fun _=>us (tab n (rtV rows m 0)),.box (.agg [.i fun _=>(n:Int),.sl 3 0 1 (fun _=>0) fun _=>n])])
  0 rfl (fun _=>rfl) (Nat.zero_le _) ?_ fun m hm I hI=>?_
 ·cbv
  simp
  exact congrArg us (by rw [←tab_zero];exact tab_congr fun p _=>(rtV_zero rows p).symm)
 cbv
 refine ⟨fun _ h4=>?_,fun _ h4=>?_⟩
 ·cbv
  have hmm:m<n:=by simp at h4;omega
  refine E.loop (ι:=Nat) (fun q=>q≤n) (fun q=>n-q) (fun q=>[(5,.i fun _=>(q:Int))])
   (fun q=>[.box (encRel n rows),.box (.agg [.lit 0,.nils]),.any,.run 0 1 fun _=>us (tab n (rtV rows m q)),.box (.agg [.i fun _=>(n:Int),.sl 3 0 1 (fun _=>0) fun _=>n])])
   0 rfl (fun _=>rfl) (Nat.zero_le _) ?_ fun q hq I2 hI2=>?_
  ·cbv
   simp
  cbv
  refine ⟨fun _ h5=>?_,fun _ h5=>?_⟩
  ·cbv
   have hqq:q<n:=by simp at h5;omega
   have hsh:(BitVec.ofInt 64 (q:Int)).toNat=q:=by simp;omega
   have hsm:(BitVec.ofInt 64 (m:Int)).toNat=m:=by simp;omega
   refine ⟨fun _=>by simp;omega,fun _=>by rw [nct,us_get _ m (by omega)];rfl,fun _=>by simp,?_⟩
   simp only [nct,us_get _ m (show m<rows.length by omega),at_u,nc,hsh]
   have hbit:=cnt_full_bits (rows.getD m 0) q
   refine ⟨fun _ h6=>?_,fun _ h6=>?_⟩
   ·cbv
    have hb:bit rows m q=true:=hbit.1 (by simpa using h6)
    refine E.d 12 (by kernel_rfl) ?_
    cbv
    refine ⟨fun _=>by simp;omega,fun _=>⟨rfl,by simp;omega⟩,fun _=>by rw [Nat.zero_add,nct,us_get _ q (by simpa using hqq)];rfl,fun _=>by simp;omega,
     fun _=>⟨rfl,by simp;omega,by rw [Nat.zero_add,nct,us_get _ q (by simpa using hqq)];rfl⟩,?_⟩
    refine hI2 (q+1) (by omega) (by omega) ?_
    cbv
    clear hI hI2
    simp only [Nat.zero_add,nct,us_get _ q (show q<(tab n _).length by simpa using hqq),at_u,upd_u,us_set,us_of,nc,tab_get n _ q hqq,hsm]
    simp only [implies_true,and_true,true_and,forall_const]
    exact ⟨w64_of (by omega) (by omega),congrArg us (tab_set q _ hqq (rtV_hit rows m q hb) fun j _ hj=>rtV_step rows m q j hj)⟩
   ·cbv
    have hb:bit rows m q=false:=by
     cases hx:bit rows m q with
     | false=>rfl
     | true=>exact absurd (hbit.2 hx) (by simpa using h6)
    refine hI2 (q+1) (by omega) (by omega) ?_
    cbv
    clear hI hI2
    simp
    refine ⟨w64_of (by omega) (by omega),congrArg us (tab_congr fun j _=>?_)⟩
    by_cases e:j=q
    ·subst e;exact (rtV_miss rows m j hb).symm
    ·exact (rtV_step rows m q j e).symm
  ·cbv
   refine hI (m+1) (by omega) (by omega) ?_
   cbv
   clear hI hI2
   have:q=n:=by simp at h5;omega
   subst this
   simp
   exact ⟨w64_of (by omega) (by omega),congrArg us (tab_congr fun j hj=>(rtV_next rows m q j hj).symm)⟩
 ·cbv
  refine hF ?_
  cbv
  clear hI
  have hml:m=n:=by simp at h4;omega
  subst hml
  simp
  rw [List.take_of_length_le (by simp)]
end Go.AL.Rl
namespace Go.AL.Rl
open Go Go.AL Go.Proofs
variable {γ:Nat→Option AV}
set_option maxRecDepth 100000
theorem rsame_ok (n m:Int) (a b:List (BitVec 64)) (hb:b.length≤9223372036854775807):Pure Tryz.prog γ false 125 [encRel n a,encRel m b] (.b fun _=>decide (Fits n a∧n=m∧a=b)):=by
 refine Pure.go (ty:=ty) ty_eq mo Tryz.func125 rfl Tryz.ntmps125 Tryz.results125 Tryz.call125 (by simp) fun P C CQ D W F E hF=>?_
 cbv
 refine ⟨fun _ h0=>?_,fun _ h0=>?_⟩
 ·cbv
  refine hF ?_
  cbv
  intro _
  simp at h0 ⊢
  exact fun _ h=>absurd h h0
 cbv
 refine ⟨fun _ h1=>?_,fun _ h1=>?_⟩
 ·cbv
  refine hF ?_
  cbv
  intro _
  simp at h1 ⊢
  rintro - - rfl
  omega
 cbv
 obtain rfl:n=m:=by simpa using h0
 have hl:a.length=b.length:=by simp at h1;omega
 refine E.loop (ι:=Nat) (fun i=>i≤a.length∧∀ k<i,a.getD k 0=b.getD k 0) (fun i=>a.length-i) (fun i=>[(5,.i fun _=>(i:Int))]) (fun _=>[.box (encRel n a),.box (encRel n b)]) 0 rfl (fun _=>rfl) ⟨Nat.zero_le _,by simp⟩ ?_ fun i hi I hI=>?_
 ·cbv
  simp
 cbv
 refine ⟨fun _ h4=>?_,fun _ h4=>?_⟩
 ·cbv
  have hii:i<a.length:=by simp at h4;omega
  refine E.d 11 (by kernel_rfl) ?_
  cbv
  refine ⟨fun _=>by simp;omega,fun _=>by rw [nct,us_get _ i (by omega)];rfl,fun _=>by simp;omega,fun _=>by rw [nct,us_get _ i (by omega)];rfl,?_⟩
  simp only [nct,us_get a i (by omega),us_get b i (by omega),at_u]
  refine ⟨fun _ h5=>?_,fun _ h5=>?_⟩
  ·cbv
   refine hF ?_
   cbv
   clear hI
   intro _
   simp at h5 ⊢
   rintro-rfl
   simp at h5
  ·cbv
   refine hI (i+1) ⟨by omega,fun k hk=>?_⟩ (by omega) ?_
   ·rcases Nat.lt_or_ge k i with h | h
    ·exact hi.2 k h
    ·obtain rfl:k=i:=by omega
     simpa using h5
   ·cbv
    clear hI
    simp
    exact w64_of (by omega) (by omega)
 ·cbv
  clear hI
  have:i=a.length:=by simp at h4;omega
  have hab:a=b:=List.ext_getElem (by omega) fun k h1 h2=>by
   have:=hi.2 k (by omega)
   simpa [h1,h2] using this
  subst hab
  refine E.c (SCalls.of_le (rcheck_ok n a) ?_ ?_)
  ·(cbv;(try simp only [nc] at *);first|done|(simp;done)|(simp (disch:=(first|omega|(simp only [lnS];omega))) only [rdT,rdS,anT];first|done|omega|(refine ⟨?_,?_⟩<;>omega))|(simp (disch:=(first|omega|(simp only [lnS];omega))) [rdT,rdS];done))
  cbv
  refine hF ?_
  cbv
  intro _
  by_cases hf:Fits n a<;>simp [checkM,hf]
end Go.AL.Rl
namespace Go.AL.Rl
open Go Go.AL Go.Proofs
variable {γ:Nat→Option AV}
set_option maxRecDepth 100000
theorem prow_full (i:Nat) (row:BitVec 64) (n:Nat) (h:∀ j,row.getLsbD j=true→j<n):∀ d,prow i row (n+d)=prow i row n
 | 0=>rfl
 | d+1=>by
  rw [←Nat.add_assoc,prow_succ,prow_full i row n h d,if_neg]
  intro hb
  have:=h _ hb
  omega
theorem rpairs_yes (n:Nat) (rows:List (BitVec 64)) (hf:Fits n rows):Pure Tryz.prog γ false 92 [encRel n rows] (.vs 2 fun _=>ps (pairsM rows)):=by
 obtain ⟨la,e1,hla,hl64⟩:=fits_len hf
 obtain rfl:n=la:=by omega
 refine Pure.go (ty:=ty) ty_eq mo Tryz.func92 rfl Tryz.ntmps92 Tryz.results92 Tryz.call92 (by simp) fun P C CQ D W F E hF=>?_
 cbv
 refine E.w (AWP.ghostSlot 3 2 rfl (by omega) (E.loopA (ι:=Nat × Nat) (fun m=>m.1≤n) (fun m=>n-m.1) (fun m=>[(3,.sl 1 m.2 2 (fun _=>0) fun _=>(prows rows m.1).length),(4,.i fun _=>(m.1:Int))])
  (fun m=>[.box (encRel n rows),.run m.2 2 fun _=>ps (prows rows m.1)])
  (0,0) rfl (fun _=>rfl) (Nat.zero_le _) ?_ fun m hm I hI=>?_))
 ·cbv
  simp [prows]
 obtain ⟨m,g⟩:=m
 simp only at hm
 cbv
 refine ⟨fun _ h4=>?_,fun _ h4=>?_⟩
 ·cbv
  have hmm:m<n:=by simp at h4;omega
  refine E.c (SCalls.of_le (rcheck_ok n rows) ?_ ?_)
  ·(cbv;(try simp only [nc] at *);first|done|(simp;done)|(simp (disch:=(first|omega|(simp only [lnS];omega))) only [rdT,rdS,anT];first|done|omega|(refine ⟨?_,?_⟩<;>omega))|(simp (disch:=(first|omega|(simp only [lnS];omega))) [rdT,rdS];done))
  cbv
  refine br_t (by simp [checkM,hf]) ?_
  cbv
  have hps:=prows_succ rows m
  have hpl:=prows_len rows m
  have hrow:∀ j,(rows.getD m 0).getLsbD j=true→j<n:=fun j hj=>by have:=(fits_bits hf (i:=m) hj).2;omega
  have h64:prow m (rows.getD m 0) 64=prow m (rows.getD m 0) n:=by
   have:=prow_full m (rows.getD m 0) n hrow (64-n)
   rwa [show n+(64-n)=64 by omega] at this
  generalize hrg:rows.getD m 0=row at hps hrow h64
  refine E.loop (ι:=Nat × Nat) (fun q=>q.1≤n) (fun q=>n-q.1) (fun q=>[(3,.sl 1 q.2 2 (fun _=>0) fun _=>(prows rows m++prow m row q.1).length),(5,.i fun _=>(q.1:Int))])
   (fun q=>[.box (encRel n rows),.run q.2 2 fun _=>ps (prows rows m++prow m row q.1)]) (0,g) rfl (fun _=>rfl) (Nat.zero_le _) ?_ fun q hq I2 hI2=>?_
  ·cbv
   simp [prow]
  obtain ⟨q,g2⟩:=q
  simp only at hq
  cbv
  refine ⟨fun _ h5=>?_,fun _ h5=>?_⟩
  ·cbv
   have hqq:q<n:=by simp at h5;omega
   have hsh:(BitVec.ofInt 64 (q:Int)).toNat=q:=by simp;omega
   have hbit:=cnt_full_bits row q
   have hpr:=prow_succ m row q
   have hprl:=prow_len m row q
   refine ⟨fun _=>by simp;omega,fun _=>by rw [nct,us_get _ m (by omega)];rfl,fun _=>by simp,?_⟩
   simp only [nct,us_get _ m (show m<rows.length by omega),at_u,nc,hsh,hrg]
   refine ⟨fun _ h6=>?_,fun _ h6=>?_⟩
   ·cbv
    have hb:=hbit.1 (by simpa using h6)
    rw [if_pos hb] at hpr
    refine ⟨fun _=>⟨rfl,rfl,by simp,by simp;omega,by simp;omega,by simp [AV.flat,AV.cells,AV.one]⟩,?_⟩
    refine hI2 (q+1,g2+1) (by simp;omega) (by simp;omega) ?_
    cbv
    clear hI hI2
    simp [hpr,ps,Nat.add_assoc]
    exact w64_of (by omega) (by omega)
   ·cbv
    rw [if_neg (fun hb=>absurd (hbit.2 hb) (by simpa using h6))] at hpr
    refine hI2 (q+1,g2) (by simp;omega) (by simp;omega) ?_
    cbv
    clear hI hI2
    simp [hpr]
    exact w64_of (by omega) (by omega)
  ·cbv
   have hqn:q=n:=by simp at h5;omega
   refine hI (m+1,g2) (by simp;omega) (by simp;omega) ?_
   cbv
   clear hI hI2
   simp [hps,h64,hqn]
   exact w64_of (by omega) (by omega)
 ·cbv
  refine hF ?_
  cbv
  clear hI
  have hml:m=n:=by simp at h4;omega
  subst hml
  simp [pairsM,hla]
  rw [List.take_of_length_le (by simp)]
theorem reachTo_all (rows:List (BitVec 64)) (f:BitVec 64) (q:Nat) (hq:rows.length≤q):reachTo q rows f=reachM rows f:=by
 apply BitVec.eq_of_getLsbD_eq
 intro j hj
 rw [Bool.eq_iff_iff,bit_reachTo,bit_reach]
 constructor
 ·rintro ⟨p,_,h⟩;exact ⟨p,h⟩
 ·rintro ⟨p,h1,h2⟩
  refine ⟨p,?_,h1,h2⟩
  rcases Nat.lt_or_ge p rows.length with h | h
  ·omega
  ·rw [bit_out h] at h2;cases h2
theorem or_one (n:Nat) (rows:List (BitVec 64)) (hl:rows.length=n):orM n [((n:Int),rows)]=rows:=by
 unfold orM
 subst hl
 conv=>rhs;rw [←tab_self rows]
 exact tab_congr fun i _=>by simp [orV]
theorem alike1 (n:Int) (a:List (BitVec 64)) (ha:Fits n a):Alike [(n,a)]:=by
 refine ⟨by simp,fun i hi=>?_⟩
 have:i=0:=by simp at hi;omega
 subst this;simp [ha]
theorem rthen_yes (l:List RelV) (hl:l.length<4611686018427387904) (h:Alike l) (n:Nat) (hn:(l.getD 0 (0,[])).1=n):Pure Tryz.prog γ false 124 [.vs 2 fun _=>rls l] (encRel n (thenM n l)):=by
 have hl0:=h.1
 obtain ⟨h64,hall⟩:=alike_all h hn
 have h0:=(h.2 0 h.1).1
 have hz:=hall 0 hl0
 have hto:tab n (thenV l 0)=(l.getD 0 (0,[])).2:=by
  have:=tab_self (l.getD 0 (0,[])).2
  rw [hz] at this;exact this
 refine Pure.go (ty:=ty) ty_eq mo Tryz.func124 rfl Tryz.ntmps124 Tryz.results124 Tryz.call124 (by simp) fun P C CQ D W F E hF=>?_
 cbv
 refine E.c (SCalls.of_le (ralike_ok l hl) ?_ ?_)
 ·(cbv;(try simp only [nc] at *);first|done|(simp;done)|(simp (disch:=(first|omega|(simp only [lnS];omega))) only [rdT,rdS,anT];first|done|omega|(refine ⟨?_,?_⟩<;>omega))|(simp (disch:=(first|omega|(simp only [lnS];omega))) [rdT,rdS];done))
 cbv
 refine br_f (by simp [h]) ?_
 cbv
 refine ⟨fun _=>by simp;omega,fun _=>by rw [show (0:Int).toNat=0 from rfl,rls_get _ 0 hl0];rfl,?_⟩
 cbv
 simp only [show (0:Int).toNat=0 from rfl,rls_get _ 0 hl0,at_r0,at_r1,hn]
 rw [hn] at h0
 refine E.c (SCalls.of_le (ror_yes [((n:Int),(l.getD 0 (0,[])).2)] (by simp) (alike1 _ _ h0) n rfl) ?_ ?_)
 ·cbv;all_goals simp [rls,ps,us,is,LV.of]
 cbv
 rw [or_one n _ hz,←hto]
 refine E.loop (ι:=Nat) (fun k=>k+1≤l.length) (fun k=>l.length-k) (fun k=>[(4,.i fun _=>((k+1:Nat):Int))])
  (fun k=>[.box (.agg [.lit 0,.nils]),.box (encRel n (tab n (thenV l k)))]) 0 rfl (fun _=>rfl) hl0 ?_ fun k hk I hI=>?_
 ·cbv
  simp
 cbv
 refine ⟨fun _ h4=>?_,fun _ h4=>?_⟩
 ·cbv
  have hkk:k+1<l.length:=by simp at h4;omega
  have hsu:=thenV_succ l k hkk
  have hrl:=hall (k+1) hkk
  refine E.c (SCalls.of_owns (rnone_in (n:Int) (by omega) (by omega)) ?_ ?_)
  ·cbv;all_goals simp
  cbv
  simp only [Int.toNat_natCast,nc]
  refine E.loop (ι:=Nat) (fun i=>i≤n) (fun i=>n-i) (fun i=>[(6,.i fun _=>(i:Int))])
   (fun i=>[.box (.agg [.lit 0,.nils]),.box (encRel n (tab n (thenV l k))),.any,.run 0 1 fun _=>us (tab n fun p=>if p<i then thenV l (k+1) p else 0#64),.box (.agg [.i fun _=>(n:Int),.sl 3 0 1 (fun _=>0) fun _=>n])])
   0 rfl (fun _=>rfl) (Nat.zero_le _) ?_ fun i hi I2 hI2=>?_
  ·cbv
   simp [←tab_zero]
  cbv
  refine ⟨fun _ h5=>?_,fun _ h5=>?_⟩
  ·cbv
   have hii:i<n:=by simp at h5;omega
   refine E.loop (ι:=Nat) (fun j=>j≤n) (fun j=>n-j) (fun j=>[(7,.i fun _=>(j:Int))])
    (fun j=>[.box (.agg [.lit 0,.nils]),.box (encRel n (tab n (thenV l k))),.any,.run 0 1 fun _=>us (tab n fun p=>if p<i then thenV l (k+1) p else if p=i then reachTo j (l.getD (k+1) (0,[])).2 (thenV l k i) else 0#64),.box (.agg [.i fun _=>(n:Int),.sl 3 0 1 (fun _=>0) fun _=>n])])
    0 rfl (fun _=>rfl) (Nat.zero_le _) ?_ fun j hj I3 hI3=>?_
   ·cbv
    simp
    refine congrArg us (tab_congr fun p _=>?_)
    by_cases hpi:p<i
    ·simp [hpi]
    ·by_cases e:p=i<;>simp [hpi,e,reachTo]
   cbv
   refine ⟨fun _ h6=>?_,fun _ h6=>?_⟩
   ·cbv
    have hjj:j<n:=by simp at h6;omega
    have hsh:(BitVec.ofInt 64 (j:Int)).toNat=j:=by simp;omega
    have hbit:=cnt_full_bits (thenV l k i) j
    have hrs:=reachTo_succ j (l.getD (k+1) (0,[])).2 (thenV l k i)
    refine ⟨fun _=>by simp;omega,fun _=>by rw [nct,us_get _ i (by simpa using hii)];rfl,fun _=>by simp,?_⟩
    simp only [nct,us_get _ i (show i<(tab n _).length by simpa using hii),at_u,nc,hsh,tab_get n _ i hii]
    refine ⟨fun _ h7=>?_,fun _ h7=>?_⟩
    ·cbv
     rw [if_pos (hbit.1 (by simpa using h7))] at hrs
     refine E.d 17 (by kernel_rfl) ?_
     cbv
     have hk1:((NatCast.natCast (k+1):Int)).toNat=k+1:=rfl
     simp only [nct,hk1,rls_get _ (k+1) hkk,at_r1]
     refine ⟨fun _=>by simp;omega,fun _=>⟨by first | rfl | trivial,by simp;omega⟩,fun _=>by rw [Nat.zero_add,us_get _ i (by simpa using hii)];rfl,fun _=>by simp;omega,fun _=>rfl,fun _=>by simp only [us_len,nc];omega,fun _=>by rw [us_get _ j (by omega)];rfl,fun _=>by simp;omega,
      fun _=>⟨by first | rfl | trivial,by simp;omega,by rw [Nat.zero_add,us_get _ i (by simpa using hii)];rfl⟩,?_⟩
     refine hI3 (j+1) (by omega) (by omega) ?_
     cbv
     clear hI hI2 hI3
     simp only [Nat.zero_add,nct,us_get _ i (show i<(tab n _).length by simpa using hii),us_get (l.getD (k+1) (0,[])).2 j (by omega),at_u,upd_u,us_set,us_of,nc,tab_get n _ i hii]
     simp only [implies_true,and_true,true_and,forall_const]
     refine ⟨w64_of (by omega) (by omega),congrArg us (tab_set i _ hii (by simp only [Nat.lt_irrefl,if_false,if_true];exact hrs) fun p _ hp=>?_)⟩
     by_cases h:p<i<;>simp [h,hp]
    ·cbv
     rw [if_neg (fun hb=>absurd (hbit.2 hb) (by simpa using h7))] at hrs
     refine hI3 (j+1) (by omega) (by omega) ?_
     cbv
     clear hI hI2 hI3
     simp only [hrs]
     simp
     exact w64_of (by omega) (by omega)
   ·cbv
    have hjn:j=n:=by simp at h6;omega
    have hra:=reachTo_all (l.getD (k+1) (0,[])).2 (thenV l k i) n (by omega)
    refine hI2 (i+1) (by omega) (by omega) ?_
    cbv
    clear hI hI2 hI3
    subst hjn
    simp
    refine ⟨w64_of (by omega) (by omega),congrArg us (tab_congr fun p _=>?_)⟩
    by_cases hpi:p<i
    ·simp [hpi,show p<i+1 by omega]
    ·by_cases e:p=i
     ·subst e;simp;rw [hsu p,←List.getD_eq_getElem?_getD,hra]
     ·rw [if_neg hpi,if_neg e,if_neg (by omega)]
  ·cbv
   have hin:i=n:=by simp at h5;omega
   refine hI (k+1) (by omega) (by omega) ?_
   cbv
   clear hI hI2
   subst hin
   simp
   exact ⟨w64_of (by omega) (by omega),by rw [List.take_of_length_le (by simp)];exact congrArg (fun x=>(us x).l) (tab_congr fun p hp=>by simp [hp])⟩
 ·cbv
  refine hF ?_
  cbv
  clear hI
  have hml:k=l.length-1:=by simp at h4;omega
  subst hml
  simp [thenM]
end Go.AL.Rl
namespace Go.AL.Rl
open Go Go.AL Go.Proofs
variable {γ:Nat→Option AV}
set_option maxRecDepth 100000
def cntR (rows:List (BitVec 64)):Nat:=(rows.map cnt).sum
theorem cnt_mono {a b:BitVec 64} (h:∀ p,a.getLsbD p=true→b.getLsbD p=true):cnt a≤cnt b∧(a≠b→cnt a<cnt b):=by
 have hle:∀ l:List Nat,l.countP (fun p=>a.getLsbD p)≤l.countP fun p=>b.getLsbD p:=fun l=>by
  induction l with
  | nil=>simp
  | cons x l ih=>
   have:=h x
   simp only [List.countP_cons]
   cases ha:a.getLsbD x<;>cases hb:b.getLsbD x<;>simp_all<;>omega
 refine ⟨hle _,fun hne=>?_⟩
 have:∃ p,b.getLsbD p=true∧a.getLsbD p=false:=by
  apply Classical.byContradiction
  intro hno
  apply hne
  apply BitVec.eq_of_getLsbD_eq
  intro i _
  cases ha:a.getLsbD i with
  | true=>exact (h i ha).symm
  | false=>
   cases hb:b.getLsbD i with
   | false=>rfl
   | true=>exact absurd ⟨i,hb,ha⟩ hno
 obtain ⟨p,h1,h2⟩:=this
 have hp:p<64:=by
  rcases Nat.lt_or_ge p 64 with h' | h'
  ·exact h'
  ·rw [BitVec.getLsbD_of_ge _ _ h'] at h1;cases h1
 exact countP_lt _ _ _ (fun x _ hx=>h x hx) ⟨p,by simpa using hp,h1,h2⟩
theorem cntR_le:∀ (rows:List (BitVec 64)),cntR rows≤64 * rows.length
 | []=>by simp [cntR]
 | r :: rows=>by
  have:=cntR_le rows
  have:=cnt_le r
  simp only [cntR,List.map_cons,List.sum_cons,List.length_cons] at *
  omega
theorem cntR_mono:∀ {a b:List (BitVec 64)},a.length=b.length→(∀ i j,bit a i j=true→bit b i j=true)→cntR a≤cntR b∧(a≠b→cntR a<cntR b)
 | [],[],_,_=>⟨Nat.le_refl _,fun h=>absurd rfl h⟩
 | x :: a,y :: b,hl,h=>by
  obtain ⟨h1,h2⟩:=cntR_mono (a:=a) (b:=b) (by simpa using hl) fun i j hij=>by
   have:=h (i+1) j
   unfold bit at this hij ⊢
   simpa using this (by simpa using hij)
  obtain ⟨h3,h4⟩:=cnt_mono (a:=x) (b:=y) fun p hp=>by
   have:=h 0 p
   unfold bit at this
   simpa using this (by simpa using hp)
  simp only [cntR,List.map_cons,List.sum_cons] at *
  refine ⟨by omega,fun hne=>?_⟩
  by_cases hxy:x=y
  ·subst hxy
   have:=h2 (fun e=>hne (by rw [e]))
   omega
  ·have:=h4 hxy
   omega
theorem ror2 (n:Nat) (a b:List (BitVec 64)) (ha:Fits n a) (hb:Fits n b):Pure Tryz.prog γ false 87 [.vs 2 fun _=>rls [((n:Int),a),((n:Int),b)]] (encRel n (orM n [((n:Int),a),((n:Int),b)])):=
 ror_yes _ (by simp) ((alike2 _ _ _ _).2 ⟨ha,hb,rfl⟩) n rfl
theorem rthen2 (n:Nat) (a b:List (BitVec 64)) (ha:Fits n a) (hb:Fits n b):Pure Tryz.prog γ false 124 [.vs 2 fun _=>rls [((n:Int),a),((n:Int),b)]] (encRel n (thenM n [((n:Int),a),((n:Int),b)])):=
 rthen_yes _ (by simp) ((alike2 _ _ _ _).2 ⟨ha,hb,rfl⟩) n rfl
theorem rplus_yes (n:Nat) (rows:List (BitVec 64)) (hf:Fits n rows):Pure Tryz.prog γ false 86 [encRel n rows] (encRel n (plusM n rows)):=by
 obtain ⟨la,e1,hla,hl64⟩:=fits_len hf
 obtain rfl:n=la:=by omega
 have hp:=fits_plus hf
 have hpt:=fun i k j=>plus_trans hf (i:=i) (k:=k) (j:=j)
 have hpe:=fun i j=>plus_edge (n:=(n:Int)) (rows:=rows) (i:=i) (j:=j)
 have hpl:=fun (T:Nat→Nat→Prop) h1 h2 i j=>plus_least (n:=(n:Int)) (rows:=rows) T h1 h2 (i:=i) (j:=j)
 generalize plusM (n:Int) rows=p at hp hpt hpe hpl
 refine Pure.go (ty:=ty) ty_eq mo Tryz.func86 rfl Tryz.ntmps86 Tryz.results86 Tryz.call86 (by simp) fun P C CQ D W F E hF=>?_
 cbv
 refine E.c (SCalls.of_le (rcheck_ok n rows) ?_ ?_)
 ·(cbv;(try simp only [nc] at *);first|done|(simp;done)|(simp (disch:=(first|omega|(simp only [lnS];omega))) only [rdT,rdS,anT];first|done|omega|(refine ⟨?_,?_⟩<;>omega))|(simp (disch:=(first|omega|(simp only [lnS];omega))) [rdT,rdS];done))
 cbv
 refine br_f (by simp [checkM,hf]) ?_
 cbv
 refine E.c (SCalls.of_le (ror_yes [((n:Int),rows)] (by simp) (alike1 _ _ hf) n rfl) ?_ ?_)
 ·cbv;all_goals simp [rls,ps,us,is,LV.of]
 cbv
 rw [or_one n rows hla]
 refine E.loop (ι:=List (BitVec 64)) (fun out=>Fits n out∧(∀ i j,bit rows i j=true→bit out i j=true)∧∀ i j,bit out i j=true→bit p i j=true) (fun out=>64 * n-cntR out) (fun _=>[])
  (fun out=>[.box (encRel n rows),.box (.agg [.lit 0,.nils]),.box (encRel n out)]) rows rfl (fun _=>rfl) ⟨hf,fun _ _ h=>h,hpe⟩ ?_ fun out hout I hI=>?_
 ·cbv
  simp
 obtain ⟨ho1,ho2,ho3⟩:=hout
 have hoo:=fits_then2 ho1 ho1
 have hnx:=fits_or2 ho1 hoo
 have hnb:=bit_or2 ho1 hoo
 obtain ⟨lo,e2,hlo,_⟩:=fits_len ho1
 cbv
 refine E.da 8 67 (by kernel_rfl) (by kernel_rfl) rfl rfl rfl ?_
 cbv
 refine E.q (QCalls.of_le (rthen2 n out out ho1 ho1) ?_ ?_)
 ·cbv;all_goals simp [rls,ps,us,is,LV.of]
 cbv
 refine E.q (QCalls.of_le (ror2 n out (thenM n [((n:Int),out),((n:Int),out)]) ho1 hoo) ?_ ?_)
 ·cbv;all_goals simp [rls,ps,us,is,LV.of]
 cbv
 generalize hnext:orM n [((n:Int),out),((n:Int),thenM n [((n:Int),out),((n:Int),out)])]=next at hnx hnb
 obtain ⟨ln,e3,hln,_⟩:=fits_len hnx
 have hoL:out.length=n:=by simp only [nc] at e2;omega
 have hnL:next.length=n:=by simp only [nc] at e3;omega
 refine E.c (SCalls.of_le (rsame_ok n n next out (by omega)) ?_ ?_)
 ·(cbv;(try simp only [nc] at *);first|done|(simp;done)|(simp (disch:=(first|omega|(simp only [lnS];omega))) only [rdT,rdS,anT];first|done|omega|(refine ⟨?_,?_⟩<;>omega))|(simp (disch:=(first|omega|(simp only [lnS];omega))) [rdT,rdS];done))
 cbv
 refine ⟨fun _ h4=>?_,fun _ h4=>?_⟩
 ·cbv
  have heq:next=out:=by simp at h4;exact h4.2
  have hop:out=p:=fits_ext ho1 hp fun i j=>⟨ho3 i j,fun h=>by
   refine hpl (fun i j=>bit out i j=true) ho2 (fun i k j h1 h2=>?_) i j h
   rw [←heq,hnb]
   exact .inr ((bit_then2 ho1 i j).2 ⟨k,h1,h2⟩)⟩
  refine hF ?_
  cbv
  clear hI
  subst hop
  simp
 ·cbv
  have hne:out≠next:=fun e=>by
   rw [←e] at h4
   simp [ho1] at h4
  have hm:=(cntR_mono (a:=out) (b:=next) (by omega) fun i j h=>(hnb i j).2 (.inl h)).2 hne
  have hle:=cntR_le next
  rw [hnL] at hle
  refine hI next ⟨hnx,fun i j h=>(hnb i j).2 (.inl (ho2 i j h)),fun i j h=>?_⟩ (by omega) ?_
  ·rcases (hnb i j).1 h with h | h
   ·exact ho3 i j h
   ·obtain ⟨k,h1,h2⟩:=(bit_then2 ho1 i j).1 h
    exact hpt i k j (ho3 _ _ h1) (ho3 _ _ h2)
  ·cbv
   clear hI
   simp
end Go.AL.Rl
namespace Go.AL
open Go Go.RowKit
section
variable {P:Program} {γ:Nat→Option AV}
theorem SCalls.le {f:FuncId} {args args':List AV} {h h':List Blk} {Q:AV→List Blk→Prop} (hs:SCalls P γ f args' h' Q) (hn:h'.length=h.length) (ha:leVs h.length args' args) (hh:leH h.length h' h):SCalls P γ f args h Q:=by
 refine ⟨hs.1,fun B S ρ w vals hr hv=>?_⟩
 have h1:=hr.le hh hn
 have h2:=Rs_le _ _ _ ha hv
 have e:ρ.take h.length=ρ:=List.take_of_length_le (by rw [hr.len];exact Nat.le_refl _)
 rw [e] at h1 h2
 exact hs.2 B S ρ w vals h1 h2
abbrev Post (v:AV) (h:List Blk):AV→List Blk→Prop:=fun v' h'=>leV h.length v v'∧leH h.length h h'
theorem SCalls.to {f:FuncId} {args args':List AV} {h h' h2:List Blk} {v:AV} {Q:AV→List Blk→Prop} (hs:SCalls P γ f args' h' (Post v h2)) (hn:h'.length=h.length) (hn2:h.length≤h2.length) (ha:leVs h.length args' args) (hh:leH h.length h' h) (hq:Q v h2):SCalls P γ f args h Q:=by
 have hs:=hs.le hn ha hh
 refine ⟨hs.1,fun B S ρ w vals hr hv=>(hs.2 B S ρ w vals hr hv).mono fun e w' ⟨v',h'',S',ρ',v2,h1,⟨h2',h3⟩,h4,h5,h6⟩=>?_⟩
 have hb:=h5.le h3 rfl
 have hv':=R_le _ _ _ h2' h4
 refine ⟨v,h2,S',ρ'.take h2.length,v2,h1,hq,hv',hb,⟨h6.fr,h6.below,h6.sub,h6.same,?_,h6.grow⟩⟩
 intro b loc hb'
 obtain ⟨l',k1,k2⟩:=h6.locs b loc hb'
 exact ⟨l',take_get k1 (by have:=(List.getElem?_eq_some_iff.1 hb').1;rw [hr.len] at this;omega),k2⟩
end
section
variable {P:Program} {γ:Nat→Option AV} {C:EC} {CQ:List Blk→QC} {T:Nat→TI} {D:Array Oper→(St→Prop)→St→Prop} {W:Code→(Exit→St→Prop)→St→Prop}
theorem Env.loopS (E:Env P γ C CQ T D W) {c:Code} {Q:Exit→St→Prop} {A:St} {ι:Type} (ok:ι→Prop) (m:ι→Nat) (upd:ι→List (Nat × AV)) (f:ι→List Blk→List Blk) (j0:ι)
  (hf:∀ j,(f j A.h).length=A.h.length) (hok:ok j0) (h0:leSt A.h.length (headSt c A (upd j0) (f j0 A.h)) A)
  (round:∀ j,ok j→∀ (I:St→Prop),(∀ {A'} j',ok j'→m j'<m j→leSt A.h.length (headSt c A (upd j') (f j' A.h)) A'→I A')→vc T γ C D W c (thenE I Q) (headSt c A (upd j) (f j A.h))):W c Q A:=
 E.w (AWP.loopI (ι:=ι) A.h.length (fun j=>headSt c A (upd j) (f j A.h)) ok m j0 rfl (fun j=>hf j) ⟨hok,h0⟩ fun j hj=>E.b (round j hj _ fun j' h1 h2 h3=>⟨j',h1,h2,h3⟩))
theorem Env.loopSA (E:Env P γ C CQ T D W) {c:Code} {Q:Exit→St→Prop} {A:St} {ι:Type} (ok:ι→Prop) (m:ι→Nat) (upd:ι→List (Nat × AV)) (f:ι→List Blk→List Blk) (j0:ι)
  (hf:∀ j,(f j A.h).length=A.h.length) (hok:ok j0) (h0:leSt A.h.length (headSt c A (upd j0) (f j0 A.h)) A)
  (round:∀ j,ok j→∀ (I:St→Prop),(∀ {A'} j',ok j'→m j'<m j→leSt A.h.length (headSt c A (upd j') (f j' A.h)) A'→I A')→vc T γ C D W c (thenE I Q) (headSt c A (upd j) (f j A.h))):AWP P γ (.loop c) Q A:=
 AWP.loopI (ι:=ι) A.h.length (fun j=>headSt c A (upd j) (f j A.h)) ok m j0 rfl (fun j=>hf j) ⟨hok,h0⟩ fun j hj=>E.b (round j hj _ fun j' h1 h2 h3=>⟨j',h1,h2,h3⟩)
end
end Go.AL
namespace Go.AL.Rl
open Go Go.AL Go.Proofs
set_option maxRecDepth 100000
structure Ev where
 kind:Int
 loc:Int
 order:Int
 rd:Int
 wr:Int
theorem Ev.ext' {a b:Ev} (h1:a.kind=b.kind) (h2:a.loc=b.loc) (h3:a.order=b.order) (h4:a.rd=b.rd) (h5:a.wr=b.wr):a=b:=by cases a;cases b;simp_all
instance:DecidableEq Ev:=fun a b=>decidable_of_iff (a.kind=b.kind∧a.loc=b.loc∧a.order=b.order∧a.rd=b.rd∧a.wr=b.wr) ⟨fun h=>Ev.ext' h.1 h.2.1 h.2.2.1 h.2.2.2.1 h.2.2.2.2,fun h=>by subst h;exact ⟨rfl,rfl,rfl,rfl,rfl⟩⟩
structure EId where
 t:Int
 i:Int
theorem EId.ext' {a b:EId} (h1:a.t=b.t) (h2:a.i=b.i):a=b:=by cases a;cases b;simp_all
instance:DecidableEq EId:=fun a b=>decidable_of_iff (a.t=b.t∧a.i=b.i) ⟨fun h=>EId.ext' h.1 h.2,fun h=>by subst h;exact ⟨rfl,rfl⟩⟩
structure Gr where
 init:List Int
 th:List (List Ev)
 fr:List (List EId)
 ord:List (List EId)
abbrev ev0:Ev:=⟨0,0,0,0,0⟩
abbrev id0:EId:=⟨0,0⟩
abbrev aEv (e:Ev):AV:=.agg [.i fun _=>e.kind,.i fun _=>e.loc,.i fun _=>e.order,.i fun _=>e.rd,.i fun _=>e.wr]
abbrev aId (d:EId):AV:=.agg [.i fun _=>d.t,.i fun _=>d.i]
def evs (l:List Ev):LV:=LV.of (l.map aEv)
def ids (l:List EId):LV:=LV.of (l.map aId)
def evss (l:List (List Ev)):LV:=LV.of (l.map fun x=>.vs 5 fun _=>evs x)
def idss (l:List (List EId)):LV:=LV.of (l.map fun x=>.vs 2 fun _=>ids x)
abbrev aGr (g:Gr):AV:=.agg [.vs 1 fun _=>is g.init,.vs 1 fun _=>evss g.th,.vs 1 fun _=>idss g.fr,.vs 1 fun _=>idss g.ord]
@[simp] theorem evs_len (l:List Ev):(evs l).l.length=l.length:=by simp [evs]
@[simp] theorem ids_len (l:List EId):(ids l).l.length=l.length:=by simp [ids]
@[simp] theorem evss_len (l:List (List Ev)):(evss l).l.length=l.length:=by simp [evss]
@[simp] theorem idss_len (l:List (List EId)):(idss l).l.length=l.length:=by simp [idss]
theorem evs_get (l:List Ev) (i:Nat) (h:i<l.length):(evs l).l.getD i .any=aEv (l.getD i ev0):=by simp [evs,h]
theorem ids_get (l:List EId) (i:Nat) (h:i<l.length):(ids l).l.getD i .any=aId (l.getD i id0):=by simp [ids,h]
theorem evss_get (l:List (List Ev)) (i:Nat) (h:i<l.length):(evss l).l.getD i .any=.vs 5 fun _=>evs (l.getD i []):=by simp [evss,h]
theorem idss_get (l:List (List EId)) (i:Nat) (h:i<l.length):(idss l).l.getD i .any=.vs 2 fun _=>ids (l.getD i []):=by simp [idss,h]
section
variable (a b c d e:Unit→Int) (k:Nat) (es:Unit→LV)
theorem at_e0:((AV.agg [.i a,.i b,.i c,.i d,.i e]).at 0).asI=a ():=rfl
theorem at_e1:((AV.agg [.i a,.i b,.i c,.i d,.i e]).at 1).asI=b ():=rfl
theorem at_e2:((AV.agg [.i a,.i b,.i c,.i d,.i e]).at 2).asI=c ():=rfl
theorem at_e3:((AV.agg [.i a,.i b,.i c,.i d,.i e]).at 3).asI=d ():=rfl
theorem at_e4:((AV.agg [.i a,.i b,.i c,.i d,.i e]).at 4).asI=e ():=rfl
theorem at_d0:((AV.agg [.i a,.i b]).at 0).asI=a ():=rfl
theorem at_d1:((AV.agg [.i a,.i b]).at 1).asI=b ():=rfl
theorem at_l:((AV.vs k es).at 0).asL=es ():=rfl
theorem at_agg (cs:List AV) (off:Nat):(AV.agg cs).at off=cs.getD off .any:=rfl
theorem asL_vs:(AV.vs k es).asL=es ():=rfl
theorem asI_i:(AV.i a).asI=a ():=rfl
theorem asU_u (u:Unit→BitVec 64):(AV.u u).asU=u ():=rfl
theorem asB_b (u:Unit→Bool):(AV.b u).asB=u ():=rfl
end
theorem bofZ {z:Int} (h0:0≤z) (h1:z<9223372036854775808):(BitVec.ofInt 64 z).toNat=z.toNat:=by simp;omega
theorem bof1:BitVec.ofInt 64 1=1#64:=rfl
theorem bof0:BitVec.ofInt 64 0=0#64:=rfl
theorem zA {α:Type _} {a b:List α}:(a++b).length=a.length+b.length:=List.length_append
theorem zM {α β:Type _} {l:List α} (f:α→β):(l.map f).length=l.length:=List.length_map f
theorem zG {n:Nat}:(List.range n).length=n:=List.length_range
theorem zP {α:Type _} {n:Nat} {a:α}:(List.replicate n a).length=n:=List.length_replicate
theorem zT (n:Nat):(n:Int).toNat=n:=Int.toNat_natCast n
theorem zZ:(0:Int).toNat=0:=Int.toNat_zero
theorem zC {α:Type _} {a d:α} {l:List α}:(a :: l).getD 0 d=a:=rfl
theorem zS {α:Type _} {a d:α} {l:List α} {n:Nat}:(a :: l).getD (n+1) d=l.getD n d:=rfl
theorem zD {p:Prop} [Decidable p]:(decide p=true)=p:=decide_eq_true_eq
theorem zE {p:Prop} {_:Decidable p}:decide p=false↔¬p:=decide_eq_false_iff_not
theorem zB {b:Bool}:(¬b=true)=(b=false):=Bool.not_eq_true b
theorem zF {b:Bool}:(¬b=false)=(b=true):=Bool.not_eq_false b
theorem zN {a:Bool}:((!a)=true)=(a=false):=Bool.not_eq_true' a
theorem zO {a:Bool}:((!a)=false)=(a=true):=Bool.not_eq_false' a
theorem zQ {p:Prop} [Decidable p]:¬¬p↔p:=Decidable.not_not
theorem zL {a b:Int}:¬a≤b↔b<a:=Int.not_le
theorem zR {a b:Int}:¬a<b↔b≤a:=Int.not_lt
theorem rdS:(∀ l:List Int,(is l).l.length=l.length)∧(∀ l:List (BitVec 64),(us l).l.length=l.length)∧(∀ l:List (Int × Int),(ps l).l.length=l.length)
  ∧ (∀ (l:List Int) (i:Nat) (_:i<l.length),(is l).l.getD i .any=.i fun _=>l.getD i 0)
  ∧ (∀ (l:List (BitVec 64)) (i:Nat) (_:i<l.length),(us l).l.getD i .any=.u fun _=>l.getD i 0)
  ∧ (∀ (l:List (Int × Int)) (i:Nat) (_:i<l.length),(ps l).l.getD i .any=.agg [.i fun _=>(l.getD i (0,0)).1,.i fun _=>(l.getD i (0,0)).2])
  ∧ (∀ x:Unit→Int,((AV.i x).at 0).asI=x ())∧(∀ x:Unit→BitVec 64,((AV.u x).at 0).asU=x ())
  ∧ (∀ x y:Unit→Int,((AV.agg [.i x,.i y]).at 0).asI=x ())∧(∀ x y:Unit→Int,((AV.agg [.i x,.i y]).at 1).asI=y ())
  ∧ (∀ l:List Ev,(evs l).l.length=l.length)∧(∀ l:List EId,(ids l).l.length=l.length)
  ∧ (∀ l:List (List Ev),(evss l).l.length=l.length)∧(∀ l:List (List EId),(idss l).l.length=l.length)
  ∧ (∀ (l:List Ev) (i:Nat) (_:i<l.length),(evs l).l.getD i .any=aEv (l.getD i ev0))
  ∧ (∀ (l:List EId) (i:Nat) (_:i<l.length),(ids l).l.getD i .any=aId (l.getD i id0))
  ∧ (∀ (l:List (List Ev)) (i:Nat) (_:i<l.length),(evss l).l.getD i .any=.vs 5 fun _=>evs (l.getD i []))
  ∧ (∀ (l:List (List EId)) (i:Nat) (_:i<l.length),(idss l).l.getD i .any=.vs 2 fun _=>ids (l.getD i []))
  ∧ (∀ a b c d e:Unit→Int,((AV.agg [.i a,.i b,.i c,.i d,.i e]).at 0).asI=a ())
  ∧ (∀ a b c d e:Unit→Int,((AV.agg [.i a,.i b,.i c,.i d,.i e]).at 1).asI=b ())
  ∧ (∀ a b c d e:Unit→Int,((AV.agg [.i a,.i b,.i c,.i d,.i e]).at 2).asI=c ())
  ∧ (∀ a b c d e:Unit→Int,((AV.agg [.i a,.i b,.i c,.i d,.i e]).at 3).asI=d ())
  ∧ (∀ a b c d e:Unit→Int,((AV.agg [.i a,.i b,.i c,.i d,.i e]).at 4).asI=e ())
  ∧ (∀ (k:Nat) (es:Unit→LV),((AV.vs k es).at 0).asL=es ())∧(∀ (k:Nat) (es:Unit→LV),(AV.vs k es).asL=es ())
  ∧ (∀ a:Unit→Int,(AV.i a).asI=a ())∧(∀ u:Unit→BitVec 64,(AV.u u).asU=u ())∧(∀ u:Unit→Bool,(AV.b u).asB=u ()):=
 ⟨is_len,us_len,ps_len,is_get,us_get,ps_get,at_i,at_u,at_p0,at_p1,evs_len,ids_len,evss_len,idss_len,evs_get,ids_get,evss_get,idss_get,at_e0,at_e1,at_e2,at_e3,at_e4,at_l,asL_vs,asI_i,asU_u,asB_b⟩
theorem lnS:(∀ l:List Int,(is l).l.length=l.length)∧(∀ l:List (BitVec 64),(us l).l.length=l.length)∧(∀ l:List (Int × Int),(ps l).l.length=l.length)
  ∧ (∀ l:List Ev,(evs l).l.length=l.length)∧(∀ l:List EId,(ids l).l.length=l.length)
  ∧ (∀ l:List (List Ev),(evss l).l.length=l.length)∧(∀ l:List (List EId),(idss l).l.length=l.length)
  ∧ (∀ (n:Nat) (f:Nat→BitVec 64),(tab n f).length=n)
  ∧ (∀ {α:Type} {a b:List α},(a++b).length=a.length+b.length)∧(∀ {α β:Type} {l:List α} (f:α→β),(l.map f).length=l.length)
  ∧ (∀ {n:Nat},(List.range n).length=n)∧(∀ {α:Type} {n:Nat} {a:α},(List.replicate n a).length=n):=
 ⟨is_len,us_len,ps_len,evs_len,ids_len,evss_len,idss_len,tab_len,zA,fun f=>zM f,zG,zP⟩
theorem rdT:(∀ n:Nat,(NatCast.natCast n:Int)=(n:Int))∧(∀ i:Nat,(NatCast.natCast i:Int).toNat=i)∧(∀ {n:Int},-9223372036854775808≤n→n<9223372036854775808→w64 n=n)
  ∧ (∀ n:Nat,(n:Int).toNat=n)∧(0:Int).toNat=0∧(∀ {α β:Type} {l:List α} (f:α→β),(l.map f).length=l.length)
  ∧ (∀ (cs:List AV) (off:Nat),(AV.agg cs).at off=cs.getD off .any)∧(∀ {z:Int},0≤z→z<9223372036854775808→(BitVec.ofInt 64 z).toNat=z.toNat)∧BitVec.ofInt 64 1=1#64∧BitVec.ofInt 64 0=0#64
  ∧ (∀ {α:Type} {a d:α} {l:List α},(a :: l).getD 0 d=a)∧(∀ {α:Type} {a d:α} {l:List α} {n:Nat},(a :: l).getD (n+1) d=l.getD n d):=
 ⟨nc,nct,fun h0 h1=>w64_of h0 h1,zT,zZ,fun f=>zM f,at_agg,fun a b=>bofZ a b,bof1,bof0,zC,zS⟩
theorem trT:(!true)=false∧(!false)=true∧(∀ {p:Prop} [Decidable p],(decide p=true)=p)∧(∀ {p:Prop} {_:Decidable p},decide p=false↔¬p)∧(∀ {b:Bool},(¬b=true)=(b=false))∧(∀ {b:Bool},(¬b=false)=(b=true))
  ∧ (∀ {a:Bool},((!a)=true)=(a=false))∧(∀ {a:Bool},((!a)=false)=(a=true))∧(∀ {α:Type} (a b:α),(a≠b)=¬a=b)∧(∀ {p:Prop} [Decidable p],¬¬p↔p)∧(∀ {a b:Int},¬a≤b↔b<a)∧(∀ {a b:Int},¬a<b↔b≤a)
  ∧ (∀ {α:Type} [BEq α] [LawfulBEq α] {a b:α},(a == b)=true↔a=b):=
 ⟨rfl,rfl,zD,zE,zB,zF,zN,zO,fun _ _=>rfl,zQ,zL,zR,beq_iff_eq⟩
theorem anT:(∀ α:Type,(α→True)=True)∧(∀ p:Prop,(p→True)=True)∧(∀ p:Prop,(p∧True)=p)∧(∀ p:Prop,(True∧p)=p)∧(∀ (α:Type) [Nonempty α] (p:Prop),(α→p)↔p):=
 ⟨fun _=>implies_true _,fun _=>implies_true _,fun _=>and_true _,fun _=>true_and _,fun _ _ _=>forall_const _⟩
structure Rd (g:Gr):Prop where
 init:(g.init.length:Int)≤9223372036854775807
 th:(g.th.length:Int)≤9223372036854775807
 fr:(g.fr.length:Int)≤9223372036854775807
 ord:(g.ord.length:Int)≤9223372036854775807
 ths:∀ l∈g.th,(l.length:Int)≤9223372036854775807
 frs:∀ l∈g.fr,(l.length:Int)≤9223372036854775807
 ords:∀ l∈g.ord,(l.length:Int)≤9223372036854775807
structure RdB (g:Gr):Prop where
 init:g.init.length * 8≤140737488351232
 th:g.th.length * 24≤140737488351232
 fr:g.fr.length * 24≤140737488351232
 ord:g.ord.length * 24≤140737488351232
 ths:∀ l∈g.th,l.length * 40≤140737488351232
 frs:∀ l∈g.fr,l.length * 16≤140737488351232
 ords:∀ l∈g.ord,l.length * 16≤140737488351232
def readsM (e:Ev):Bool:=decide (e.kind=1) || decide (e.kind=3)
def writesM (e:Ev):Bool:=decide (e.kind=2) || decide (e.kind=3)
variable {γ:Nat→Option AV}
theorem greads_ok (e:Ev):Pure Tryz.prog γ false 76 [aEv e] (.b fun _=>readsM e):=by
 refine Pure.go (ty:=ty) ty_eq mo Tryz.func76 rfl Tryz.ntmps76 Tryz.results76 Tryz.call76 (by simp) fun P C CQ D W F E hF=>?_
 cbv
 repeat' (first
  |(refine ⟨fun _ h_s=>?_,fun _ h_s=>?_⟩<;>(cbv;(try simp only [nc] at *);try simp (disch:=(first|omega|(simp only [lnS];omega))) only [rdT,rdS,reduceCtorEq,trT] at h_s))
  |(refine hF ?_;intro _;clear hF)
  |(refine hF ?_;cbv;clear hF)
  |(refine ⟨fun _=>?_,?_⟩;(· ((try simp only [nc] at *);first|done|omega|exact ⟨by omega,rfl⟩|(simp (disch:=(first|omega|(simp only [lnS];omega))) only [rdT,rdS];first|done|omega|rfl|exact ⟨by omega,rfl⟩|(simp;done)|(simp;omega))|(intros;trivial)));try cbv)
  | fail
 )
 all_goals simp_all [readsM]
theorem gwrites_ok (e:Ev):Pure Tryz.prog γ false 52 [aEv e] (.b fun _=>writesM e):=by
 refine Pure.go (ty:=ty) ty_eq mo Tryz.func52 rfl Tryz.ntmps52 Tryz.results52 Tryz.call52 (by simp) fun P C CQ D W F E hF=>?_
 cbv
 repeat' (first
  |(refine ⟨fun _ h_s=>?_,fun _ h_s=>?_⟩<;>(cbv;(try simp only [nc] at *);try simp (disch:=(first|omega|(simp only [lnS];omega))) only [rdT,rdS,reduceCtorEq,trT] at h_s))
  |(refine hF ?_;intro _;clear hF)
  |(refine hF ?_;cbv;clear hF)
  |(refine ⟨fun _=>?_,?_⟩;(· ((try simp only [nc] at *);first|done|omega|exact ⟨by omega,rfl⟩|(simp (disch:=(first|omega|(simp only [lnS];omega))) only [rdT,rdS];first|done|omega|rfl|exact ⟨by omega,rfl⟩|(simp;done)|(simp;omega))|(intros;trivial)));try cbv)
  | fail
 )
 all_goals simp_all [writesM]
theorem rreads_ok (e:Ev):Pure Tryz.prog γ false 95 [aEv e] (.b fun _=>readsM e):=by
 refine Pure.go (ty:=ty) ty_eq mo Tryz.func95 rfl Tryz.ntmps95 Tryz.results95 Tryz.call95 (by simp) fun P C CQ D W F E hF=>?_
 cbv
 repeat' (first
  |(refine ⟨fun _ h_s=>?_,fun _ h_s=>?_⟩<;>(cbv;(try simp only [nc] at *);try simp (disch:=(first|omega|(simp only [lnS];omega))) only [rdT,rdS,reduceCtorEq,trT] at h_s))
  |(refine hF ?_;intro _;clear hF)
  |(refine hF ?_;cbv;clear hF)
  |(refine ⟨fun _=>?_,?_⟩;(· ((try simp only [nc] at *);first|done|omega|exact ⟨by omega,rfl⟩|(simp (disch:=(first|omega|(simp only [lnS];omega))) only [rdT,rdS];first|done|omega|rfl|exact ⟨by omega,rfl⟩|(simp;done)|(simp;omega))|(intros;trivial)));try cbv)
  | fail
 )
 all_goals simp_all [readsM]
theorem rwrites_ok (e:Ev):Pure Tryz.prog γ false 61 [aEv e] (.b fun _=>writesM e):=by
 refine Pure.go (ty:=ty) ty_eq mo Tryz.func61 rfl Tryz.ntmps61 Tryz.results61 Tryz.call61 (by simp) fun P C CQ D W F E hF=>?_
 cbv
 repeat' (first
  |(refine ⟨fun _ h_s=>?_,fun _ h_s=>?_⟩<;>(cbv;(try simp only [nc] at *);try simp (disch:=(first|omega|(simp only [lnS];omega))) only [rdT,rdS,reduceCtorEq,trT] at h_s))
  |(refine hF ?_;intro _;clear hF)
  |(refine hF ?_;cbv;clear hF)
  |(refine ⟨fun _=>?_,?_⟩;(· ((try simp only [nc] at *);first|done|omega|exact ⟨by omega,rfl⟩|(simp (disch:=(first|omega|(simp only [lnS];omega))) only [rdT,rdS];first|done|omega|rfl|exact ⟨by omega,rfl⟩|(simp;done)|(simp;omega))|(intros;trivial)));try cbv)
  | fail
 )
 all_goals simp_all [writesM]
def fineM (n:Int) (e:Ev):Bool:=
 decide (1≤e.kind∧e.kind≤4∧1≤e.order∧e.order≤6) && (readsM e || decide (e.rd=0)) && (writesM e || decide (e.wr=0)) && (if e.kind=4 then decide (e.loc=0) else decide (0≤e.loc∧e.loc<n))
theorem rightEvent_ok (e:Ev) (n:Int):Pure Tryz.prog γ false 49 [aEv e,.i fun _=>n] (.b fun _=>fineM n e):=by
 refine Pure.go (ty:=ty) ty_eq mo Tryz.func49 rfl Tryz.ntmps49 Tryz.results49 Tryz.call49 (by simp) fun P C CQ D W F E hF=>?_
 cbv
 repeat' (first
  |(refine E.c (SCalls.of_le (gwrites_ok e) ?_ ?_);(· (cbv;(try simp only [nc] at *);first|done|(simp;done)|(simp (disch:=(first|omega|(simp only [lnS];omega))) only [rdT,rdS,anT];first|done|omega|(refine ⟨?_,?_⟩<;>omega))|(simp (disch:=(first|omega|(simp only [lnS];omega))) [rdT,rdS];done)));cbv)
  |(refine E.c (SCalls.of_le (greads_ok e) ?_ ?_);(· (cbv;(try simp only [nc] at *);first|done|(simp;done)|(simp (disch:=(first|omega|(simp only [lnS];omega))) only [rdT,rdS,anT];first|done|omega|(refine ⟨?_,?_⟩<;>omega))|(simp (disch:=(first|omega|(simp only [lnS];omega))) [rdT,rdS];done)));cbv)
  |(refine ⟨fun _ h_s=>?_,fun _ h_s=>?_⟩<;>(cbv;(try simp only [nc] at *);try simp (disch:=(first|omega|(simp only [lnS];omega))) only [rdT,rdS,reduceCtorEq,trT] at h_s))
  |(refine hF ?_;intro _;clear hF)
  |(refine hF ?_;cbv;clear hF)
  |(refine ⟨fun _=>?_,?_⟩;(· ((try simp only [nc] at *);first|done|omega|exact ⟨by omega,rfl⟩|(simp (disch:=(first|omega|(simp only [lnS];omega))) only [rdT,rdS];first|done|omega|rfl|exact ⟨by omega,rfl⟩|(simp;done)|(simp;omega))|(intros;trivial)));try cbv)
  | fail
 )
 all_goals simp only [fineM]
 all_goals grind
theorem fine_ok (e:Ev) (g:Gr):Pure Tryz.prog γ false 57 [aGr g,aEv e] (.b fun _=>fineM g.init.length e):=by
 refine Pure.go (ty:=ty) ty_eq mo Tryz.func57 rfl Tryz.ntmps57 Tryz.results57 Tryz.call57 (by simp) fun P C CQ D W F E hF=>?_
 cbv
 repeat' (first
  |(refine E.c (SCalls.of_le (rwrites_ok e) ?_ ?_);(· (cbv;(try simp only [nc] at *);first|done|(simp;done)|(simp (disch:=(first|omega|(simp only [lnS];omega))) only [rdT,rdS,anT];first|done|omega|(refine ⟨?_,?_⟩<;>omega))|(simp (disch:=(first|omega|(simp only [lnS];omega))) [rdT,rdS];done)));cbv)
  |(refine E.c (SCalls.of_le (rreads_ok e) ?_ ?_);(· (cbv;(try simp only [nc] at *);first|done|(simp;done)|(simp (disch:=(first|omega|(simp only [lnS];omega))) only [rdT,rdS,anT];first|done|omega|(refine ⟨?_,?_⟩<;>omega))|(simp (disch:=(first|omega|(simp only [lnS];omega))) [rdT,rdS];done)));cbv)
  |(refine ⟨fun _ h_s=>?_,fun _ h_s=>?_⟩<;>(cbv;(try simp only [nc] at *);try simp (disch:=(first|omega|(simp only [lnS];omega))) only [rdT,rdS,reduceCtorEq,trT] at h_s))
  |(refine hF ?_;intro _;clear hF)
  |(refine hF ?_;cbv;clear hF)
  |(refine ⟨fun _=>?_,?_⟩;(· ((try simp only [nc] at *);first|done|omega|exact ⟨by omega,rfl⟩|(simp (disch:=(first|omega|(simp only [lnS];omega))) only [rdT,rdS];first|done|omega|rfl|exact ⟨by omega,rfl⟩|(simp;done)|(simp;omega))|(intros;trivial)));try cbv)
  | fail
 )
 all_goals (try simp only [fineM])
 all_goals (try simp only [nc,is_len])
 all_goals grind
end Go.AL.Rl
namespace Go.AL.Rl
open Go Go.AL Go.Proofs
set_option maxRecDepth 100000
variable {γ:Nat→Option AV}
def eventM (g:Gr) (d:EId):Option Ev:=
 if d.t=0 then (if 0≤d.i∧d.i<g.init.length then some ⟨2,d.i,1,0,g.init.getD d.i.toNat 0⟩ else none)
 else if 0<d.t∧d.t≤g.th.length∧0≤d.i∧d.i<(g.th.getD (d.t-1).toNat []).length then some ((g.th.getD (d.t-1).toNat []).getD d.i.toNat ev0) else none
theorem revent_ok (g:Gr) (hg:Rd g) (d:EId):Pure Tryz.prog γ false 36 [aGr g,aId d] (.tup [aEv ((eventM g d).getD ev0),.b fun _=>(eventM g d).isSome]):=by
 have hg1:=hg.init
 have hg2:=hg.th
 refine Pure.go (ty:=ty) ty_eq mo Tryz.func36 rfl Tryz.ntmps36 Tryz.results36 Tryz.call36 (by simp) fun P C CQ D W F E hF=>?_
 cbv
 repeat' (first
  |(refine ⟨fun _ h_s=>?_,fun _ h_s=>?_⟩<;>(cbv;(try simp only [nc] at *);try simp (disch:=(first|omega|(simp only [lnS];omega))) only [rdT,rdS,reduceCtorEq,trT] at h_s))
  |(refine hF ?_;intro _;clear hF)
  |(refine hF ?_;cbv;clear hF)
  |(refine ⟨fun _=>?_,?_⟩;(· ((try simp only [nc] at *);first|done|omega|exact ⟨by omega,rfl⟩|(simp (disch:=(first|omega|(simp only [lnS];omega))) only [rdT,rdS];first|done|omega|rfl|exact ⟨by omega,rfl⟩|(simp;done)|(simp;omega))|(intros;trivial)));try cbv)
  |(refine E.d 8 (by decide +kernel) ?_;cbv;(fail_if_success guard_target =~ False))
  |(refine E.d 9 (by decide +kernel) ?_;cbv;(fail_if_success guard_target =~ False))
  |(refine E.d 27 (by decide +kernel) ?_;cbv;(fail_if_success guard_target =~ False))
  | fail
 )
 all_goals (try simp only [nc] at *)
 all_goals (try simp (disch:=(first|omega|(simp only [lnS];omega))) only [rdT,rdS])
 all_goals first
  | (
    have e:eventM g d=none:=by (unfold eventM;split<;>split<;>first | rfl | omega)
    rw [e];simp;done)
  | (
    have e:eventM g d=some ⟨2,d.i,1,0,g.init.getD d.i.toNat 0⟩:=by (unfold eventM;split<;>split<;>first | rfl | omega)
    rw [e];simp;done)
  | (
    have e:eventM g d=some ((g.th.getD (d.t-1).toNat []).getD d.i.toNat ev0):=by (unfold eventM;split<;>split<;>first | rfl | omega)
    rw [e];simp;done)
  | skip
end Go.AL.Rl
namespace Go.AL.Rl
open Go Go.AL Go.Proofs
set_option maxRecDepth 100000
variable {γ:Nat→Option AV}
def sourceM (g:Gr) (d f:EId):Bool:=
 if readsM ((eventM g d).getD ev0)=true then (match eventM g f with | some w=>decide (f≠d) && writesM w && decide (w.loc=((eventM g d).getD ev0).loc) && decide (w.wr=((eventM g d).getD ev0).rd) | none=>false) else decide (f=id0)
theorem eid_iff (a b:EId):a=b↔a.t=b.t∧a.i=b.i:=⟨fun h=>by subst h;exact ⟨rfl,rfl⟩,fun h=>EId.ext' h.1 h.2⟩
theorem source_ok (g:Gr) (hg:Rd g) (d f:EId):Pure Tryz.prog γ false 58 [aGr g,aId d,aId f] (.b fun _=>sourceM g d f):=by
 refine Pure.go (ty:=ty) ty_eq mo Tryz.func58 rfl Tryz.ntmps58 Tryz.results58 Tryz.call58 (by simp) fun P C CQ D W F E hF=>?_
 cbv
 repeat' (first
  |(refine E.c (SCalls.of_le (rwrites_ok ((eventM g f).getD ev0)) ?_ ?_);(· (cbv;(try simp only [nc] at *);first|done|(simp;done)|(simp (disch:=(first|omega|(simp only [lnS];omega))) only [rdT,rdS,anT];first|done|omega|(refine ⟨?_,?_⟩<;>omega))|(simp (disch:=(first|omega|(simp only [lnS];omega))) [rdT,rdS];done)));cbv)
  |(refine E.c (SCalls.of_le (rreads_ok ((eventM g d).getD ev0)) ?_ ?_);(· (cbv;(try simp only [nc] at *);first|done|(simp;done)|(simp (disch:=(first|omega|(simp only [lnS];omega))) only [rdT,rdS,anT];first|done|omega|(refine ⟨?_,?_⟩<;>omega))|(simp (disch:=(first|omega|(simp only [lnS];omega))) [rdT,rdS];done)));cbv)
  |(refine E.c (SCalls.of_le (revent_ok g hg f) ?_ ?_);(· (cbv;(try simp only [nc] at *);first|done|(simp;done)|(simp (disch:=(first|omega|(simp only [lnS];omega))) only [rdT,rdS,anT];first|done|omega|(refine ⟨?_,?_⟩<;>omega))|(simp (disch:=(first|omega|(simp only [lnS];omega))) [rdT,rdS];done)));cbv)
  |(refine E.c (SCalls.of_le (revent_ok g hg d) ?_ ?_);(· (cbv;(try simp only [nc] at *);first|done|(simp;done)|(simp (disch:=(first|omega|(simp only [lnS];omega))) only [rdT,rdS,anT];first|done|omega|(refine ⟨?_,?_⟩<;>omega))|(simp (disch:=(first|omega|(simp only [lnS];omega))) [rdT,rdS];done)));cbv)
  |(refine ⟨fun _ h_s=>?_,fun _ h_s=>?_⟩<;>(cbv;(try simp only [nc] at *);try simp (disch:=(first|omega|(simp only [lnS];omega))) only [rdT,rdS,reduceCtorEq,trT] at h_s))
  |(refine hF ?_;intro _;clear hF)
  |(refine hF ?_;cbv;clear hF)
  |(refine ⟨fun _=>?_,?_⟩;(· ((try simp only [nc] at *);first|done|omega|exact ⟨by omega,rfl⟩|(simp (disch:=(first|omega|(simp only [lnS];omega))) only [rdT,rdS];first|done|omega|rfl|exact ⟨by omega,rfl⟩|(simp;done)|(simp;omega))|(intros;trivial)));try cbv)
  | fail
 )
 all_goals (try simp only [nc] at *)
 all_goals (try simp (disch:=(first|omega|(simp only [lnS];omega))) only [rdT,rdS])
 all_goals (unfold sourceM;cases hf:eventM g f<;>simp_all [eid_iff])
def cntE (x:Int) (l:List Ev):Nat:=l.countP fun e=>writesM e && decide (e.loc=x)
def cntT (x:Int) (ts:List (List Ev)):Nat:=(ts.map (cntE x)).sum
theorem take_succ' {α:Type} (l:List α) (i:Nat) (d:α) (h:i<l.length):l.take (i+1)=l.take i++[l.getD i d]:=by
 rw [List.take_succ_eq_append_getElem h];simp [h]
theorem cntE_succ (x:Int) (l:List Ev) (i:Nat) (h:i<l.length):cntE x (l.take (i+1))=cntE x (l.take i)+if (writesM (l.getD i ev0) && decide ((l.getD i ev0).loc=x))=true then 1 else 0:=by
 rw [take_succ' l i ev0 h,cntE,List.countP_append];simp [cntE,List.countP_cons]
theorem cntT_succ (x:Int) (ts:List (List Ev)) (t:Nat) (h:t<ts.length):cntT x (ts.take (t+1))=cntT x (ts.take t)+cntE x (ts.getD t []):=by
 rw [take_succ' ts t [] h,cntT,List.map_append,List.sum_append];simp [cntT]
theorem cntE_le (x:Int) (l:List Ev):cntE x l≤l.length:=List.countP_le_length
theorem cntE_take (x:Int) (l:List Ev) (i:Nat):cntE x (l.take i)≤l.length:=Nat.le_trans (cntE_le x _) (by simp;omega)
structure Short (g:Gr):Prop where
 th:g.th.length≤4
 init:g.init.length≤6
 ths:∀ l∈g.th,l.length≤14
theorem Short.at {g:Gr} (h:Short g) (t:Nat):(g.th.getD t []).length≤14:=by
 rcases Nat.lt_or_ge t g.th.length with h1 | h1
 ·exact h.ths _ (getD_mem h1)
 ·simp [List.getElem?_eq_none h1]
theorem cntT_le {ts:List (List Ev)} (x:Int) (h:∀ l∈ts,l.length≤14):cntT x ts≤14 * ts.length:=by
 induction ts with
 | nil=>simp [cntT]
 | cons l ts ih=>
  have:=ih fun l hl=>h l (by simp [hl])
  have h1:=cntE_le x l
  have h2:=h l (by simp)
  simp only [cntT,List.map_cons,List.sum_cons,List.length_cons] at this ⊢
  omega
theorem cntT_take {g:Gr} (h:Short g) (x:Int) (t:Nat):cntT x (g.th.take t)≤56:=by
 have h1:=cntT_le x (ts:=g.th.take t) fun l hl=>h.ths l (List.mem_of_mem_take hl)
 have h2:=h.th
 have h3:(g.th.take t).length≤g.th.length:=by simp;omega
 omega
def isW (g:Gr) (x:Int) (d:EId):Bool:=match eventM g d with | some e=>decide (d.t≠0) && writesM e && decide (e.loc=x) | none=>false
def orderedM (g:Gr) (x:Nat):Bool:=
 decide (∀ i<(g.ord.getD x []).length,isW g x ((g.ord.getD x []).getD i id0)=true∧∀ k<i,(g.ord.getD x []).getD k id0≠(g.ord.getD x []).getD i id0) && decide ((g.ord.getD x []).length=cntT x g.th)
theorem orderedM_no {g:Gr} {x:Nat} {l:List EId} (hl:g.ord.getD x []=l) (i:Nat) (hi:i<l.length) (h:¬ (isW g x (l.getD i id0)=true∧∀ k<i,l.getD k id0≠l.getD i id0)):orderedM g x=false:=by
 unfold orderedM
 rw [hl,Bool.and_eq_false_iff]
 left
 exact decide_eq_false fun hall=>h (hall i hi)
theorem ordered_ok (g:Gr) (hg:Rd g) (hs:Short g) (x:Nat) (hx:x<g.ord.length):Pure Tryz.prog γ false 59 [aGr g,.i fun _=>(x:Int)] (.b fun _=>orderedM g x):=by
 have hg2:=hg.ord
 have hs1:=hs.th
 have hol:((g.ord.getD x []).length:Int)≤9223372036854775807:=hg.ords _ (getD_mem hx)
 refine Pure.go (ty:=ty) ty_eq mo Tryz.func59 rfl Tryz.ntmps59 Tryz.results59 Tryz.call59 (by simp) fun P C CQ D W F E hF=>?_
 cbv
 refine E.loopS (ι:=Nat) (fun t=>t≤g.th.length) (fun t=>g.th.length-t) (fun t=>[(6,.i fun _=>((t:Nat):Int)),(5,.i fun _=>((cntT x (g.th.take t):Nat):Int))]) (fun t h=>h) 0 (fun _=>by first|rfl|simp) (Nat.zero_le _) ?_ fun t ht I hI=>?_
 ·cbv;simp [cntT]
 cbv
 refine ⟨fun _ h4=>?_,fun _ h4=>?_⟩
 ·(try simp only [nc] at *)
  simp (disch:=(first|omega|(simp only [lnS];omega))) only [rdT,rdS,reduceCtorEq,trT] at h4
  have hs2:=hs.at t
  have hct:=cntT_succ x g.th t (by omega)
  have hcl:=cntT_take hs x t
  cbv
  refine E.loopS (ι:=Nat) (fun i=>i≤(g.th.getD t []).length) (fun i=>(g.th.getD t []).length-i) (fun i=>[(7,.i fun _=>((i:Nat):Int)),(5,.i fun _=>((cntT x (g.th.take t)+cntE x ((g.th.getD t []).take i):Nat):Int))]) (fun i h=>h) 0 (fun _=>by first|rfl|simp) (Nat.zero_le _) ?_ fun i hi I2 hI2=>?_
  ·cbv;simp [cntE]
  cbv
  have hce:=cntE_succ x (g.th.getD t []) i
  have hcm:=cntE_take x (g.th.getD t []) i
  repeat' (first
   |(refine hI (t+1) ?_ ?_ ?_;rotate_left 1;(· ((try simp only [nc] at *);omega));(cbv;clear hI;(try clear hF);(try simp only [nc] at *);(try simp (disch:=(first|omega|(simp only [lnS];omega))) only [rdT,rdS,anT]));rotate_left 1;(try ((try simp only [nc] at *);omega)))
   |(refine hI2 (i+1) ?_ ?_ ?_;rotate_left 1;(· ((try simp only [nc] at *);omega));(cbv;clear hI2;(try clear hF);(try simp only [nc] at *);(try simp (disch:=(first|omega|(simp only [lnS];omega))) only [rdT,rdS,anT]));rotate_left 1;(try ((try simp only [nc] at *);omega)))
   |(refine E.c (SCalls.of_le (rwrites_ok ((g.th.getD t []).getD i ev0)) ?_ ?_);(· (cbv;(try simp only [nc] at *);first|done|(simp;done)|(simp (disch:=(first|omega|(simp only [lnS];omega))) only [rdT,rdS,anT];first|done|omega|(refine ⟨?_,?_⟩<;>omega))|(simp (disch:=(first|omega|(simp only [lnS];omega))) [rdT,rdS];done)));cbv)
   |(refine ⟨fun _ h_s=>?_,fun _ h_s=>?_⟩<;>(cbv;(try simp only [nc] at *);try simp (disch:=(first|omega|(simp only [lnS];omega))) only [rdT,rdS,reduceCtorEq,trT] at h_s))
   |(refine hF ?_;intro _;clear hF)
   |(refine hF ?_;cbv;clear hF)
   |(refine ⟨fun _=>?_,?_⟩;(· ((try simp only [nc] at *);first|done|omega|exact ⟨by omega,rfl⟩|(simp (disch:=(first|omega|(simp only [lnS];omega))) only [rdT,rdS];first|done|omega|rfl|exact ⟨by omega,rfl⟩|(simp;done)|(simp;omega))|(intros;trivial)));try cbv)
   |(refine E.d 8 (by decide +kernel) ?_;cbv;(fail_if_success guard_target =~ False))
   | fail
  )
  iterate 3
   ·rw [hce (by omega)]
    clear hct hce hcl hcm hs2
    generalize (g.th.getD t []).getD i ev0=e at *
    simp only [*,decide_true,decide_false,Bool.and_self,Bool.true_and,Bool.false_and,if_true,if_false,Bool.false_eq_true]
    omega
  ·rw [hct]
   have e:i=(g.th.getD t []).length:=by omega
   rw [e,List.take_length];simp
 ·(try simp only [nc] at *)
  simp (disch:=(first|omega|(simp only [lnS];omega))) only [rdT,rdS,reduceCtorEq,trT] at h4
  have ht':t=g.th.length:=by omega
  subst ht'
  rw [List.take_length]
  cbv
  refine ⟨fun _=>?_,?_⟩
  ·((try simp only [nc] at *);first|done|omega|exact ⟨by omega,rfl⟩|(simp (disch:=(first|omega|(simp only [lnS];omega))) only [rdT,rdS];first|done|omega|rfl|exact ⟨by omega,rfl⟩|(simp;done)|(simp;omega))|(intros;trivial))
  try cbv
  refine ⟨fun _=>?_,?_⟩
  ·((try simp only [nc] at *);first|done|omega|exact ⟨by omega,rfl⟩|(simp (disch:=(first|omega|(simp only [lnS];omega))) only [rdT,rdS];first|done|omega|rfl|exact ⟨by omega,rfl⟩|(simp;done)|(simp;omega))|(intros;trivial))
  try cbv
  simp only [nct,idss_get g.ord x hx,at_l]
  have hcl:cntT x g.th≤56:=by have:=cntT_take hs x g.th.length;rwa [List.take_length] at this
  generalize hl:g.ord.getD x []=l at *
  refine E.loopS (ι:=Nat) (fun i=>i≤l.length∧(∀ j<i,isW g x (l.getD j id0)=true∧∀ k<j,l.getD k id0≠l.getD j id0)) (fun i=>l.length-i) (fun i=>[(9,.i fun _=>((i:Nat):Int))]) (fun i h=>h) 0 (fun _=>by first|rfl|simp) ⟨Nat.zero_le _,?_⟩ ?_ fun i hi I hI=>?_
  ·intro j hj;omega
  ·cbv;simp
  obtain ⟨hi,hok⟩:=hi
  cbv
  refine ⟨fun _ h5=>?_,fun _ h5=>?_⟩
  ·(try simp only [nc] at *)
   simp (disch:=(first|omega|(simp only [lnS];omega))) only [rdT,rdS,reduceCtorEq,trT] at h5
   cbv
   repeat' (first
    |(refine E.c (SCalls.of_le (rwrites_ok ((eventM g (l.getD i id0)).getD ev0)) ?_ ?_);(· (cbv;(try simp only [nc] at *);first|done|(simp;done)|(simp (disch:=(first|omega|(simp only [lnS];omega))) only [rdT,rdS,anT];first|done|omega|(refine ⟨?_,?_⟩<;>omega))|(simp (disch:=(first|omega|(simp only [lnS];omega))) [rdT,rdS];done)));cbv)
    |((first|refine E.c (SCalls.of_le (revent_ok g hg (l.getD i id0)) ?_ ?_)|refine E.q (QCalls.of_le (revent_ok g hg (l.getD i id0)) ?_ ?_));(· (cbv;(try simp only [nc] at *);first|done|(simp;done)|(simp (disch:=(first|omega|(simp only [lnS];omega))) only [rdT,rdS,anT];first|done|omega|(refine ⟨?_,?_⟩<;>omega))|(simp (disch:=(first|omega|(simp only [lnS];omega))) [rdT,rdS];done)));cbv)
    |(refine E.de 12 [] [none] (by decide +kernel) ?_;cbv;(fail_if_success guard_target =~ False))
    |(refine ⟨fun _ h_s=>?_,fun _ h_s=>?_⟩<;>(cbv;(try simp only [nc] at *);try simp (disch:=(first|omega|(simp only [lnS];omega))) only [rdT,rdS,reduceCtorEq,trT] at h_s))
    |(refine hF ?_;intro _;clear hF)
    |(refine hF ?_;cbv;clear hF)
    |(refine ⟨fun _=>?_,?_⟩;(· ((try simp only [nc] at *);first|done|omega|exact ⟨by omega,rfl⟩|(simp (disch:=(first|omega|(simp only [lnS];omega))) only [rdT,rdS];first|done|omega|rfl|exact ⟨by omega,rfl⟩|(simp;done)|(simp;omega))|(intros;trivial)));try cbv)
    |(refine E.d 8 (by decide +kernel) ?_;cbv;(fail_if_success guard_target =~ False))
    | fail
   )
   all_goals (try simp only [nc] at *)
   all_goals (try simp (disch:=(first|omega|(simp only [lnS];omega))) only [rdT,rdS])
   rotate_right 1
   ·have hw:isW g x (l.getD i id0)=true:=by
     unfold isW;cases hf:eventM g (l.getD i id0)<;>simp_all
    refine E.loopS (ι:=Nat) (fun k=>k≤i∧(∀ j<k,l.getD j id0≠l.getD i id0)) (fun k=>i-k) (fun k=>[(12,.i fun _=>((k:Nat):Int))]) (fun k h=>h) 0 (fun _=>by first|rfl|simp) ⟨Nat.zero_le _,?_⟩ ?_ fun k hk I2 hI2=>?_
    ·intro j hj;omega
    ·cbv;simp
    obtain ⟨hk,hokk⟩:=hk
    cbv
    repeat' (first
     |(refine hI (i+1) ?_ ?_ ?_;rotate_left 1;(· ((try simp only [nc] at *);omega));(cbv;clear hI;(try clear hF);(try simp only [nc] at *);(try simp (disch:=(first|omega|(simp only [lnS];omega))) only [rdT,rdS,anT]));rotate_left 1;(try ((try simp only [nc] at *);omega)))
     |(refine hI2 (k+1) ?_ ?_ ?_;rotate_left 1;(· ((try simp only [nc] at *);omega));(cbv;clear hI2;(try clear hF);(try simp only [nc] at *);(try simp (disch:=(first|omega|(simp only [lnS];omega))) only [rdT,rdS,anT]));rotate_left 1;(try ((try simp only [nc] at *);omega)))
     |(refine ⟨fun _ h_s=>?_,fun _ h_s=>?_⟩<;>(cbv;(try simp only [nc] at *);try simp (disch:=(first|omega|(simp only [lnS];omega))) only [rdT,rdS,reduceCtorEq,trT] at h_s))
     |(refine hF ?_;intro _;clear hF)
     |(refine hF ?_;cbv;clear hF)
     |(refine ⟨fun _=>?_,?_⟩;(· ((try simp only [nc] at *);first|done|omega|exact ⟨by omega,rfl⟩|(simp (disch:=(first|omega|(simp only [lnS];omega))) only [rdT,rdS];first|done|omega|rfl|exact ⟨by omega,rfl⟩|(simp;done)|(simp;omega))|(intros;trivial)));try cbv)
     |(refine E.d 8 (by decide +kernel) ?_;cbv;(fail_if_success guard_target =~ False))
     | fail
    )
    all_goals (try simp only [nc] at *)
    all_goals (try simp (disch:=(first|omega|(simp only [lnS];omega))) only [rdT,rdS])
    ·refine orderedM_no hl i (by omega) fun h=>h.2 k ?_ ((eid_iff _ _).2 ?_)
     ·omega
     ·simp_all
    ·refine ⟨by omega,fun j hj=>?_⟩
     rcases Nat.lt_or_ge j k with h | h
     ·exact hokk j h
     ·obtain rfl:j=k:=by omega
      intro he
      rw [eid_iff] at he
      simp_all
    ·omega
    ·refine ⟨by omega,fun j hj=>?_⟩
     rcases Nat.lt_or_ge j i with h | h
     ·exact hok j h
     ·obtain rfl:j=i:=by omega
      exact ⟨hw,fun k hk=>hokk k (by omega)⟩
    ·omega
   all_goals
    refine orderedM_no hl i (by omega) fun h=>?_
    have h:=h.1
    unfold isW at h
    cases hf:eventM g (l.getD i id0)<;>simp_all
  ·(try simp only [nc] at *)
   simp (disch:=(first|omega|(simp only [lnS];omega))) only [rdT,rdS,reduceCtorEq,trT] at h5
   cbv
   repeat' (first
    |(refine ⟨fun _ h_s=>?_,fun _ h_s=>?_⟩<;>(cbv;(try simp only [nc] at *);try simp (disch:=(first|omega|(simp only [lnS];omega))) only [rdT,rdS,reduceCtorEq,trT] at h_s))
    |(refine hF ?_;intro _;clear hF)
    |(refine hF ?_;cbv;clear hF)
    |(refine ⟨fun _=>?_,?_⟩;(· ((try simp only [nc] at *);first|done|omega|exact ⟨by omega,rfl⟩|(simp (disch:=(first|omega|(simp only [lnS];omega))) only [rdT,rdS];first|done|omega|rfl|exact ⟨by omega,rfl⟩|(simp;done)|(simp;omega))|(intros;trivial)));try cbv)
    |(refine E.d 8 (by decide +kernel) ?_;cbv;(fail_if_success guard_target =~ False))
    | fail
   )
   all_goals (try simp only [nc] at *)
   all_goals (try simp (disch:=(first|omega|(simp only [lnS];omega))) only [rdT,rdS])
   have e:i=l.length:=by omega
   subst e
   unfold orderedM
   rw [hl,decide_eq_true (p:=∀ i<l.length,_) hok]
   simp
   omega
def eventsOk (g:Gr):Prop:=∀ t<g.th.length,(g.fr.getD t []).length=(g.th.getD t []).length∧∀ i<(g.th.getD t []).length,fineM g.init.length ((g.th.getD t []).getD i ev0)=true
def sourcesOk (g:Gr):Prop:=∀ t<g.th.length,∀ i<(g.th.getD t []).length,sourceM g ⟨t+1,i⟩ ((g.fr.getD t []).getD i id0)=true
def ordersOk (g:Gr):Prop:=∀ x<g.init.length,orderedM g x=true
instance (g:Gr):Decidable (eventsOk g):=inferInstanceAs (Decidable (∀ t<g.th.length,_))
instance (g:Gr):Decidable (sourcesOk g):=inferInstanceAs (Decidable (∀ t<g.th.length,_))
instance (g:Gr):Decidable (ordersOk g):=inferInstanceAs (Decidable (∀ x<g.init.length,_))
structure GOk (g:Gr):Prop where
 short:Short g
 lfr:g.fr.length=g.th.length
 lord:g.ord.length=g.init.length
 events:eventsOk g
 sources:sourcesOk g
 orders:ordersOk g
instance (g:Gr):Decidable (Short g):=decidable_of_iff (g.th.length≤4∧g.init.length≤6∧∀ l∈g.th,l.length≤14) ⟨fun h=>⟨h.1,h.2.1,h.2.2⟩,fun h=>⟨h.1,h.2,h.3⟩⟩
instance (g:Gr):Decidable (GOk g):=decidable_of_iff (Short g∧g.fr.length=g.th.length∧g.ord.length=g.init.length∧eventsOk g∧sourcesOk g∧ordersOk g) ⟨fun h=>⟨h.1,h.2.1,h.2.2.1,h.2.2.2.1,h.2.2.2.2.1,h.2.2.2.2.2⟩,fun h=>⟨h.1,h.2,h.3,h.4,h.5,h.6⟩⟩
def gcheckM (g:Gr):Int:=if Short g then (if GOk g then 0 else 2) else 3
theorem gcheck3 {g:Gr} (h:¬ Short g):gcheckM g=3:=if_neg h
theorem gcheck2 {g:Gr} (h:Short g) (h2:¬ GOk g):gcheckM g=2:=by unfold gcheckM;rw [if_pos h,if_neg h2]
theorem gcheck0 {g:Gr} (h2:GOk g):gcheckM g=0:=by unfold gcheckM;rw [if_pos h2.short,if_pos h2]
end Go.AL.Rl
namespace Go.AL.Rl
open Go Go.AL Go.Proofs
set_option maxRecDepth 100000
variable {γ:Nat→Option AV}
theorem check14_ok (g:Gr) (hg:Rd g):Pure Tryz.prog γ false 35 [aGr g] (.i fun _=>gcheckM g):=by
 have hg1:=hg.th
 have hg2:=hg.init
 refine Pure.go (ty:=ty) ty_eq mo Tryz.func35 rfl Tryz.ntmps35 Tryz.results35 Tryz.call35 (by simp) fun P C CQ D W F E hF=>?_
 cbv
 repeat' (first
  |(refine ⟨fun _ h_s=>?_,fun _ h_s=>?_⟩<;>(cbv;(try simp only [nc] at *);try simp (disch:=(first|omega|(simp only [lnS];omega))) only [rdT,rdS,reduceCtorEq,trT] at h_s))
  |(refine hF ?_;intro _;clear hF)
  |(refine hF ?_;cbv;clear hF)
  |(refine ⟨fun _=>?_,?_⟩;(· ((try simp only [nc] at *);first|done|omega|exact ⟨by omega,rfl⟩|(simp (disch:=(first|omega|(simp only [lnS];omega))) only [rdT,rdS];first|done|omega|rfl|exact ⟨by omega,rfl⟩|(simp;done)|(simp;omega))|(intros;trivial)));try cbv)
  |(refine E.d 9 (by decide +kernel) ?_;cbv;(fail_if_success guard_target =~ False))
  |(refine E.d 12 (by decide +kernel) ?_;cbv;(fail_if_success guard_target =~ False))
  |(refine E.d 13 (by decide +kernel) ?_;cbv;(fail_if_success guard_target =~ False))
  | fail
 )
 all_goals (try simp only [nc] at *)
 all_goals (try simp (disch:=(first|omega|(simp only [lnS];omega))) only [rdT,rdS])
 ·exact (gcheck3 fun h=>by have:=h.th;omega).symm
 ·exact (gcheck3 fun h=>by have:=h.init;omega).symm
 refine E.loopS (ι:=Nat) (fun t=>t≤g.th.length∧(∀ j<t,(g.th.getD j []).length≤14)) (fun t=>g.th.length-t) (fun t=>[(3,.i fun _=>((t:Nat):Int))]) (fun t h=>h) 0 (fun _=>by first|rfl|simp) ⟨Nat.zero_le _,?_⟩ ?_ fun t ht I hI=>?_
 ·intro j hj;omega
 ·cbv;simp
 obtain ⟨ht,hok⟩:=ht
 cbv
 refine ⟨fun _ h4=>?_,fun _ h4=>?_⟩
 ·(try simp only [nc] at *)
  simp (disch:=(first|omega|(simp only [lnS];omega))) only [rdT,rdS,reduceCtorEq,trT] at h4
  cbv
  repeat' (first
   |(refine hI (t+1) ?_ ?_ ?_;rotate_left 1;(· ((try simp only [nc] at *);omega));(cbv;clear hI;(try clear hF);(try simp only [nc] at *);(try simp (disch:=(first|omega|(simp only [lnS];omega))) only [rdT,rdS,anT]));rotate_left 1;(try ((try simp only [nc] at *);omega)))
   |(refine ⟨fun _ h_s=>?_,fun _ h_s=>?_⟩<;>(cbv;(try simp only [nc] at *);try simp (disch:=(first|omega|(simp only [lnS];omega))) only [rdT,rdS,reduceCtorEq,trT] at h_s))
   |(refine hF ?_;intro _;clear hF)
   |(refine hF ?_;cbv;clear hF)
   |(refine ⟨fun _=>?_,?_⟩;(· ((try simp only [nc] at *);first|done|omega|exact ⟨by omega,rfl⟩|(simp (disch:=(first|omega|(simp only [lnS];omega))) only [rdT,rdS];first|done|omega|rfl|exact ⟨by omega,rfl⟩|(simp;done)|(simp;omega))|(intros;trivial)));try cbv)
   |(refine E.d 9 (by decide +kernel) ?_;cbv;(fail_if_success guard_target =~ False))
   |(refine E.d 12 (by decide +kernel) ?_;cbv;(fail_if_success guard_target =~ False))
   |(refine E.d 13 (by decide +kernel) ?_;cbv;(fail_if_success guard_target =~ False))
   | fail
  )
  all_goals (try simp only [nc] at *)
  all_goals (try simp (disch:=(first|omega|(simp only [lnS];omega))) only [rdT,rdS])
  ·exact (gcheck3 fun h=>by have:=h.at t;omega).symm
  ·refine ⟨by omega,fun j hj=>?_⟩
   rcases Nat.lt_or_ge j t with h | h
   ·exact hok j h
   ·obtain rfl:j=t:=by omega
    omega
  ·omega
 clear hI
 (try simp only [nc] at *)
 simp (disch:=(first|omega|(simp only [lnS];omega))) only [rdT,rdS,reduceCtorEq,trT] at h4
 have e:t=g.th.length:=by omega
 subst e
 (try simp only [nc] at *)
 have hsh:Short g:=⟨by omega,by omega,fun l hl=>by
  obtain ⟨j,hj,rfl⟩:=List.getElem_of_mem hl
  simpa [hj] using hok j hj⟩
 cbv
 repeat' (first
  |(refine ⟨fun _ h_s=>?_,fun _ h_s=>?_⟩<;>(cbv;(try simp only [nc] at *);try simp (disch:=(first|omega|(simp only [lnS];omega))) only [rdT,rdS,reduceCtorEq,trT] at h_s))
  |(refine hF ?_;intro _;clear hF)
  |(refine hF ?_;cbv;clear hF)
  |(refine ⟨fun _=>?_,?_⟩;(· ((try simp only [nc] at *);first|done|omega|exact ⟨by omega,rfl⟩|(simp (disch:=(first|omega|(simp only [lnS];omega))) only [rdT,rdS];first|done|omega|rfl|exact ⟨by omega,rfl⟩|(simp;done)|(simp;omega))|(intros;trivial)));try cbv)
  |(refine E.d 9 (by decide +kernel) ?_;cbv;(fail_if_success guard_target =~ False))
  |(refine E.d 12 (by decide +kernel) ?_;cbv;(fail_if_success guard_target =~ False))
  |(refine E.d 13 (by decide +kernel) ?_;cbv;(fail_if_success guard_target =~ False))
  | fail
 )
 all_goals (try simp only [nc] at *)
 all_goals (try simp (disch:=(first|omega|(simp only [lnS];omega))) only [rdT,rdS])
 ·exact (gcheck2 hsh fun h=>by have:=h.lfr;omega).symm
 ·exact (gcheck2 hsh fun h=>by have:=h.lord;omega).symm
 have hlf:g.fr.length=g.th.length:=by omega
 have hlo:g.ord.length=g.init.length:=by omega
 -- events
 refine E.loopS (ι:=Nat) (fun t=>t≤g.th.length∧(∀ j<t,(g.fr.getD j []).length=(g.th.getD j []).length∧∀ i<(g.th.getD j []).length,fineM g.init.length ((g.th.getD j []).getD i ev0)=true)) (fun t=>g.th.length-t) (fun t=>[(4,.i fun _=>((t:Nat):Int))]) (fun t h=>h) 0 (fun _=>by first|rfl|simp) ⟨Nat.zero_le _,?_⟩ ?_ fun t ht I hI=>?_
 ·intro j hj;omega
 ·cbv;simp
 obtain ⟨ht,hok⟩:=ht
 cbv
 refine ⟨fun _ h4=>?_,fun _ h4=>?_⟩
 ·(try simp only [nc] at *)
  simp (disch:=(first|omega|(simp only [lnS];omega))) only [rdT,rdS,reduceCtorEq,trT] at h4
  have hht:=hsh.at t
  cbv
  repeat' (first
   |(refine ⟨fun _ h_s=>?_,fun _ h_s=>?_⟩<;>(cbv;(try simp only [nc] at *);try simp (disch:=(first|omega|(simp only [lnS];omega))) only [rdT,rdS,reduceCtorEq,trT] at h_s))
   |(refine hF ?_;intro _;clear hF)
   |(refine hF ?_;cbv;clear hF)
   |(refine ⟨fun _=>?_,?_⟩;(· ((try simp only [nc] at *);first|done|omega|exact ⟨by omega,rfl⟩|(simp (disch:=(first|omega|(simp only [lnS];omega))) only [rdT,rdS];first|done|omega|rfl|exact ⟨by omega,rfl⟩|(simp;done)|(simp;omega))|(intros;trivial)));try cbv)
   |(refine E.d 9 (by decide +kernel) ?_;cbv;(fail_if_success guard_target =~ False))
   |(refine E.d 12 (by decide +kernel) ?_;cbv;(fail_if_success guard_target =~ False))
   |(refine E.d 13 (by decide +kernel) ?_;cbv;(fail_if_success guard_target =~ False))
   | fail
  )
  all_goals (try simp only [nc] at *)
  all_goals (try simp (disch:=(first|omega|(simp only [lnS];omega))) only [rdT,rdS])
  ·exact (gcheck2 hsh fun h=>by have:=(h.events t (by omega)).1;omega).symm
  refine E.loopS (ι:=Nat) (fun i=>i≤(g.th.getD t []).length∧(∀ j<i,fineM g.init.length ((g.th.getD t []).getD j ev0)=true)) (fun i=>(g.th.getD t []).length-i) (fun i=>[(5,.i fun _=>((i:Nat):Int))]) (fun i h=>h) 0 (fun _=>by first|rfl|simp) ⟨Nat.zero_le _,?_⟩ ?_ fun i hi I2 hI2=>?_
  ·intro j hj;omega
  ·cbv;simp
  obtain ⟨hi,hoki⟩:=hi
  cbv
  repeat' (first
   |(refine hI (t+1) ?_ ?_ ?_;rotate_left 1;(· ((try simp only [nc] at *);omega));(cbv;clear hI;(try clear hF);(try simp only [nc] at *);(try simp (disch:=(first|omega|(simp only [lnS];omega))) only [rdT,rdS,anT]));rotate_left 1;(try ((try simp only [nc] at *);omega)))
   |(refine hI2 (i+1) ?_ ?_ ?_;rotate_left 1;(· ((try simp only [nc] at *);omega));(cbv;clear hI2;(try clear hF);(try simp only [nc] at *);(try simp (disch:=(first|omega|(simp only [lnS];omega))) only [rdT,rdS,anT]));rotate_left 1;(try ((try simp only [nc] at *);omega)))
   |((first|refine E.c (SCalls.of_le (fine_ok ((g.th.getD t []).getD i ev0) g) ?_ ?_)|refine E.q (QCalls.of_le (fine_ok ((g.th.getD t []).getD i ev0) g) ?_ ?_));(· (cbv;(try simp only [nc] at *);first|done|(simp;done)|(simp (disch:=(first|omega|(simp only [lnS];omega))) only [rdT,rdS,anT];first|done|omega|(refine ⟨?_,?_⟩<;>omega))|(simp (disch:=(first|omega|(simp only [lnS];omega))) [rdT,rdS];done)));cbv)
   |(refine ⟨fun _ h_s=>?_,fun _ h_s=>?_⟩<;>(cbv;(try simp only [nc] at *);try simp (disch:=(first|omega|(simp only [lnS];omega))) only [rdT,rdS,reduceCtorEq,trT] at h_s))
   |(refine hF ?_;intro _;clear hF)
   |(refine hF ?_;cbv;clear hF)
   |(refine ⟨fun _=>?_,?_⟩;(· ((try simp only [nc] at *);first|done|omega|exact ⟨by omega,rfl⟩|(simp (disch:=(first|omega|(simp only [lnS];omega))) only [rdT,rdS];first|done|omega|rfl|exact ⟨by omega,rfl⟩|(simp;done)|(simp;omega))|(intros;trivial)));try cbv)
   |(refine E.d 9 (by decide +kernel) ?_;cbv;(fail_if_success guard_target =~ False))
   |(refine E.d 12 (by decide +kernel) ?_;cbv;(fail_if_success guard_target =~ False))
   |(refine E.d 13 (by decide +kernel) ?_;cbv;(fail_if_success guard_target =~ False))
   | fail
  )
  all_goals (try simp only [nc] at *)
  all_goals (try simp (disch:=(first|omega|(simp only [lnS];omega))) only [rdT,rdS])
  ·refine (gcheck2 hsh fun h=>?_).symm
   have:=(h.events t (by omega)).2 i (by omega)
   simp_all
  ·refine ⟨by omega,fun j hj=>?_⟩
   rcases Nat.lt_or_ge j i with h | h
   ·exact hoki j h
   ·obtain rfl:j=i:=by omega
    assumption
  ·omega
  ·refine ⟨by omega,fun j hj=>?_⟩
   rcases Nat.lt_or_ge j t with h | h
   ·exact hok j h
   ·obtain rfl:j=t:=by omega
    exact ⟨by omega,fun k hk=>hoki k (by omega)⟩
  ·omega
 clear hI
 (try simp only [nc] at *)
 simp (disch:=(first|omega|(simp only [lnS];omega))) only [rdT,rdS,reduceCtorEq,trT] at h4
 have e:t=g.th.length:=by omega
 subst e
 have hev:eventsOk g:=hok
 cbv
 -- sources
 refine E.loopS (ι:=Nat) (fun t=>t≤g.th.length∧(∀ j<t,∀ i<(g.th.getD j []).length,sourceM g ⟨j+1,i⟩ ((g.fr.getD j []).getD i id0)=true)) (fun t=>g.th.length-t) (fun t=>[(6,.i fun _=>((t:Nat):Int))]) (fun t h=>h) 0 (fun _=>by first|rfl|simp) ⟨Nat.zero_le _,?_⟩ ?_ fun t ht I hI=>?_
 ·intro j hj;omega
 ·cbv;simp
 obtain ⟨ht,hok2⟩:=ht
 cbv
 refine ⟨fun _ h5=>?_,fun _ h5=>?_⟩
 ·(try simp only [nc] at *)
  simp (disch:=(first|omega|(simp only [lnS];omega))) only [rdT,rdS,reduceCtorEq,trT] at h5
  have hht:=hsh.at t
  cbv
  refine E.loopS (ι:=Nat) (fun i=>i≤(g.th.getD t []).length∧(∀ j<i,sourceM g ⟨t+1,j⟩ ((g.fr.getD t []).getD j id0)=true)) (fun i=>(g.th.getD t []).length-i) (fun i=>[(7,.i fun _=>((i:Nat):Int))]) (fun i h=>h) 0 (fun _=>by first|rfl|simp) ⟨Nat.zero_le _,?_⟩ ?_ fun i hi I2 hI2=>?_
  ·intro j hj;omega
  ·cbv;simp
  obtain ⟨hi,hoki⟩:=hi
  have hfl:=(hev t (by ((try simp only [nc] at *);omega))).1
  cbv
  repeat' (first
   |(refine hI (t+1) ?_ ?_ ?_;rotate_left 1;(· ((try simp only [nc] at *);omega));(cbv;clear hI;(try clear hF);(try simp only [nc] at *);(try simp (disch:=(first|omega|(simp only [lnS];omega))) only [rdT,rdS,anT]));rotate_left 1;(try ((try simp only [nc] at *);omega)))
   |(refine hI2 (i+1) ?_ ?_ ?_;rotate_left 1;(· ((try simp only [nc] at *);omega));(cbv;clear hI2;(try clear hF);(try simp only [nc] at *);(try simp (disch:=(first|omega|(simp only [lnS];omega))) only [rdT,rdS,anT]));rotate_left 1;(try ((try simp only [nc] at *);omega)))
   |((first|refine E.c (SCalls.of_le (source_ok g hg ⟨t+1,i⟩ ((g.fr.getD t []).getD i id0)) ?_ ?_)|refine E.q (QCalls.of_le (source_ok g hg ⟨t+1,i⟩ ((g.fr.getD t []).getD i id0)) ?_ ?_));(· (cbv;(try simp only [nc] at *);first|done|(simp;done)|(simp (disch:=(first|omega|(simp only [lnS];omega))) only [rdT,rdS,anT];first|done|omega|(refine ⟨?_,?_⟩<;>omega))|(simp (disch:=(first|omega|(simp only [lnS];omega))) [rdT,rdS];done)));cbv)
   |(refine ⟨fun _ h_s=>?_,fun _ h_s=>?_⟩<;>(cbv;(try simp only [nc] at *);try simp (disch:=(first|omega|(simp only [lnS];omega))) only [rdT,rdS,reduceCtorEq,trT] at h_s))
   |(refine hF ?_;intro _;clear hF)
   |(refine hF ?_;cbv;clear hF)
   |(refine ⟨fun _=>?_,?_⟩;(· ((try simp only [nc] at *);first|done|omega|exact ⟨by omega,rfl⟩|(simp (disch:=(first|omega|(simp only [lnS];omega))) only [rdT,rdS];first|done|omega|rfl|exact ⟨by omega,rfl⟩|(simp;done)|(simp;omega))|(intros;trivial)));try cbv)
   |(refine E.d 9 (by decide +kernel) ?_;cbv;(fail_if_success guard_target =~ False))
   |(refine E.d 12 (by decide +kernel) ?_;cbv;(fail_if_success guard_target =~ False))
   |(refine E.d 13 (by decide +kernel) ?_;cbv;(fail_if_success guard_target =~ False))
   | fail
  )
  all_goals (try simp only [nc] at *)
  all_goals (try simp (disch:=(first|omega|(simp only [lnS];omega))) only [rdT,rdS])
  ·refine (gcheck2 hsh fun h=>?_).symm
   have:=h.sources t (by omega) i (by omega)
   simp_all
  ·refine ⟨by omega,fun j hj=>?_⟩
   rcases Nat.lt_or_ge j i with h | h
   ·exact hoki j h
   ·obtain rfl:j=i:=by omega
    assumption
  ·omega
  ·refine ⟨by omega,fun j hj=>?_⟩
   rcases Nat.lt_or_ge j t with h | h
   ·exact hok2 j h
   ·obtain rfl:j=t:=by omega
    exact fun k hk=>hoki k (by omega)
  ·omega
 clear hI
 (try simp only [nc] at *)
 simp (disch:=(first|omega|(simp only [lnS];omega))) only [rdT,rdS,reduceCtorEq,trT] at h5
 have e:t=g.th.length:=by omega
 subst e
 have hso:sourcesOk g:=hok2
 cbv
 refine E.loopS (ι:=Nat) (fun x=>x≤g.init.length∧(∀ j<x,orderedM g j=true)) (fun x=>g.init.length-x) (fun x=>[(8,.i fun _=>((x:Nat):Int))]) (fun x h=>h) 0 (fun _=>by first|rfl|simp) ⟨Nat.zero_le _,?_⟩ ?_ fun x hx I hI=>?_
 ·intro j hj;omega
 ·cbv;simp
 obtain ⟨hx,hok3⟩:=hx
 cbv
 repeat' (first
  |(refine hI (x+1) ?_ ?_ ?_;rotate_left 1;(· ((try simp only [nc] at *);omega));(cbv;clear hI;(try clear hF);(try simp only [nc] at *);(try simp (disch:=(first|omega|(simp only [lnS];omega))) only [rdT,rdS,anT]));rotate_left 1;(try ((try simp only [nc] at *);omega)))
  |(refine E.c (SCalls.of_le (ordered_ok g hg hsh x (by omega)) ?_ ?_);(· (cbv;(try simp only [nc] at *);first|done|(simp;done)|(simp (disch:=(first|omega|(simp only [lnS];omega))) only [rdT,rdS,anT];first|done|omega|(refine ⟨?_,?_⟩<;>omega))|(simp (disch:=(first|omega|(simp only [lnS];omega))) [rdT,rdS];done)));cbv)
  |(refine ⟨fun _ h_s=>?_,fun _ h_s=>?_⟩<;>(cbv;(try simp only [nc] at *);try simp (disch:=(first|omega|(simp only [lnS];omega))) only [rdT,rdS,reduceCtorEq,trT] at h_s))
  |(refine hF ?_;intro _;clear hF)
  |(refine hF ?_;cbv;clear hF)
  |(refine ⟨fun _=>?_,?_⟩;(· ((try simp only [nc] at *);first|done|omega|exact ⟨by omega,rfl⟩|(simp (disch:=(first|omega|(simp only [lnS];omega))) only [rdT,rdS];first|done|omega|rfl|exact ⟨by omega,rfl⟩|(simp;done)|(simp;omega))|(intros;trivial)));try cbv)
  |(refine E.d 9 (by decide +kernel) ?_;cbv;(fail_if_success guard_target =~ False))
  |(refine E.d 12 (by decide +kernel) ?_;cbv;(fail_if_success guard_target =~ False))
  |(refine E.d 13 (by decide +kernel) ?_;cbv;(fail_if_success guard_target =~ False))
  | fail
 )
 all_goals (try simp only [nc] at *)
 all_goals (try simp (disch:=(first|omega|(simp only [lnS];omega))) only [rdT,rdS])
 ·refine (gcheck2 hsh fun h=>?_).symm
  have:=h.orders x (by omega)
  simp_all
 ·refine ⟨by omega,fun j hj=>?_⟩
  rcases Nat.lt_or_ge j x with h | h
  ·exact hok3 j h
  ·obtain rfl:j=x:=by omega
   assumption
 ·omega
 ·refine (gcheck0 ⟨hsh,by omega,by omega,hev,hso,fun j hj=>hok3 j (by omega)⟩).symm
end Go.AL.Rl
