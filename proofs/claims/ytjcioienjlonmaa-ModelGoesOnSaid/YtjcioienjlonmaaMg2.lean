import Derived.Test.YtjcioienjlonmaaMg1
import Derived.WalkKit
import Derived.RangeFuncFrom
import Derived.TacticsIn
import Derived.OrdersIn
set_option linter.unusedVariables false
set_option linter.unusedSimpArgs false
namespace Go.AL
open Go Go.RowKit
section
variable {P:Program} {γ:Nat→Option AV}
theorem run_nilCheck_ptr {re:Operand→Value} {d:Option Tmp} {x:Operand} {ty:TypeId} {pos:String} {af:Array Edge} {g:Option (Nat × Bool)} {a:Addr} (h:re x=.pointer (some a)) (w:World) :
  (execOp re ⟨d,.nilCheck x,ty,pos,af,g⟩).run P w=.ok (.value (.pointer (some a))) w:=by
 simp [execOp,h]
theorem vq_sound {τ:Nat→TI} {C:QC} {e:Operand→AV} {h:List Blk} {k:AV→Prop} (hτ:∀ t,τ t=tiOf P t) (hC:∀ f args k,C f args k→QCalls P γ h f args k) {o:Oper}
  (hv:vq τ C o.op e h k):∃ v,k v∧QOp P γ o e h v:=by
 obtain ⟨d,op,ty,pos,af,g⟩:=o
 cases op
 case move x=>
  exact ⟨_,hv,QOp.of_run fun B S ρ w re hh hx=>⟨re x,rfl,hx x (by simp [Op.operands])⟩⟩
 case assign x=>
  exact ⟨_,hv,QOp.of_run fun B S ρ w re hh hx=>⟨re x,rfl,hx x (by simp [Op.operands])⟩⟩
 case pick c x y=>
  simp only [vq] at hv
  obtain ⟨b,h1,h2⟩:=br_val hv
  cases b with
  | true=>
   refine ⟨_,h2,QOp.of_run fun B S ρ w re hh hx=>⟨re x,?_,hx x (by simp [Op.operands])⟩⟩
   have:=h1 S w (some ρ) _ (hx c (by simp [Op.operands]))
   simp [execOp,this,asBool]
  | false=>
   refine ⟨_,h2,QOp.of_run fun B S ρ w re hh hx=>⟨re y,?_,hx y (by simp [Op.operands])⟩⟩
   have:=h1 S w (some ρ) _ (hx c (by simp [Op.operands]))
   simp [execOp,this,asBool]
 case build t ps=>
  simp only [vq,hτ] at hv
  obtain ⟨y,h1,h2⟩:=run_vbuild hv
  refine ⟨y,h1,QOp.of_run fun B S ρ w re hh hx=>?_⟩
  have hp:PartsR S w (some ρ) (ps.toList.map fun p=>(p.1,e p.2)) (ps.map fun x=>(x.1,re x.2)).toList:=by
   rw [Array.toList_map]
   exact PartsR.of _ fun p hp=>hx p.2 (by simp only [Op.operands,List.mem_toArray,List.mem_map];exact ⟨p,hp,rfl⟩)
  obtain ⟨y',h3,h4⟩:=h2 S w ρ _ hp
  exact ⟨y',by simp only [execOp,Sem.run_bind];rw [h3];rfl,h4⟩
 case buildSlice t n ps=>
  simp only [vq,hτ] at hv
  obtain ⟨y,h1,h2⟩:=run_vbuildSlice (γ:=γ) hv
  refine ⟨y,h1,QOp.of_run' fun B S ρ w re hh hx=>?_⟩
  have hp:PartsR S w (some ρ) (ps.toList.map fun p=>(p.1,e p.2)) (ps.map fun x=>(x.1,re x.2)).toList:=by
   rw [Array.toList_map]
   exact PartsR.of _ fun p hp=>hx p.2 (by simp only [Op.operands,List.mem_toArray,List.mem_map];exact ⟨p,hp,rfl⟩)
  obtain ⟨y',S',w',h3,h4,h5⟩:=h2 B S ρ h w _ hh hp
  exact ⟨y',S',w',by simp only [execOp,Sem.run_bind];rw [h3];rfl,h4,h5⟩
 case load t p=>
  simp only [vq,hτ] at hv
  obtain ⟨y,h1,h2⟩:=run_vload (γ:=γ) hv
  refine ⟨y,h1,QOp.of_run fun B S ρ w re hh hx=>?_⟩
  obtain ⟨y',h3,h4⟩:=h2 B S ρ w (re p) hh (hx p (by simp [Op.operands]))
  exact ⟨y',by simp only [execOp,Sem.run_bind];rw [h3];rfl,h4⟩
 case nilCheck x=>
  simp only [vq] at hv
  split at hv
  ·rename_i v off hex
   refine ⟨_,hv,QOp.of_run fun B S ρ w re hh hx=>?_⟩
   have hr:=hx x (by simp [Op.operands]);rw [hex] at hr
   have hr0:=hr
   obtain ⟨a,xv,h1,_⟩:=hr
   exact ⟨_,run_nilCheck_ptr h1 w,h1 ▸ hr0⟩
  ·rename_i b off hex
   refine ⟨_,hv,QOp.of_run fun B S ρ w re hh hx=>?_⟩
   have hr:=hx x (by simp [Op.operands]);rw [hex] at hr
   have hr0:=hr
   obtain ⟨_,_,_,_,_,_,_,h1⟩:=hr
   exact ⟨_,run_nilCheck_ptr h1 w,h1 ▸ hr0⟩
  ·rename_i b g i off hex
   refine ⟨_,hv,QOp.of_run fun B S ρ w re hh hx=>?_⟩
   have hr:=hx x (by simp [Op.operands]);rw [hex] at hr
   have hr0:=hr
   obtain ⟨_,_,_,_,_,_,_,_,h1,_⟩:=hr
   exact ⟨_,run_nilCheck_ptr h1 w,h1 ▸ hr0⟩
  ·rename_i f a c hex
   refine ⟨_,hv,QOp.of_run fun B S ρ w re hh hx=>?_⟩
   have hr:=hx x (by simp [Op.operands]);rw [hex] at hr
   have hr0:=hr
   obtain ⟨fv,cv,h1,_⟩:=hr
   exact ⟨_,by simp [execOp,h1],h1 ▸ hr0⟩
  ·exact hv.elim
 case binOp op t x y t'=>
  simp only [vq,hτ] at hv
  obtain ⟨v,h1,h2⟩:=run_vbin (P:=P) t hv
  refine ⟨v,h1,QOp.of_run fun B S ρ w re hh hx=>?_⟩
  obtain ⟨v',h3,h4⟩:=h2 w S (some ρ) (re x) (re y) x y (hx x (by simp [Op.operands])) (hx y (by simp [Op.operands]))
  exact ⟨v',by simp only [execOp,Sem.run_bind] at h3 ⊢;rw [h3];rfl,h4⟩
 case unOp op t x=>
  simp only [vq] at hv
  obtain ⟨y,h1,h2⟩:=run_vun (P:=P) hv
  refine ⟨y,h1,QOp.of_run fun B S ρ w re hh hx=>?_⟩
  obtain ⟨y',h3,h4⟩:=h2 S w ρ (re x) (hx x (by simp [Op.operands]))
  exact ⟨y',by simp only [execOp,Sem.run_bind];rw [h3];rfl,h4⟩
 case convert s t x=>
  simp only [vq,hτ] at hv
  obtain ⟨y,h1,h2⟩:=run_vconv hv
  refine ⟨y,h1,QOp.of_run fun B S ρ w re hh hx=>?_⟩
  obtain ⟨y',h3,h4⟩:=h2 S w ρ (re x) (hx x (by simp [Op.operands]))
  exact ⟨y',by simp only [execOp,Sem.run_bind];rw [h3];rfl,h4⟩
 case makeFunc f a c=>
  cases f<;>simp only [vq] at hv<;>first | exact hv.elim | skip
  refine ⟨_,hv,QOp.of_run fun B S ρ w re hh hx=>⟨_,rfl,(a.toList.map re),(c.toList.map re),?_,Rs_map _ fun x hx'=>hx x (by simp [Op.operands,Array.mem_toList_iff.1 hx']),Rs_map _ fun x hx'=>hx x (by simp [Op.operands,Array.mem_toList_iff.1 hx'])⟩⟩
  simp [Array.ext_iff]
 case slice t x lo hi mx=>
  simp only [vq,hτ] at hv
  obtain ⟨y,h1,h2⟩:=run_vslice hv
  refine ⟨y,h1,QOp.of_run fun B S ρ w re hh hx=>?_⟩
  obtain ⟨y',h3,h4⟩:=h2 S w ρ (re x) _ _ _ (hx x (by simp [Op.operands])) (opt_R (re:=re) lo fun y hy=>hx y (by simp only [Op.operands,Array.mem_append];simp [hy])) (opt_R (re:=re) hi fun y hy=>hx y (by simp only [Op.operands,Array.mem_append];simp [hy])) (opt_R (re:=re) mx fun y hy=>hx y (by simp only [Op.operands,Array.mem_append];simp [hy]))
  exact ⟨y',by simp only [execOp,Sem.run_bind];rw [h3];rfl,h4⟩
 case fieldAddr t p f=>
  simp only [vq,hτ] at hv
  obtain ⟨y,h1,h2⟩:=run_vfieldAddr hv
  refine ⟨y,h1,QOp.of_run fun B S ρ w re hh hx=>?_⟩
  obtain ⟨y',h3,h4⟩:=h2 S w ρ (re p) (hx p (by simp [Op.operands]))
  exact ⟨y',by simp only [execOp,Sem.run_bind];rw [h3];rfl,h4⟩
 case field t p f=>
  simp only [vq,hτ] at hv
  obtain ⟨y,h1,h2⟩:=run_vfield hv
  refine ⟨y,h1,QOp.of_run fun B S ρ w re hh hx=>?_⟩
  obtain ⟨y',h3,h4⟩:=h2 S w ρ (re p) (hx p (by simp [Op.operands]))
  exact ⟨y',by simp only [execOp,Sem.run_bind];rw [h3];rfl,h4⟩
 case indexAddr t x ix=>
  simp only [vq,hτ] at hv
  obtain ⟨y,h1,h2⟩:=run_vindexAddr (γ:=γ) hv
  refine ⟨y,h1,QOp.of_run fun B S ρ w re hh hx=>?_⟩
  obtain ⟨y',h3,h4⟩:=h2 B S ρ h w (re x) (re ix) hh (hx x (by simp [Op.operands])) (hx ix (by simp [Op.operands]))
  exact ⟨y',by simp only [execOp,Sem.run_bind];rw [h3];rfl,h4⟩
 case lookup t m x ok=>
  simp only [vq,hτ] at hv
  split at hv
  ·rename_i kt et ht
   obtain ⟨y,h1,h2⟩:=run_vlookup (γ:=γ) ht hv
   refine ⟨y,h1,QOp.of_run fun B S ρ w re hh hx=>?_⟩
   obtain ⟨y',h3,h4⟩:=h2 B S ρ w (re m) (re x) hh (hx m (by simp [Op.operands])) (hx x (by simp [Op.operands]))
   exact ⟨y',by simp only [execOp,Sem.run_bind];rw [h3];rfl,h4⟩
  ·exact hv.elim
 case extract x ix=>
  simp only [vq] at hv
  obtain ⟨y,h1,h2⟩:=run_vextract (P:=P) hv
  refine ⟨y,h1,QOp.of_run fun B S ρ w re hh hx=>?_⟩
  obtain ⟨y',h3,h4⟩:=h2 S w ρ (re x) (hx x (by simp [Op.operands]))
  exact ⟨y',by simp only [execOp,Sem.run_bind];rw [h3];rfl,h4⟩
 case call c=>
  obtain ⟨callee,args,ts⟩:=c
  cases callee
  case builtin b=>
   cases b<;>simp only [vq] at hv<;>first | exact hv.elim | skip
   case len=>
    split at hv
    ·rename_i x hargs
     split at hv
     ·rename_i t hts
      rw [hτ] at hv
      obtain ⟨y,h1,h2⟩:=run_vlenM (γ:=γ) (ty:=ty) hv
      refine ⟨y,h1,QOp.of_run fun B S ρ w re hh hx=>?_⟩
      have ha:args=#[x]:=by rw [←Array.toList_inj,hargs]
      have hts':ts=#[t]:=by rw [←Array.toList_inj,hts]
      subst ha;subst hts'
      obtain ⟨y',h3,h4⟩:=h2 B S ρ w (re x) hh (hx x (by simp [Op.operands,Call.operands]))
      exact ⟨y',by simp [execOp,resolve,invoke,builtin,h3],h4⟩
     ·exact hv.elim
    ·exact hv.elim
   case min=>
    split at hv
    ·rename_i x z hargs
     obtain ⟨y,h1,h2⟩:=run_vminmax (P:=P) hv
     refine ⟨y,h1,QOp.of_run fun B S ρ w re hh hx=>?_⟩
     have ha:args=#[x,z]:=by rw [←Array.toList_inj,hargs]
     subst ha
     obtain ⟨y',h3,h4⟩:=h2 S w ρ (re x) (re z) (hx x (by simp [Op.operands,Call.operands])) (hx z (by simp [Op.operands,Call.operands]))
     exact ⟨y',by simp [execOp,resolve,invoke,builtin,Builtin.min_,h3],h4⟩
    ·exact hv.elim
   case max=>
    split at hv
    ·rename_i x z hargs
     obtain ⟨y,h1,h2⟩:=run_vminmax (P:=P) hv
     refine ⟨y,h1,QOp.of_run fun B S ρ w re hh hx=>?_⟩
     have ha:args=#[x,z]:=by rw [←Array.toList_inj,hargs]
     subst ha
     obtain ⟨y',h3,h4⟩:=h2 S w ρ (re x) (re z) (hx x (by simp [Op.operands,Call.operands])) (hx z (by simp [Op.operands,Call.operands]))
     exact ⟨y',by simp [execOp,resolve,invoke,builtin,Builtin.max_,h3],h4⟩
    ·exact hv.elim
  case invoke r m=>exact hv.elim
  case value f=>
   simp only [vq] at hv
   split at hv
   ·rename_i fn a c hf
    obtain ⟨v,h1,he,h2⟩:=hC _ _ _ hv
    refine ⟨v,h1,fun B S ρ w re act next Q' hh hx hn=>?_⟩
    have hfr:=hx f (by simp [Op.operands,Call.operands])
    rw [hf] at hfr
    obtain ⟨fv,cv,hfv,hr1,hr2⟩:=hfr
    have hargs:Rs S w (some ρ) (args.toList.map e) (args.toList.map re):=Rs_map _ fun x hx'=>hx x (by simp [Op.operands,Call.operands,Array.mem_toList_iff.1 hx'])
    have hall:=Rs_append (Rs_append hr1 hargs) hr2
    have hcall:=h2 B S ρ w _ hh hall
    have hrun:(execOp re ⟨d,.call ⟨.value f,args,ts⟩,ty,pos,af,g⟩).run P w=.ok (.enter fn (fv.toArray++args.map re++cv.toArray)) w:=by
     simp only [execOp,resolve,Sem.run_bind,hfv,Deferred.ofValue,Sem.run_pure,Result.andThen_ok,invoke]
     exact he _ _
    rw [hrun,Oper.upon_enter]
    have hva:(fv++args.toList.map re++cv).toArray=fv.toArray++args.map re++cv.toArray:=by
     apply Array.toList_inj.1;simp
    rw [hva] at hcall
    exact hcall.mono fun ed w' ⟨v',S',h3,h4,h5⟩=>by subst h3;exact hn S' w' v' h5 h4
   ·exact hv.elim
 all_goals exact hv.elim
end
end Go.AL
namespace Go.AL
open Go Go.RowKit
def St.ev (γ:Nat→Option AV) (A:St):Operand→AV
 | .tmp t=>A.s.get t
 | .const v=>ofV v
 | .global g=>match γ g with | some x=>.vp (fun _=>x) 0 | none=>.raw (.pointer (some ⟨g,0,none⟩))
 | .func f=>.fn f [] []
section
variable {P:Program} {γ:Nat→Option AV}
theorem Sim.ev {B:Nat} {S:Nat→Prop} {ρ:List Loc} {A:St} {a:Act} {w:World} (h:Sim B S γ ρ A a w) (x:Operand):R S w (some ρ) (A.ev γ x) (a.eval x):=by
 cases x with
 | tmp t=>exact h.slot t
 | const v=>exact R_ofV v
 | global g=>
  simp only [St.ev,Act.eval]
  cases hg:γ g with
  | none=>rfl
  | some x=>exact R_none (h.heap.gok g x hg)
 | func f=>exact ⟨[],[],rfl,rfl,rfl⟩
theorem Sim.put {B:Nat} {S:Nat→Prop} {ρ:List Loc} {A:St} {a:Act} {w:World} (h:Sim B S γ ρ A a w) (d:Option Tmp) {v:AV} {v':Value} (hv:R S w (some ρ) v v'):Sim B S γ ρ (A.put d v) (a.put d v') w:=by
 cases d with
 | none=>exact h
 | some d=>
  simp only [St.put,Act.put]
  split
  ·rename_i hd0
   have hd:@LT.lt Nat _ d A.n:=hd0
   refine ⟨h.nodef,by simp [h.size],h.small,fun n=>?_,h.heap⟩
   show R S w (some ρ) ((A.s.set' 10 d v).get n) _
   have hs:=h.small
   rw [Tr.get_set' 10 A.s d n v (by omega)]
   have hsz:=h.size
   by_cases hn:n=d
   ·subst hn
    rw [if_pos rfl]
    have:n<a.tmps.size:=by omega
    simpa [Array.getD,this] using hv
   ·rw [if_neg hn]
    have:=h.slot n
    have e:(a.tmps.setIfInBounds d v').getD n Go.undef=a.tmps.getD n Go.undef:=by
     simp only [Array.getD_eq_getD_getElem?]
     rw [Array.getElem?_setIfInBounds_ne (by omega)]
    rw [e];exact this
  ·rename_i hd0
   have hd:¬ @LT.lt Nat _ d A.n:=hd0
   have e:a.tmps.setIfInBounds d v'=a.tmps:=by
    rw [Array.setIfInBounds_eq_of_size_le]
    have:=h.size;omega
   rw [e];exact h
theorem Sim.q {B:Nat} {S S':Nat→Prop} {ρ:List Loc} {A:St} {a:Act} {w w':World} (h:Sim B S γ ρ A a w) (hq:ExtQ S w S' w'):Sim B S' γ ρ A a w':=
 ⟨h.nodef,h.size,h.small,fun n=>h.heap.Rq hq (h.slot n),h.heap.q hq⟩
theorem Sim.ext {B:Nat} {S S':Nat→Prop} {ρ ρ':List Loc} {A:St} {a:Act} {w w':World} {h':List Blk} (h:Sim B S γ ρ A a w) (hx:Ext B S ρ w S' ρ' w') (hh:HeapR B S' γ ρ' h' w'):Sim B S' γ ρ' ⟨A.n,A.s,h'⟩ a w':=
 ⟨h.nodef,h.size,h.small,fun n=>hx.R (h.slot n),hh⟩
theorem OpR.of_q {o:Oper} {A:St} {v:AV} (h:QOp P γ o (A.ev γ) A.h v):OpR P γ o A (fun A'=>A'=A.put o.dst v):=by
 intro B S ρ a w next Q' hs hn
 refine h B S ρ w a.eval a next Q' hs.heap (fun x _=>hs.ev x) fun S' w' v' hq hr=>?_
 exact hn S' ρ _ _ w' rfl ((hs.q hq).put _ hr) (hs.heap.ext hq)
theorem OpR.mono {o:Oper} {A:St} {K K':St→Prop} (h:OpR P γ o A K) (hk:∀ A,K A→K' A):OpR P γ o A K':=
 fun B S ρ a w next Q' hs hn=>h B S ρ a w next Q' hs fun S' ρ' A' a' w' k=>hn S' ρ' A' a' w' (hk _ k)
theorem OpR.of_e {o:Oper} {A:St} {v:AV} {h':List Blk}
  (hr:∀ B S ρ w (re:Operand→Value),HeapR B S γ ρ A.h w→(∀ x,R S w (some ρ) (A.ev γ x) (re x))→∃ v' S' ρ' w',((execOp re o).run P w=.ok (.value v') w'∨((execOp re o).run P w=.ok .skip w'∧v'=Go.undef))∧Ext B S ρ w S' ρ' w'∧HeapR B S' γ ρ' h' w'∧R S' w' (some ρ') v v') :
  OpR P γ o A (fun A'=>A'=St.put ⟨A.n,A.s,h'⟩ o.dst v):=by
 intro B S ρ a w next Q' hs hn
 obtain ⟨v',S',ρ',w',h1,h2,h3,h4⟩:=hr B S ρ w a.eval hs.heap hs.ev
 unfold Oper.wp
 rcases h1 with h1 | ⟨h1,rfl⟩
 ·rw [h1];exact hn S' ρ' _ _ w' rfl ((hs.ext h2 h3).put _ h4) h2
 ·rw [h1];exact hn S' ρ' _ _ w' rfl ((hs.ext h2 h3).put _ h4) h2
theorem HeapR.push {B:Nat} {S:Nat→Prop} {ρ:List Loc} {h:List Blk} {w:World} (hh:HeapR B S γ ρ h w) (o:Obj) (ho:∀ c t lo hi,o=.cells c t (lo,hi)→lo=0∧hi=0) (loc:Loc) (hk:loc.k=some w.heap.size∨loc.k=none) (blk:Blk)
  (hb:BlkR S (w.alloc o) (ρ++[loc]) loc blk) (hsub:loc.sub=[]:=by rfl):HeapR B S γ (ρ++[loc]) (h++[blk]) (w.alloc o)∧Ext B S ρ w S (ρ++[loc]) (w.alloc o):=by
 have hsame:SameOn S w (w.alloc o):=fun k hk=>Below.heap_alloc w _ k (hh.sle k hk)
 have hup:=LocsUp.append ρ [loc]
 constructor
 ·refine ⟨by simp [hh.len],fun b bk lc h1 h2=>?_,fun b lc K h1 h2=>?_,fun b b' lc lc' K h1 h2 h3 h4=>?_,fun k hk=>by have:=hh.sle k hk;simp;omega,fun g x hg=>R.mono (fun _ h=>h) hsame (ρ:=none) (ρ':=none) trivial _ _ (hh.gok g x hg),by have:=hh.bsz;simp;omega,fun b lc h1=>?_⟩
  ·by_cases hlt:b<h.length
   ·rw [List.getElem?_append_left hlt] at h1
    rw [List.getElem?_append_left (by rw [hh.len];exact hlt)] at h2
    exact (hh.blk b bk lc h1 h2).mono (fun _ h=>h) hsame hup fun K hK=>Below.heap_alloc w _ K (hh.own b lc K h2 hK).2.1
   ·rw [List.getElem?_append_right (by omega)] at h1
    rw [List.getElem?_append_right (by rw [hh.len];omega)] at h2
    have e1:b-h.length=0:=by
     have:=(List.getElem?_eq_some_iff.1 h1).1;simp at this;omega
    rw [e1] at h1;rw [hh.len,e1] at h2
    simp at h1 h2;subst h1;subst h2
    exact hb
  ·by_cases hlt:b<ρ.length
   ·rw [List.getElem?_append_left hlt] at h1
    obtain ⟨k1,k2,k3⟩:=hh.own b lc K h1 h2
    exact ⟨k1,by simp;omega,k3⟩
   ·rw [List.getElem?_append_right (by omega)] at h1
    have e1:b-ρ.length=0:=by
     have:=(List.getElem?_eq_some_iff.1 h1).1;simp at this;omega
    rw [e1] at h1;simp at h1;subst h1
    have h2:=Loc.has_nil hsub h2
    rcases hk with hk | hk
    ·rw [hk] at h2;cases h2
     exact ⟨fun hs=>by have:=hh.sle _ hs;omega,by simp,hh.bsz⟩
    ·rw [hk] at h2;cases h2
  ·have key:∀ (b:Nat) (lc:Loc),(ρ++[loc])[b]?=some lc→lc.has K→(b<ρ.length∧ρ[b]?=some lc∧K<w.heap.size)∨(b=ρ.length∧K=w.heap.size):=by
    intro b lc h1 h3
    by_cases hlt:b<ρ.length
    ·rw [List.getElem?_append_left hlt] at h1
     exact .inl ⟨hlt,h1,(hh.own b lc K h1 h3).2.1⟩
    ·rw [List.getElem?_append_right (by omega)] at h1
     have e1:b-ρ.length=0:=by
      have:=(List.getElem?_eq_some_iff.1 h1).1;simp at this;omega
     rw [e1] at h1;simp at h1;subst h1
     have h3:=Loc.has_nil hsub h3
     rcases hk with hk | hk
     ·rw [hk] at h3;cases h3;exact .inr ⟨by omega,rfl⟩
     ·rw [hk] at h3;cases h3
   rcases key b lc h1 h3 with ⟨a1,a2,a3⟩ | ⟨a1,a2⟩<;>rcases key b' lc' h2 h4 with ⟨c1,c2,c3⟩ | ⟨c1,c2⟩
   ·exact hh.inj b b' lc lc' K a2 c2 h3 h4
   ·omega
   ·omega
   ·omega
  ·by_cases hlt:b<ρ.length
   ·rw [List.getElem?_append_left hlt] at h1
    exact hh.sok b lc h1
   ·rw [List.getElem?_append_right (by omega)] at h1
    have e1:b-ρ.length=0:=by
     have:=(List.getElem?_eq_some_iff.1 h1).1;simp at this;omega
    rw [e1] at h1;simp at h1;subst h1
    exact .nil hsub
 ·exact ⟨Fr.alloc w o ho,fun k hk=>Below.heap_alloc w _ k (by have:=hh.bsz;omega),fun _ h=>h,hsame,hup,fun _ h=>.inl h⟩
theorem getElem?_concat {α:Type} (l:List α) (x:α):(l++[x])[l.length]?=some x:=by simp
theorem HeapR.box {B:Nat} {S:Nat→Prop} {ρ:List Loc} {h:List Blk} {w:World} (hh:HeapR B S γ ρ h w) {v:AV} {v':Value} (hv:R S w (some ρ) v v') (hf:v.flat=true) (ty:TypeId) :
  ∃ ρ',HeapR B S γ ρ' (h++[.box v]) (w.alloc (.cells v'.cells ty))∧Ext B S ρ w S ρ' (w.alloc (.cells v'.cells ty))∧R S (w.alloc (.cells v'.cells ty)) (some ρ') (.ptr h.length 0) (.pointer (some ⟨w.heap.size,0,none⟩)):=by
 have hsame:SameOn S w (w.alloc (.cells v'.cells ty)):=fun k hk=>Below.heap_alloc w _ k (hh.sle k hk)
 obtain ⟨h1,h2⟩:=hh.push (.cells v'.cells ty) (by intro _ _ _ _ e;cases e;exact ⟨rfl,rfl⟩) ⟨true,0,some w.heap.size,0,0,[]⟩ (.inl rfl) (.box v)
  ⟨rfl,w.heap.size,ty,v',rfl,heap_alloc_new w _,R.mono (fun _ h=>h) hsame (ρ:=some ρ) (ρ':=some (ρ++[_])) (LocsUp.append _ _) v v' hv,hf⟩
 exact ⟨_,h1,h2,_,_,w.heap.size,rfl,by rw [←hh.len];exact getElem?_concat _ _,rfl,rfl,rfl⟩
end
end Go.AL
namespace Go.AL
open Go Go.RowKit
section
variable {P:Program} {γ:Nat→Option AV}
theorem HeapR.upd {B:Nat} {S:Nat→Prop} {ρ:List Loc} {h:List Blk} {w w':World} (hh:HeapR B S γ ρ h w) {b:Nat} {loc loc':Loc} {blk':Blk} (hb:ρ[b]?=some loc) (hup:loc.up loc')
  (hk:∀ K,loc'.k=some K→loc.k=some K∨(w.heap.size≤K∧K<w'.heap.size)) (hfr:Fr w w') (hsame:∀ k,k<w.heap.size→loc.k≠some k→w'.heap[k]?=w.heap[k]?)
  (hblk:BlkR S w' (ρ.set b loc') loc' blk') (hsub:(loc'.sub=loc.sub∧loc'.k=loc.k)∨loc'.sub=[]:=by first | exact .inl ⟨rfl,rfl⟩ | exact .inr rfl):HeapR B S γ (ρ.set b loc') (h.set b blk') w'∧Ext B S ρ w S (ρ.set b loc') w':=by
 have hk0:=hk
 have hk:∀ K,loc'.has K→loc.has K∨(w.heap.size≤K∧K<w'.heap.size):=fun K h=>by
  rcases h with h | h
  ·exact (hk0 K h).imp .inl id
  ·rcases hsub with ⟨h1,_⟩ | h1
   ·exact .inl (.inr (by rw [←h1];exact h))
   ·rw [h1] at h;exact absurd h (by simp)
 have hblt:b<ρ.length:=(List.getElem?_eq_some_iff.1 hb).1
 have hS:SameOn S w w':=fun k hk'=>hsame k (hh.sle k hk') fun e=>(hh.own b loc k hb (.inl e)).1 hk'
 have hlocs:LocsUp ρ (ρ.set b loc'):=by
  intro i l hl
  by_cases e:b=i
  ·subst e;rw [hb] at hl;cases hl
   exact ⟨loc',by simp [hblt],hup⟩
  ·exact ⟨l,by rw [List.getElem?_set_ne e];exact hl,l.up_refl⟩
 have key:∀ (i:Nat) (l:Loc),(ρ.set b loc')[i]?=some l→(i=b∧l=loc')∨(i≠b∧ρ[i]?=some l):=by
  intro i l hl
  by_cases e:b=i
  ·subst e;left;simp [hblt] at hl;exact ⟨rfl,hl.symm⟩
  ·right;rw [List.getElem?_set_ne e] at hl;exact ⟨fun h=>e h.symm,hl⟩
 refine ⟨⟨by simp [hh.len],fun i bk l h1 h2=>?_,fun i l K h1 h2=>?_,fun i j l l' K h1 h2 h3 h4=>?_,fun k hk'=>Nat.lt_of_lt_of_le (hh.sle k hk') hfr.size,fun g x hg=>R.mono (fun _ h=>h) hS (ρ:=none) (ρ':=none) trivial _ _ (hh.gok g x hg),Nat.le_trans hh.bsz hfr.size,fun i l h1=>?_⟩,hfr,fun k hk'=>?_,fun _ h=>h,hS,hlocs,fun _ h=>.inl h⟩
 ·rcases key i l h2 with ⟨rfl,rfl⟩ | ⟨hne,h2⟩
  ·have:i<h.length:=by rw [←hh.len];exact hblt
   simp [this] at h1;subst h1;exact hblk
  ·rw [List.getElem?_set_ne (fun e=>hne e.symm)] at h1
   refine (hh.blk i bk l h1 h2).mono (fun _ h=>h) hS hlocs fun K hK=>?_
   refine hsame K (hh.own i l K h2 hK).2.1 fun e=>hne ?_
   exact (hh.inj i b l loc K h2 hb hK (.inl e))
 ·rcases key i l h1 with ⟨rfl,rfl⟩ | ⟨hne,h1⟩
  ·rcases hk K h2 with e | ⟨e1,e2⟩
   ·obtain ⟨k1,k2,k3⟩:=hh.own i loc K hb e
    exact ⟨k1,Nat.lt_of_lt_of_le k2 hfr.size,k3⟩
   ·exact ⟨fun hs=>by have:=hh.sle K hs;omega,e2,Nat.le_trans hh.bsz e1⟩
  ·obtain ⟨k1,k2,k3⟩:=hh.own i l K h1 h2
   exact ⟨k1,Nat.lt_of_lt_of_le k2 hfr.size,k3⟩
 ·rcases key i l h1 with ⟨rfl,rfl⟩ | ⟨hn1,g1⟩<;>rcases key j l' h2 with ⟨rfl,rfl⟩ | ⟨hn2,g2⟩
  ·rfl
  ·rcases hk K h3 with e | ⟨e1,_⟩
   ·exact hh.inj i j loc l' K hb g2 e h4
   ·have:=(hh.own j l' K g2 h4).2.1;omega
  ·rcases hk K h4 with e | ⟨e1,_⟩
   ·exact hh.inj i j l loc K g1 hb h3 e
   ·have:=(hh.own i l K g1 h3).2.1;omega
  ·exact hh.inj i j l l' K g1 g2 h3 h4
 ·rcases key i l h1 with ⟨rfl,rfl⟩ | ⟨_,g1⟩
  ·rcases hsub with ⟨e1,e2⟩ | e1
   ·have:=hh.sok i loc hb
    exact ⟨fun K hK=>by rw [e2];rw [e1] at hK;exact this.out K hK,fun a c K ha hc=>by rw [e1] at ha hc;exact this.one a c K ha hc⟩
   ·exact .nil e1
  ·exact hh.sok i l g1
 ·exact hsame k (Nat.lt_of_lt_of_le hk' hh.bsz) fun e=>by have:=(hh.own b loc k hb (.inl e)).2.2;omega
theorem HeapR.updS {B:Nat} {S:Nat→Prop} {ρ:List Loc} {h:List Blk} {w w':World} (hh:HeapR B S γ ρ h w) {b:Nat} {loc loc':Loc} {blk':Blk} (hb:ρ[b]?=some loc) (hup:loc.up loc')
  (hk:∀ K,loc'.has K→loc.has K∨(w.heap.size≤K∧K<w'.heap.size)) (hfr:Fr w w') (hsame:∀ k,k<w.heap.size→loc.k≠some k→w'.heap[k]?=w.heap[k]?)
  (hblk:BlkR S w' (ρ.set b loc') loc' blk') (hsok:loc'.SubOk):HeapR B S γ (ρ.set b loc') (h.set b blk') w'∧Ext B S ρ w S (ρ.set b loc') w':=by
 have hblt:b<ρ.length:=(List.getElem?_eq_some_iff.1 hb).1
 have hS:SameOn S w w':=fun k hk'=>hsame k (hh.sle k hk') fun e=>(hh.own b loc k hb (.inl e)).1 hk'
 have hlocs:LocsUp ρ (ρ.set b loc'):=by
  intro i l hl
  by_cases e:b=i
  ·subst e;rw [hb] at hl;cases hl
   exact ⟨loc',by simp [hblt],hup⟩
  ·exact ⟨l,by rw [List.getElem?_set_ne e];exact hl,l.up_refl⟩
 have key:∀ (i:Nat) (l:Loc),(ρ.set b loc')[i]?=some l→(i=b∧l=loc')∨(i≠b∧ρ[i]?=some l):=by
  intro i l hl
  by_cases e:b=i
  ·subst e;left;simp [hblt] at hl;exact ⟨rfl,hl.symm⟩
  ·right;rw [List.getElem?_set_ne e] at hl;exact ⟨fun h=>e h.symm,hl⟩
 refine ⟨⟨by simp [hh.len],fun i bk l h1 h2=>?_,fun i l K h1 h2=>?_,fun i j l l' K h1 h2 h3 h4=>?_,fun k hk'=>Nat.lt_of_lt_of_le (hh.sle k hk') hfr.size,fun g x hg=>R.mono (fun _ h=>h) hS (ρ:=none) (ρ':=none) trivial _ _ (hh.gok g x hg),Nat.le_trans hh.bsz hfr.size,fun i l h1=>?_⟩,hfr,fun k hk'=>?_,fun _ h=>h,hS,hlocs,fun _ h=>.inl h⟩
 ·rcases key i l h2 with ⟨rfl,rfl⟩ | ⟨hne,h2⟩
  ·have:i<h.length:=by rw [←hh.len];exact hblt
   simp [this] at h1;subst h1;exact hblk
  ·rw [List.getElem?_set_ne (fun e=>hne e.symm)] at h1
   refine (hh.blk i bk l h1 h2).mono (fun _ h=>h) hS hlocs fun K hK=>?_
   refine hsame K (hh.own i l K h2 hK).2.1 fun e=>hne ?_
   exact (hh.inj i b l loc K h2 hb hK (.inl e))
 ·rcases key i l h1 with ⟨rfl,rfl⟩ | ⟨hne,h1⟩
  ·rcases hk K h2 with e | ⟨e1,e2⟩
   ·obtain ⟨k1,k2,k3⟩:=hh.own i loc K hb e
    exact ⟨k1,Nat.lt_of_lt_of_le k2 hfr.size,k3⟩
   ·exact ⟨fun hs=>by have:=hh.sle K hs;omega,e2,Nat.le_trans hh.bsz e1⟩
  ·obtain ⟨k1,k2,k3⟩:=hh.own i l K h1 h2
   exact ⟨k1,Nat.lt_of_lt_of_le k2 hfr.size,k3⟩
 ·rcases key i l h1 with ⟨rfl,rfl⟩ | ⟨hn1,g1⟩<;>rcases key j l' h2 with ⟨rfl,rfl⟩ | ⟨hn2,g2⟩
  ·rfl
  ·rcases hk K h3 with e | ⟨e1,_⟩
   ·exact hh.inj i j loc l' K hb g2 e h4
   ·have:=(hh.own j l' K g2 h4).2.1;omega
  ·rcases hk K h4 with e | ⟨e1,_⟩
   ·exact hh.inj i j l loc K g1 hb h3 e
   ·have:=(hh.own i l K g1 h3).2.1;omega
  ·exact hh.inj i j l l' K g1 g2 h3 h4
 ·rcases key i l h1 with ⟨rfl,rfl⟩ | ⟨_,g1⟩
  ·exact hsok
  ·exact hh.sok i l g1
 ·exact hsame k (Nat.lt_of_lt_of_le hk' hh.bsz) fun e=>by have:=(hh.own b loc k hb (.inl e)).2.2;omega
theorem InR.mono {S S':Nat→Prop} {w w':World} {k:Nat} {es:LV} {v:Value} {s:Option Nat} (h:InR S w k es v s) (hS:∀ k,S k→S' k) (hw:SameOn S w w') (hk:∀ K,s=some K→w'.heap[K]?=w.heap[K]?):InR S' w' k es v s:=by
 obtain ⟨a,cap,ievs,q1,q2,q3,q4,q5,q6⟩:=h
 refine ⟨a,cap,ievs,q1,q2,q3,RL.mono hS hw _ _ q4,q5,?_⟩
 rcases q6 with q6 | ⟨K,c,ty,r1,r2,r3,r4,r5⟩
 ·exact .inl q6
 ·exact .inr ⟨K,c,ty,r1,r2,r3,(hk K r1).trans r4,r5⟩
theorem Loc.has_sub {l l':Loc} {K:Nat} (hk:l'.k=l.k) (hs:l'.sub=l.sub++[none]) (h:l'.has K):l.has K:=by
 rcases h with h | h
 ·exact .inl (by rw [←hk];exact h)
 ·rw [hs,List.mem_append] at h
  exact h.elim .inr fun h=>by simp at h
theorem Loc.SubOk.app {l l':Loc} (h:l.SubOk) (hs:l'.sub=l.sub++[none]) (hk:∀ K,some K∈l.sub→l'.k≠some K):l'.SubOk where
 out:=fun K hK=>by
  rw [hs,List.mem_append] at hK
  rcases hK with hK | hK
  ·exact hk K hK
  ·simp at hK
 one:=fun i j K hi hj=>by
  have key:∀ i,l'.sub[i]?=some (some K)→l.sub[i]?=some (some K):=fun i hi=>by
   rw [hs] at hi
   by_cases hlt:i<l.sub.length
   ·rwa [List.getElem?_append_left hlt] at hi
   ·rw [List.getElem?_append_right (by omega)] at hi
    have:i-l.sub.length=0:=by have:=(List.getElem?_eq_some_iff.1 hi).1;simp at this;omega
    rw [this] at hi;simp at hi
  exact h.one i j K (key i hi) (key j hj)
theorem Fr.setRow (w:World) (g:Nat) (c:Array Value) (cur:Array Value) (ty:TypeId) (h:w.heap[g]?=some (.cells cur ty (0,0))):Fr w (w.setRow g c):=by
 refine ⟨rfl,rfl,rfl,by simp,fun a _=>?_⟩
 by_cases e:a.block=g
 ·have h1:=setRow_heap w g cur c ty (0,0) h
  simp only [World.frozen?,e,h1,h]
 ·have h1:=setRow_other w g a.block c e
  simp only [World.frozen?,h1]
def AV.upd (e:AV) (off:Nat) (v:AV):AV:=
 match e with
 | .agg cs=>.agg (cs.take off++v.cells++cs.drop (off+v.cells.length))
 | _=>v
def AV.isAgg:AV→Bool | .agg _=>true | _=>false
def AV.fits (e:AV) (off:Nat) (v:AV):Bool:=v.flat && decide (off+v.cells.length≤e.cells.length) && e.known && (e.isAgg || (!v.isAgg))
def updV (e:Value) (off:Nat) (v:Value):Value:=
 match e with
 | .agg cs=>.agg (cs.toList.take off++v.cells.toList++cs.toList.drop (off+v.cells.size)).toArray
 | _=>v
theorem R_upd {S:Nat→Prop} {w:World} {ρ:Option (List Loc)} {e v:AV} {ev v':Value} {off:Nat} (he:R S w ρ e ev) (hv:R S w ρ v v') (hf:e.fits off v=true) :
  R S w ρ (e.upd off v) (updV ev off v')∧(updV ev off v').cells.toList=ev.cells.toList.take off++v'.cells.toList++ev.cells.toList.drop (off+v'.cells.size)∧off+v'.cells.size≤ev.cells.size:=by
 simp only [AV.fits,Bool.and_eq_true,decide_eq_true_eq,Bool.or_eq_true,Bool.not_eq_true'] at hf
 obtain ⟨⟨⟨h1,h2⟩,h3⟩,h4⟩:=hf
 obtain ⟨hc,hone⟩:=R_cells hv h1
 have hl:v'.cells.size=v.cells.length:=by have:=Rs_len hc;simpa using this
 have hec:=R_cells' he h3
 have hel:ev.cells.size=e.cells.length:=by have:=Rs_len hec;simpa using this
 cases e with
 | agg cs=>
  obtain ⟨vals,rfl,hr⟩:=he
  refine ⟨⟨_,rfl,?_⟩,by simp [updV,Value.cells],by omega⟩
  simp only
  rw [hl]
  exact Rs_append (Rs_append (Rs_take hr _) hc) (Rs_drop hr _)
 | _=>
  all_goals
   simp only [AV.isAgg,Bool.false_eq_true,false_or] at h4
   have h2:off+v.cells.length≤1:=h2
   have hel:ev.cells.size=1:=hel
   have hna:∀ cs,ev≠.agg cs:=by
    intro cs e;subst e
    simp only [AV.cells] at hec
    first
     | (have:=R_one he rfl;simp [Value.oneCell'] at this;done)
     | (have:=R_one he (by exact h3);simp [Value.oneCell'] at this;done)
     | (simp only [R] at he;simp [Go.undef] at he;done)
     | (obtain ⟨_,he,_⟩:=he;cases he;done)
     | (simp [AV.known] at h3;done)
   have hvl:v.cells.length=1:=by cases v<;>simp [AV.cells,AV.isAgg] at h4 ⊢
   have hoff:off=0:=by omega
   subst hoff
   have hu:updV ev 0 v'=v':=by cases ev<;>first | rfl | exact absurd rfl (hna _)
   refine ⟨by rw [hu];exact hv,?_,by omega⟩
   rw [hu]
   have:ev.cells.toList.drop (0+v'.cells.size)=[]:=List.drop_eq_nil_of_le (by simp;omega)
   rw [this];simp
end
end Go.AL
namespace Go.AL
open Go Go.RowKit
def shows (h:List Blk) (sz:Nat) (x:AV) (k:(Unit→LV)→Prop):Prop:=
 match x with
 | .vs m es=>if m=sz then k es else False
 | .nils=>k fun _=>.nil
 | .sl b g m off n=>if m=sz then match h[b]? with
   | some (.run g' _ es)=>(∀ _:Unit,g'=g∧off ()+n ()≤(es ()).l.length)∧k fun _=>LV.of (((es ()).l.drop (off ())).take (n ()))
   | _=>False
  else False
 | _=>False
def TK.isOther:TK→Bool | .other=>true | _=>false
def vstore (t:TI) (h:List Blk) (p v:AV) (k:List Blk→Prop):Prop:=
 if t.k.isOther=false∧v.cells.length=t.sz then
  match p with
  | .ptr b off=>match h[b]? with
   | some (.box e)=>if e.fits off v=true∧(e.upd off v).flat=true then k (h.set b (.box (e.upd off v))) else False
   | _=>False
  | .hp b g i off=>match h[b]? with
   | some (.run g' m es)=>if v.closed=true then
     (∀ _:Unit,g'=g∧i ()<(es ()).l.length∧((es ()).l.getD (i ()) .any).fits off v=true) ∧
      k (h.set b (.run g' m fun _=>LV.of ((es ()).l.set (i ()) (((es ()).l.getD (i ()) .any).upd off v))))
    else False
   | some (.nest g' q ess hole)=>match hole with
    | some (j,_)=>match off with
     | 0=>if v.one=true then (∀ _:Unit,g'=g∧i ()=j ()∧j ()<(ess ()).length)∧k (h.set b (.nest g' q ess (some (j,v)))) else False
     | _+1=>False
    | none=>match off with
     | 0=>if v.one=true then (∀ _:Unit,g'=g∧i ()=(ess ()).length)∧k (h.set b (.nest g' q (fun _=>ess ()++[.nil]) (some (fun _=>(ess ()).length,v)))) else False
     | _+1=>False
   | _=>False
  | _=>False
 else False
def toI:AV→Option (Unit→Int)
 | .lit n=>some fun _=>n
 | .i n=>some n
 | _=>none
def vmakeSlice (t:TK) (cs:List CK) (h:List Blk) (n m:AV) (k:AV→List Blk→Prop):Prop:=
 match t with
 | .slice _ sz bytes (some z)=>if (z.closed && z.flat && (z.cells.length == sz) && decide (0<sz))=true then
   match toI n with
   | some n=>match toI m with
    | some m=>(∀ _:Unit,0≤n ()∧n ()≤m ()∧m ()≤4611686018427387904∧bytes * m ()≤281474976710656)∧(match z with | .nils=>k (.sl h.length 0 sz (fun _=>0) fun _=>(n ()).toNat) (h++[.run 0 sz fun _=>LV.of (List.replicate (n ()).toNat .nils)]) | _=>k (.sl h.length 0 sz (fun _=>0) fun _=>(n ()).toNat) (h++[.run 0 sz fun _=>LV.of (List.replicate (n ()).toNat (z.nrm cs))]))
    | none=>False
   | none=>False
  else False
 | _=>False
def vappend0 (t u:TK) (h:List Blk) (x y:AV) (k:AV→List Blk→Prop):Prop:=
 match t with
 | .slice _ sz bytes (some z)=>match u with
  | .slice ..=>if (z.cells.length == sz)=true then shows h sz y fun new=>
    match x with
    | .nils=>(∀ _:Unit,(new ()).l.length * bytes≤140737488355328∧(new ()).l.length≤4611686018427387904∧∀ v∈(new ()).l,v.flat=true)∧k (.sl h.length 0 sz (fun _=>0) fun _=>(new ()).l.length) (h++[.run 0 sz new])
    | .sl b g m off n=>if m=sz then match h[b]? with
      | some (.run g' _ es)=>(∀ _:Unit,g'=g∧off ()=0∧n ()=(es ()).l.length∧(n ()+(new ()).l.length) * bytes≤140737488355328∧n ()+(new ()).l.length≤4611686018427387904∧∀ v∈(new ()).l,v.flat=true) ∧
        k (.sl b (g+1) sz (fun _=>0) fun _=>n ()+(new ()).l.length) (h.set b (.run (g+1) sz fun _=>LV.of ((es ()).l++(new ()).l)))
      | _=>False
     else False
    | _=>False
   else False
  | _=>False
 | _=>False
def vappN (t u:TK) (h:List Blk) (x v:AV) (k:AV→List Blk→Prop):Prop:=
 match t with
 | .slice _ sz bytes (some z)=>match u with
  | .slice ..=>match x with
   | .sl b g m off n=>match h[b]? with
    | some (.nest g' q ess hole)=>match hole with
     | none=>if ((z.cells.length == 1) && (sz == 1) && (m == 1) && v.one)=true then
       (∀ _:Unit,g'=g∧off ()=0∧n ()=(ess ()).length∧(n ()+1) * bytes≤140737488355328∧n ()+1≤4611686018427387904) ∧
        k (.sl b (g+1) 1 (fun _=>0) fun _=>n ()+1) (h.set b (.nest (g+1) q (fun _=>ess ()++[.nil]) (some (fun _=>(ess ()).length,v))))
      else False
     | some _=>False
    | _=>False
   | _=>False
  | _=>False
 | _=>False
def vappend (t u:TK) (h:List Blk) (x y:AV) (k:AV→List Blk→Prop):Prop:=
 match y with
 | .v1 v=>vappN t u h x v k
 | _=>vappend0 t u h x y k
def vcopy (t:TK) (h:List Blk) (x y:AV) (k:AV→List Blk→Prop):Prop:=
 match t with
 | .slice _ sz _ _=>shows h sz y fun src=>
  match x with
  | .sl b g m off n=>if m=sz then match h[b]? with
    | some (.run g' _ es)=>(∀ _:Unit,g'=g∧off ()+n ()≤(es ()).l.length∧∀ v∈(src ()).l,v.flat=true) ∧
      k (.i fun _=>(min (src ()).l.length (n ()):Nat)) (h.set b (.run g' sz fun _=>LV.of ((es ()).l.take (off ())++(src ()).l.take (min (src ()).l.length (n ()))++(es ()).l.drop (off ()+min (src ()).l.length (n ())))))
    | _=>False
   else False
  | _=>False
 | _=>False
def mputK (f:Option Nat) (ks:LV) (x:AV):LV:=match f with | some _=>ks | none=>LV.of (ks.l++[x])
def mputV (f:Option Nat) (vs:LV) (y:AV):LV:=match f with | some i=>LV.of (vs.l.set i y) | none=>LV.of (vs.l++[y])
def mdel (f:Option Nat) (l:LV):LV:=match f with | some i=>LV.of (l.l.eraseIdx i) | none=>l
def vmapUpdate (kt et:TI) (h:List Blk) (m x y:AV) (k:List Blk→Prop):Prop:=
 match m with
 | .mp b=>match h[b]? with
  | some (Blk.map ks vs)=>match x with
   | .agg xs=>match keyTy kt && ckOks kt.eq xs && y.closed with
    | true=>(∀ _:Unit,mok kt.eq (ks ())) ∧
      k (h.set b (.map (fun _=>mputK (mfind kt.eq (ks ()) (knums kt.eq (.agg xs))) (ks ()) (.agg (nrms kt.eq xs))) (fun _=>mputV (mfind kt.eq (ks ()) (knums kt.eq (.agg xs))) (vs ()) (y.nrm et.cs))))
    | false=>False
   | _=>False
  | _=>False
 | _=>False
def vdelete (kt:TI) (h:List Blk) (m x:AV) (k:List Blk→Prop):Prop:=
 match m with
 | .mp b=>match h[b]? with
  | some (Blk.map ks vs)=>match x with
   | .agg xs=>match keyTy kt && ckOks kt.eq xs with
    | true=>(∀ _:Unit,mok kt.eq (ks ())) ∧
      k (h.set b (.map (fun _=>mdel (mfind kt.eq (ks ()) (knums kt.eq (.agg xs))) (ks ())) (fun _=>mdel (mfind kt.eq (ks ()) (knums kt.eq (.agg xs))) (vs ()))))
    | false=>False
   | _=>False
  | _=>False
 | _=>False
def ve (τ:Nat→TI) (o:Op) (e:Operand→AV) (h:List Blk) (k:AV→List Blk→Prop):Prop:=
 match o with
 | .alloc t=>if (τ t).k.isOther=false then match (τ t).zero with
   | some z=>if z.flat=true then k (.ptr h.length 0) (h++[.box z]) else False
   | none=>False
  else False
 | .box _ x=>if (e x).flat=true then k (.ptr h.length 0) (h++[.box (e x)]) else False
 | .store t p x=>match e p with
  | .hp ..=>vstore (τ t) h (e p) ((e x).nrm (τ t).cs) (k .undef)
  | _=>vstore (τ t) h (e p) (e x) (k .undef)
 | .makeSlice t n m=>vmakeSlice (τ t).k (τ (τ t).k.elem).cs h (e n) (e m) k
 | .makeMap t r=>match r with
  | none=>k (.mp h.length) (h++[.map (fun _=>.nil) fun _=>.nil])
  | some x=>match (τ t).k with
   | .map _ _=>match e x with
    | .i _=>k (.mp h.length) (h++[.map (fun _=>.nil) fun _=>.nil])
    | .lit _=>k (.mp h.length) (h++[.map (fun _=>.nil) fun _=>.nil])
    | _=>False
   | _=>False
 | .mapUpdate t m x y=>match (τ t).k with
  | .map kt et=>vmapUpdate (τ kt) (τ et) h (e m) (e x) (e y) (k .undef)
  | _=>False
 | .call ⟨.builtin .delete,args,ts⟩=>match args.toList with
  | [m,x]=>match ts.toList with
   | t :: _=>match (τ t).k with
    | .map kt _=>vdelete (τ kt) h (e m) (e x) (k (.tup []))
    | _=>False
   | _=>False
  | _=>False
 | .call ⟨.builtin .append,args,ts⟩=>match args.toList with
  | [x,y]=>match ts.toList with
   | [t,u]=>vappend (τ t).k (τ u).k h (e x) (e y) k
   | _=>False
  | _=>False
 | .call ⟨.builtin .copy,args,ts⟩=>match args.toList with
  | [x,y]=>match ts.toList with
   | t :: _=>vcopy (τ t).k h (e x) (e y) k
   | _=>False
  | _=>False
 | _=>False
section
variable {P:Program} {γ:Nat→Option AV}
def AV.isSl:AV→Bool | .sl ..=>true | _=>false
theorem run_shows {h:List Blk} {sz:Nat} {x:AV} {k:(Unit→LV)→Prop} (hv:shows h sz x k) :
  ∃ es,k es∧∀ B S ρ w x',HeapR B S γ ρ h w→R S w (some ρ) x x'→∃ a cap evs,x'=.slice a evs.length cap∧evs.length≤cap∧RL S w (es ()) evs∧(x.isSl=true→∀ e∈evs,∀ u∈e.cells.toList,u.oneCell'=true)∧(∀ e∈evs,e.cells.size=sz) ∧
   (evs=[]∨∃ ab ao,a=some ⟨ab,ao,none⟩∧∀ (j:Nat) (c:Value),(flat evs)[j]?=some c→w.cell? ⟨ab,ao+j,none⟩=some c):=by
 have mem:∀ (w:World) (ab ao:Nat) (evs:List Value),(∀ i e,evs[i]?=some e→e.cells.size=sz∧∀ j c,e.cells[j]?=some c→w.cell? ⟨ab,ao+(i * sz+j),none⟩=some c) →
   (∀ e∈evs,e.cells.size=sz)∧∀ (j:Nat) (c:Value),(flat evs)[j]?=some c→w.cell? ⟨ab,ao+j,none⟩=some c:=by
  intro w ab ao evs
  induction evs generalizing ao with
  | nil=>intro _;exact ⟨fun e he=>(by cases he),fun j c hc=>(by simp [flat] at hc)⟩
  | cons e evs ih=>
   intro hm
   have h0:=hm 0 e rfl
   have ih:=ih (ao+sz) fun i e' he'=>⟨(hm (i+1) e' (by simpa using he')).1,fun j c hc=>by
    have:=(hm (i+1) e' (by simpa using he')).2 j c hc
    rw [show ao+sz+(i * sz+j)=ao+((i+1) * sz+j) from by rw [Nat.add_mul];omega];exact this⟩
   refine ⟨fun x hx=>?_,fun j c hc=>?_⟩
   ·rcases List.mem_cons.1 hx with rfl | hx
    ·exact h0.1
    ·exact ih.1 x hx
   ·simp only [flat,List.map_cons,List.flatten_cons] at hc
    by_cases hj:j<e.cells.size
    ·rw [List.getElem?_append_left (by simpa using hj)] at hc
     have:=h0.2 j c (by simpa using hc)
     simpa using this
    ·rw [List.getElem?_append_right (by simp;omega)] at hc
     have:=ih.2 (j-e.cells.toList.length) c hc
     simp only [Array.length_toList,h0.1] at this
     rw [show ao+sz+(j-sz)=ao+j from by omega] at this
     exact this
 unfold shows at hv
 split at hv
 ·rename_i m es
  split at hv
  ·rename_i hm;subst hm
   refine ⟨_,hv,fun B S ρ w x' hh hx=>?_⟩
   obtain ⟨a,cap,evs,rfl,k1,k2,k3⟩:=hx
   rcases k3 with rfl | ⟨⟨ab,ao,asp⟩,rfl,k4,k5,k6⟩
   ·exact ⟨a,cap,[],rfl,k1,k2,fun e=>(by cases e),fun e he=>(by cases he),.inl rfl⟩
   ·simp at k4;subst k4
    obtain ⟨m1,m2⟩:=mem w ab ao evs k6
    exact ⟨_,cap,evs,rfl,k1,k2,fun e=>(by cases e),m1,.inr ⟨ab,ao,rfl,m2⟩⟩
  ·exact hv.elim
 ·refine ⟨_,hv,fun B S ρ w x' hh hx=>?_⟩
  obtain ⟨a,rfl⟩:=hx
  exact ⟨a,0,[],rfl,Nat.le_refl _,rfl,fun e=>(by cases e),fun e he=>(by cases he),.inl rfl⟩
 ·rename_i b g m off n
  split at hv
  ·rename_i hm;subst hm
   split at hv
   ·rename_i g' mm es hb
    obtain ⟨hc,hv⟩:=hv
    obtain ⟨rfl,hc⟩:=hc ()
    refine ⟨_,hv,fun B S ρ w x' hh hx=>?_⟩
    obtain ⟨l,loc,a,cap,hl,c1,c2,c3,c4,rfl,c6,c7,c8⟩:=hx
    cases hl
    obtain ⟨_,d2,d3,evs,d4,d5,d6⟩:=hh.blk b _ loc hb c1
    have d4':=(RL_iff _ _ _ _).1 d4
    have hlen:evs.length=(es ()).l.length:=Rs_len d4'
    have hlt:((evs.drop (off ())).take (n ())).length=n ():=by simp;omega
    refine ⟨a,cap,(evs.drop (off ())).take (n ()),by rw [hlt],by rw [hlt];exact c6,?_,fun _ e he=>d5 e (List.mem_of_mem_drop (List.mem_of_mem_take he)),?_⟩
    ·rw [RL_iff,LV.l_of];exact Rs_take (Rs_drop d4' _) _
    ·rcases d6 with ⟨_,rfl⟩ | ⟨K,c,ty,e1,e2,e3,e4,e5⟩
     ·simp
     ·by_cases hn:n ()=0
      ·simp [hn]
      ·rcases c8 d2 with ⟨f1,_⟩ | ⟨K',f1,f2,f3⟩
       ·rw [f1] at e1;cases e1
       ·rw [f1] at e1;cases e1
        rcases f2 with f2 | f2
        ·omega
        ·subst f2
         obtain ⟨m1,m2⟩:=mem w K (off () * loc.e) ((evs.drop (off ())).take (n ())) (fun i e he=>by
          rw [List.getElem?_take] at he
          split at he
          ·rw [List.getElem?_drop] at he
           obtain ⟨g1,g2⟩:=e5 _ _ he
           refine ⟨by rw [←c3];exact g1,fun j x hx=>?_⟩
           have:=g2 j x hx
           rw [cell_heap e2,←c3]
           rw [show off () * loc.e+(i * loc.e+j)=(off ()+i) * loc.e+j from by rw [Nat.add_mul];omega]
           exact this
          ·cases he)
         exact ⟨m1,.inr ⟨_,_,rfl,m2⟩⟩
   ·exact hv.elim
  ·exact hv.elim
 ·exact hv.elim
theorem run_firstCells' {sz:Nat} {a:Option Addr} {cap:Nat} {evs:List Value} {w:World} (h1:∀ e∈evs,e.cells.size=sz)
  (h:evs=[]∨∃ ab ao,a=some ⟨ab,ao,none⟩∧∀ (j:Nat) (c:Value),(flat evs)[j]?=some c→w.cell? ⟨ab,ao+j,none⟩=some c) (n:Nat) (hn:n≤evs.length) :
  (Builtin.firstCells sz n (.slice a evs.length cap)).run P w=.ok (flat (evs.take n)).toArray w:=by
 have hz:(n=0∨∃ ab ao,a=some ⟨ab,ao,none⟩∧∀ (j:Nat) (c:Value),(flat evs)[j]?=some c→w.cell? ⟨ab,ao+j,none⟩=some c):=by
  rcases h with rfl | h
  ·left;simpa using hn
  ·exact .inr h
 cases a with
 | none=>
  rcases hz with rfl | ⟨_,_,e,_⟩
  ·simp [Builtin.firstCells,flat]
  ·cases e
 | some a=>
  simp only [Builtin.firstCells]
  have hl:(flat (evs.take n)).length=n * sz:=by rw [flat_length (sz:=sz) fun x hx=>h1 x (List.mem_of_mem_take hx)];simp [Nat.min_eq_left hn]
  rcases hz with rfl | ⟨ab,ao,e,hm⟩
  ·simp [loadCells,loadCellsFrom,flat]
  ·cases e
   rw [←hl]
   refine run_loadCells' ab ao w _ fun j c hc=>hm j c ?_
   rw [←flat_take h1 n hn,List.getElem?_take] at hc
   split at hc
   ·exact hc
   ·cases hc
end
end Go.AL
namespace Go.AL
open Go Go.RowKit
section
variable {P:Program} {γ:Nat→Option AV}
theorem notOther {t:TypeId} (h:(tiOf P t).k.isOther=false):(tiOf P t).k≠.other:=by intro e;rw [e] at h;cases h
def EPost (γ:Nat→Option AV) (B:Nat) (S:Nat→Prop) (ρ:List Loc) (w:World) (r:Result Value) (v:AV) (h':List Blk):Prop:=
 ∃ v' ρ' w',r=.ok v' w'∧Ext B S ρ w S ρ' w'∧HeapR B S γ ρ' h' w'∧R S w' (some ρ') v v'
theorem run_alloc {t:TypeId} {z:AV} {h:List Blk} (ho:(tiOf P t).k.isOther=false) (hz:(tiOf P t).zero=some z) (hf:z.flat=true) {B:Nat} {S:Nat→Prop} {ρ:List Loc} {w:World} (hh:HeapR B S γ ρ h w) :
  EPost γ B S ρ w ((Instr.alloc t true (.tuple #[])).run P w) (.ptr h.length 0) (h++[.box z]):=by
 obtain ⟨d,i,h1,h2,h3⟩:=tk_other (notOther ho)
 obtain ⟨zv,hzv,rfl⟩:∃ zv,i.zero=some zv∧z=ofV zv:=by
  rw [h3] at hz
  cases hx:i.zero with
  | none=>simp [hx] at hz
  | some zv=>exact ⟨zv,rfl,by simpa [hx] using hz.symm⟩
 obtain ⟨ρ',k1,k2,k3⟩:=hh.box (R_ofV zv) hf t
 exact ⟨_,ρ',_,by simp [Instr.alloc,run_zeroValue h2 hzv,newVar,newRow],k2,k1,k3⟩
theorem run_box {t:TypeId} {x:AV} {x':Value} {h:List Blk} (hf:x.flat=true) {B:Nat} {S:Nat→Prop} {ρ:List Loc} {w:World} (hh:HeapR B S γ ρ h w) (hx:R S w (some ρ) x x') :
  EPost γ B S ρ w ((Instr.box t x').run P w) (.ptr h.length 0) (h++[.box x]):=by
 obtain ⟨ρ',k1,k2,k3⟩:=hh.box hx hf t
 exact ⟨_,ρ',_,by simp [Instr.box,newVar,newRow],k2,k1,k3⟩
theorem list_set_self {α:Type} {l:List α} {b:Nat} {x:α} (h:l[b]?=some x):l.set b x=l:=by
 obtain ⟨h1,rfl⟩:=List.getElem?_eq_some_iff.1 h
 simp
theorem run_vstore {t:TypeId} {h:List Blk} {p v:AV} {k:List Blk→Prop} (hv:vstore (tiOf P t) h p v k) :
  ∃ h',k h'∧∀ B S ρ w p' v',HeapR B S γ ρ h w→R S w (some ρ) p p'→R S w (some ρ) v v'→∃ ρ' w',(Instr.storeAt t p' v').run P w=.ok () w'∧Ext B S ρ w S ρ' w'∧HeapR B S γ ρ' h' w':=by
 unfold vstore at hv
 split at hv
 ·rename_i hsz
  obtain ⟨ho,hsz⟩:=hsz
  obtain ⟨d,i,h1,h2,h3⟩:=tk_other (notOther ho)
  have his:i.size=v.cells.length:=by rw [h3] at hsz;exact hsz.symm
  have run:∀ (S:Nat→Prop) (ρ:List Loc) (w:World) (v':Value) (K off:Nat) (c:Array Value) (ty:TypeId),R S w (some ρ) v v'→v.flat=true→w.heap[K]?=some (.cells c ty (0,0))→off+v'.cells.size≤c.size →
    (Instr.storeAt t (.pointer (some ⟨K,off,none⟩)) v').run P w=.ok () (w.setRow K (c.toList.take off++v'.cells.toList++c.toList.drop (off+v'.cells.size)).toArray):=by
   intro S ρ w v' K off c ty hr hf hg hle
   obtain ⟨hc,hone⟩:=R_cells hr hf
   have hl:v'.cells.size=v.cells.length:=by have:=Rs_len hc;simpa using this
   have hst:=run_storeCells_at P K off ty v'.cells.toList 0 c w hg (by simp;omega) hone
   simp only [Nat.add_zero,Array.length_toList] at hst
   simp only [Instr.storeAt,Instr.sureAddr,storeVar,Sem.run_bind,Sem.run_pure,Result.andThen_ok,run_sizeOf h2]
   rw [if_neg (by omega)]
   exact hst
  split at hv
  ·rename_i b off
   split at hv
   ·rename_i e hb
    split at hv
    ·rename_i hf
     refine ⟨_,hv,fun B S ρ w p' v' hh hp hr=>?_⟩
     obtain ⟨l,loc,K,hl,k1,k2,k3,rfl⟩:=hp
     cases hl
     obtain ⟨_,K',ty,ev,m1,m2,m3,m4⟩:=hh.blk b _ loc hb k1
     rw [k3] at m1;cases m1
     obtain ⟨u1,u2,u3⟩:=R_upd m3 hr hf.1
     have hfl:v.flat=true:=by have:=hf.1;simp only [AV.fits,Bool.and_eq_true] at this;exact this.1.1.1
     have hrun:=run S ρ w v' K off ev.cells ty hr hfl m2 u3
     rw [←u2,Array.toArray_toList] at hrun
     have hup:=hh.upd (loc':=loc) (blk':=.box (e.upd off v)) (w':=w.setRow K (updV ev off v').cells) k1 (Loc.up_refl _) (fun K' hK'=>.inl hK') (Fr.setRow w K _ _ ty m2)
      (fun j hj hne=>setRow_other w K j _ fun e=>hne (by rw [e];exact k3)) (by
       rw [list_set_self k1]
       have hS:SameOn S w (w.setRow K (updV ev off v').cells):=fun j hj=>setRow_other w K j _ fun e=>(hh.own b loc K k1 (.inl k3)).1 (e ▸ hj)
       exact ⟨k2,K,ty,updV ev off v',k3,setRow_heap w K _ _ ty _ m2,R.mono (fun _ h=>h) hS (Up.refl (some ρ)) _ _ u1,hf.2⟩)
     rw [list_set_self k1] at hup
     exact ⟨ρ,_,hrun,hup.2,hup.1⟩
    ·exact hv.elim
   ·exact hv.elim
  ·rename_i b g j off
   split at hv
   ·rename_i g' m es hb
    split at hv
    ·rename_i hcl
     obtain ⟨hc,hv⟩:=hv
     obtain ⟨rfl,hj,hf⟩:=hc ()
     refine ⟨_,hv,fun B S ρ w p' v' hh hp hr=>?_⟩
     obtain ⟨l,loc,ab,ao,hl,k1,k2,k3,rfl,k4⟩:=hp
     cases hl
     obtain ⟨_,d2,d3,evs,d4,d5,d6⟩:=hh.blk b _ loc hb k1
     obtain ⟨k5,rfl,k6⟩:=k4 d2
     have d4':=(RL_iff _ _ _ _).1 d4
     have hlen:evs.length=(es ()).l.length:=Rs_len d4'
     obtain ⟨ev,hev,hre⟩:=Rs_get d4' (getElem?_getD hj)
     rcases d6 with ⟨_,rfl⟩ | ⟨K,c,ty,e1,e2,e3,e4,e5⟩
     ·simp at hev
     ·rw [k5] at e1;cases e1
      have hr0:=closed_R v v' hcl hr
      obtain ⟨u1,u2,u3⟩:=R_upd hre hr0 hf
      have hfl:v.flat=true:=by have:=hf;simp only [AV.fits,Bool.and_eq_true] at this;exact this.1.1.1
      obtain ⟨hvc,hone⟩:=R_cells hr hfl
      have hevs:=(e5 _ _ hev).1
      have hjl:j ()<evs.length:=(List.getElem?_eq_some_iff.1 hev).1
      have hle:(j ()+1) * loc.e≤evs.length * loc.e:=Nat.mul_le_mul_right _ hjl
      rw [Nat.add_mul,Nat.one_mul] at hle
      have hrun:=run S ρ w v' ab (j () * loc.e+off) c ty hr hfl e2 (by omega)
      generalize hc':(c.toList.take (j () * loc.e+off)++v'.cells.toList++c.toList.drop (j () * loc.e+off+v'.cells.size)).toArray=c' at hrun
      have hcsz:c'.size=c.size:=by rw [←hc'];simp;omega
      have hcget:∀ x:Nat,c'[x]?=if x<j () * loc.e+off then c[x]? else if x<j () * loc.e+off+v'.cells.size then v'.cells[x-(j () * loc.e+off)]? else c[x]?:=by
       intro x
       rw [←hc']
       simp only [List.getElem?_toArray,List.getElem?_append,List.length_append,List.length_take,Array.length_toList]
       have hmin:min (j () * loc.e+off) c.size=j () * loc.e+off:=by omega
       rw [hmin]
       by_cases h1:x<j () * loc.e+off
       ·rw [if_pos (by omega),if_pos h1,if_pos h1];rw [List.getElem?_take,if_pos h1];simp
       ·by_cases h2:x<j () * loc.e+off+v'.cells.size
        ·rw [if_pos h2,if_neg h1,if_neg h1,if_pos h2];simp
        ·rw [if_neg h2,if_neg h1,if_neg h2,List.getElem?_drop]
         rw [show j () * loc.e+off+v'.cells.size+(x-(j () * loc.e+off+v'.cells.size))=x from by omega];simp
      have huc:∀ x:Nat,(updV ev off v').cells[x]?=if x<off then ev.cells[x]? else if x<off+v'.cells.size then v'.cells[x-off]? else ev.cells[x]?:=by
       intro x
       have:(updV ev off v').cells[x]?=(updV ev off v').cells.toList[x]?:=by simp
       rw [this,u2]
       simp only [List.getElem?_append,List.length_append,List.length_take,Array.length_toList]
       have hmin:min off ev.cells.size=off:=by omega
       rw [hmin]
       by_cases h1:x<off
       ·rw [if_pos (by omega),if_pos h1,if_pos h1,List.getElem?_take,if_pos h1];simp
       ·by_cases h2:x<off+v'.cells.size
        ·rw [if_pos h2,if_neg h1,if_neg h1,if_pos h2];simp
        ·rw [if_neg h2,if_neg h1,if_neg h2,List.getElem?_drop]
         rw [show off+v'.cells.size+(x-(off+v'.cells.size))=x from by omega];simp
      have husz:(updV ev off v').cells.size=loc.e:=by
       have:(updV ev off v').cells.size=(updV ev off v').cells.toList.length:=by simp
       rw [this,u2];simp;omega
      have hup:=hh.upd (loc':=loc) (blk':=.run g' m fun _=>LV.of ((es ()).l.set (j ()) (((es ()).l.getD (j ()) .any).upd off v))) (w':=w.setRow ab c') k1 (Loc.up_refl _) (fun K' hK'=>.inl hK') (Fr.setRow w ab _ _ ty e2)
       (fun x hx hne=>setRow_other w ab x _ fun e=>hne (by rw [e];exact k5)) (by
        rw [list_set_self k1]
        have hS:SameOn S w (w.setRow ab c'):=fun x hx=>setRow_other w ab x _ fun e=>(hh.own b loc ab k1 (.inl k5)).1 (e ▸ hx)
        refine ⟨k2,d2,d3,evs.set (j ()) (updV ev off v'),?_,?_,.inr ⟨ab,c',ty,k5,setRow_heap w ab _ _ ty _ e2,by rw [hcsz];exact e3,by simpa using e4,fun x e he=>?_⟩⟩
        ·rw [RL_iff,LV.l_of]
         exact Rs.mono (fun _ h=>h) hS (ρ:=none) (ρ':=none) trivial _ _ (Rs_set d4' _ u1)
        ·intro e he u hu
         rcases List.mem_or_eq_of_mem_set he with he | rfl
         ·exact d5 e he u hu
         ·rw [u2] at hu
          simp only [List.mem_append] at hu
          rcases hu with (hu | hu) | hu
          ·exact d5 ev (List.mem_of_getElem? hev) u (List.mem_of_mem_take hu)
          ·exact hone u hu
          ·exact d5 ev (List.mem_of_getElem? hev) u (List.mem_of_mem_drop hu)
        ·by_cases hxj:j ()=x
         ·subst hxj
          rw [List.getElem?_set_self hjl] at he;cases he
          refine ⟨husz,fun y u hy=>?_⟩
          have hylt:y<loc.e:=by rw [←husz];exact (Array.getElem?_eq_some_iff.1 hy).1
          rw [huc] at hy
          rw [hcget]
          by_cases h1:y<off
          ·rw [if_pos h1] at hy;rw [if_pos (by omega)];exact (e5 _ _ hev).2 y u hy
          ·rw [if_neg h1] at hy
           by_cases h2:y<off+v'.cells.size
           ·rw [if_pos h2] at hy;rw [if_neg (by omega),if_pos (by omega)]
            rw [show j () * loc.e+y-(j () * loc.e+off)=y-off from by omega];exact hy
           ·rw [if_neg h2] at hy;rw [if_neg (by omega),if_neg (by omega)];exact (e5 _ _ hev).2 y u hy
         ·rw [List.getElem?_set_ne hxj] at he
          obtain ⟨f1,f2⟩:=e5 x e he
          refine ⟨f1,fun y u hy=>?_⟩
          have hylt:y<loc.e:=by rw [←f1];exact (Array.getElem?_eq_some_iff.1 hy).1
          rw [hcget]
          rcases Nat.lt_or_gt_of_ne hxj with hlt | hgt
          ·have:(j ()+1) * loc.e≤x * loc.e:=Nat.mul_le_mul_right _ hlt
           rw [Nat.add_mul,Nat.one_mul] at this
           rw [if_neg (by omega),if_neg (by omega)];exact f2 y u hy
          ·have:(x+1) * loc.e≤j () * loc.e:=Nat.mul_le_mul_right _ hgt
           rw [Nat.add_mul,Nat.one_mul] at this
           rw [if_pos (by omega)];exact f2 y u hy)
      rw [list_set_self k1] at hup
      exact ⟨ρ,_,hrun,hup.2,hup.1⟩
    ·exact hv.elim
   ·rename_i g' q ess hole hb
    split at hv
    ·rename_i jj x0
     cases off with
     | succ _=>exact hv.elim
     | zero=>
     replace hv:if v.one=true then (∀ _:Unit,g'=g∧j ()=jj ()∧jj ()<(ess ()).length)∧k (h.set b (.nest g' q ess (some (jj,v)))) else False:=hv
     split at hv
     ·rename_i hone
      obtain ⟨hc,hv⟩:=hv
      obtain ⟨rfl,hj,hjl⟩:=hc ()
      refine ⟨_,hv,fun B S ρ w p' v' hh hp hr=>?_⟩
      obtain ⟨l,loc,ab,ao,hl,k1,k2,k3,rfl,k4⟩:=hp
      cases hl
      obtain ⟨d1,d2,d3,evs,d4,d5,d6,d7⟩:=hh.blk b _ loc hb k1
      obtain ⟨k5,rfl,k6⟩:=k4 d2
      have hv1:=R_one hr hone
      have hvc:=cells_of_one hv1
      have hfl:v.flat=true:=by cases v<;>first | (simp [AV.one] at hone;done) | (simp only [AV.flat,AV.cells,List.all_cons,List.all_nil,Bool.and_true];exact hone)
      have hjv:jj ()<evs.length:=by omega
      rcases d4 with ⟨e1,_⟩ | ⟨K,c,ty,e1,e2,e3,e4,e5⟩
      ·rw [k5] at e1;cases e1
      ·rw [k5] at e1;cases e1
       have hrun:=run S ρ w v' ab (j () * loc.e+0) c ty hr hfl e2 (by rw [hvc,d3,hj];simp;omega)
       rw [d3,hj,hvc,Nat.mul_one,Nat.add_zero] at hrun
       generalize hc':(c.toList.take (jj ())++(#[v']:Array Value).toList++c.toList.drop (jj ()+(#[v']:Array Value).size)).toArray=c' at hrun
       have hcsz:c'.size=c.size:=by rw [←hc'];simp;omega
       have hcget:∀ x:Nat,c'[x]?=if x=jj () then some v' else c[x]?:=by
        intro x
        rw [←hc']
        simp only [List.getElem?_toArray,List.getElem?_append,List.length_append,List.length_take,Array.length_toList]
        have hmin:min (jj ()) c.size=jj ():=by omega
        rw [hmin]
        by_cases h1:x<jj ()
        ·rw [if_pos (by simp;omega),if_pos h1,if_neg (by omega),List.getElem?_take,if_pos h1];simp
        ·by_cases h2:x=jj ()
         ·rw [if_pos (by simp;omega),if_neg h1,if_pos h2];simp [h2]
         ·rw [if_neg (by simp;omega),if_neg h2,List.getElem?_drop]
          simp only [List.size_toArray,List.length_cons,List.length_nil]
          rw [show jj ()+(0+1)+(x-(jj ()+(0+1)))=x from by omega];simp
       have hS:SameOn S w (w.setRow ab c'):=fun x hx=>setRow_other w ab x _ fun e=>(hh.own b loc ab k1 (.inl k5)).1 (e ▸ hx)
       have hup:=hh.upd (loc':=loc) (blk':=.nest g' q ess (some (jj,v))) (w':=w.setRow ab c') k1 (Loc.up_refl _) (fun K' hK'=>.inl hK') (Fr.setRow w ab _ _ ty e2)
        (fun x hx hne=>setRow_other w ab x _ fun e=>hne (by rw [e];exact k5)) (by
         rw [list_set_self k1]
         refine ⟨d1,d2,d3,evs.set (jj ()) v',.inr ⟨ab,c',ty,k5,setRow_heap w ab _ _ ty _ e2,by rw [hcsz];exact e3,by simpa using e4,fun x e he=>?_⟩,by simpa using d5,by simpa using d6,fun p es u s g1 g2 g3=>?_⟩
         ·rw [hcget]
          by_cases hx:x=jj ()
          ·subst hx
           rw [List.getElem?_set_self hjv] at he;cases he
           rw [if_pos rfl]
          ·rw [List.getElem?_set_ne (fun e=>hx e.symm)] at he
           rw [if_neg hx];exact e5 x e he
         ·by_cases hx:p=jj ()
          ·subst hx
           rw [List.getElem?_set_self hjv] at g2;cases g2
           rcases d7 (jj ()) es _ s g1 (List.getElem?_eq_getElem hjv) g3 with ⟨_,z2,_⟩ | ⟨z1,_⟩
           ·exact .inl ⟨rfl,z2,R.mono (fun _ h=>h) hS (Up.refl (some ρ)) _ _ hr,hv1⟩
           ·exact absurd rfl z1
          ·rw [List.getElem?_set_ne (fun e=>hx e.symm)] at g2
           rcases d7 p es u s g1 g2 g3 with ⟨z1,_⟩ | ⟨_,z2⟩
           ·exact absurd z1 hx
           ·obtain ⟨a,cap,ievs,r1,r2,r3,r4,r5,r6⟩:=z2
            refine .inr ⟨hx,a,cap,ievs,r1,r2,r3,RL.mono (fun _ h=>h) hS _ _ r4,r5,?_⟩
            rcases r6 with r6 | ⟨K,cc,cty,s1,s2,s3,s4,s5⟩
            ·exact .inl r6
            ·refine .inr ⟨K,cc,cty,s1,s2,s3,(setRow_other w ab K _ fun e=>?_).trans s4,s5⟩
             exact (hh.sok b loc k1).out K (by rw [←s1];exact List.mem_of_getElem? g3) (by rw [e];exact k5))
       rw [list_set_self k1] at hup
       refine ⟨ρ,_,?_,hup.2,hup.1⟩
       rw [d3,hj,Nat.mul_one];exact hrun
     ·exact hv.elim
    ·cases off with
     | succ _=>exact hv.elim
     | zero=>
     replace hv:if v.one=true then (∀ _:Unit,g'=g∧j ()=(ess ()).length)∧k (h.set b (.nest g' q (fun _=>ess ()++[.nil]) (some (fun _=>(ess ()).length,v)))) else False:=hv
     split at hv
     ·rename_i hone
      obtain ⟨hc,hv⟩:=hv
      obtain ⟨rfl,hj⟩:=hc ()
      refine ⟨_,hv,fun B S ρ w p' v' hh hp hr=>?_⟩
      obtain ⟨l,loc,ab,ao,hl,k1,k2,k3,rfl,k4⟩:=hp
      cases hl
      obtain ⟨d1,d2,d3,evs,d4,d5,d6,d7⟩:=hh.blk b _ loc hb k1
      obtain ⟨k5,rfl,k6⟩:=k4 d2
      have hv1:=R_one hr hone
      have hvc:=cells_of_one hv1
      have hfl:v.flat=true:=by cases v<;>first | (simp [AV.one] at hone;done) | (simp only [AV.flat,AV.cells,List.all_cons,List.all_nil,Bool.and_true];exact hone)
      have hblt:b<ρ.length:=(List.getElem?_eq_some_iff.1 k1).1
      rw [d3,Nat.mul_one] at k6
      have hjj:j ()=evs.length:=by omega
      rcases d4 with ⟨e1,_⟩ | ⟨K,c,ty,e1,e2,e3,e4,e5⟩
      ·rw [k5] at e1;cases e1
      ·rw [k5] at e1;cases e1
       have hrun:=run S ρ w v' ab (j () * loc.e+0) c ty hr hfl e2 (by rw [hvc,d3];simp;omega)
       rw [d3,hjj,hvc,Nat.mul_one,Nat.add_zero] at hrun
       generalize hc':(c.toList.take evs.length++(#[v']:Array Value).toList++c.toList.drop (evs.length+(#[v']:Array Value).size)).toArray=c' at hrun
       have hcsz:c'.size=c.size:=by rw [←hc'];simp;omega
       have hcget:∀ x:Nat,c'[x]?=if x=evs.length then some v' else c[x]?:=by
        intro x
        rw [←hc']
        simp only [List.getElem?_toArray,List.getElem?_append,List.length_append,List.length_take,Array.length_toList]
        have hmin:min evs.length c.size=evs.length:=by omega
        rw [hmin]
        by_cases h1:x<evs.length
        ·rw [if_pos (by simp;omega),if_pos h1,if_neg (by omega),List.getElem?_take,if_pos h1];simp
        ·by_cases h2:x=evs.length
         ·rw [if_pos (by simp;omega),if_neg h1,if_pos h2];simp [h2]
         ·rw [if_neg (by simp;omega),if_neg h2,List.getElem?_drop]
          simp only [List.size_toArray,List.length_cons,List.length_nil]
          rw [show evs.length+(0+1)+(x-(evs.length+(0+1)))=x from by omega];simp
       have hS:SameOn S w (w.setRow ab c'):=fun x hx=>setRow_other w ab x _ fun e=>(hh.own b loc ab k1 (.inl k5)).1 (e ▸ hx)
       have hlup:loc.up { loc with sub:=loc.sub++[none] }:=.inl ⟨_,rfl⟩
       have hlocs:LocsUp ρ (ρ.set b { loc with sub:=loc.sub++[none] }):=by
        intro i l hl
        by_cases e:b=i
        ·subst e;rw [k1] at hl;cases hl
         exact ⟨_,by simp [hblt],hlup⟩
        ·exact ⟨l,by rw [List.getElem?_set_ne e];exact hl,l.up_refl⟩
       have hup:=hh.updS (loc':={ loc with sub:=loc.sub++[none] }) (blk':=.nest g' q (fun _=>ess ()++[LV.nil]) (some (fun _=>(ess ()).length,v))) (w':=w.setRow ab c') k1 hlup (fun K' hK'=>.inl (Loc.has_sub (l:=loc) (l':={ loc with sub:=loc.sub++[none] }) rfl rfl hK')) (Fr.setRow w ab _ _ ty e2)
        (fun x hx hne=>setRow_other w ab x _ fun e=>hne (by rw [e];exact k5))
        ⟨d1,d2,d3,evs++[v'],.inr ⟨ab,c',ty,k5,setRow_heap w ab _ _ ty _ e2,by rw [hcsz];exact e3,by
         rw [List.length_append];simp only [List.length_cons,List.length_nil];show evs.length+(0+1)≤loc.size;omega,fun x e he=>by
         rw [hcget]
         by_cases hx:x=evs.length
         ·subst hx
          rw [List.getElem?_append_right (by omega)] at he
          simp at he;subst he
          rw [if_pos rfl]
         ·have hxl:=(List.getElem?_eq_some_iff.1 he).1
          simp at hxl
          rw [List.getElem?_append_left (by omega)] at he
          rw [if_neg hx];exact e5 x e he⟩,by simp;omega,by simp;omega,fun p es u s g1 g2 g3=>by
         by_cases hp:p<evs.length
         ·rw [List.getElem?_append_left (by omega)] at g1
          rw [List.getElem?_append_left hp] at g2
          rw [List.getElem?_append_left (by omega)] at g3
          have hin:InR S w q es u s:=d7 p es u s g1 g2 g3
          exact .inr ⟨by show p≠(ess ()).length;omega,hin.mono (fun _ h=>h) hS fun K e=>setRow_other w ab K _ fun e'=>(hh.sok b loc k1).out K (by rw [←e];exact List.mem_of_getElem? g3) (by rw [e'];exact k5)⟩
         ·have hpl:p=evs.length:=by have:=(List.getElem?_eq_some_iff.1 g2).1;simp at this;omega
          subst hpl
          rw [List.getElem?_append_right (by omega)] at g2 g3
          rw [show evs.length-evs.length=0 by omega] at g2
          rw [show evs.length-loc.sub.length=0 by omega] at g3
          simp at g2 g3
          subst g2;subst g3
          exact .inl ⟨by show evs.length=(ess ()).length;omega,rfl,R.mono (fun _ h=>h) hS (ρ:=some ρ) (ρ':=some (ρ.set b { loc with sub:=loc.sub++[none] })) hlocs _ _ hr,hv1⟩⟩
        ((hh.sok b loc k1).app rfl (hh.sok b loc k1).out)
       refine ⟨_,_,?_,hup.2,hup.1⟩
       rw [d3,hjj,Nat.mul_one];exact hrun
     ·exact hv.elim
   ·exact hv.elim
  ·exact hv.elim
 ·exact hv.elim
end
end Go.AL
namespace Go.AL
open Go Go.RowKit
section
variable {P:Program} {γ:Nat→Option AV}
theorem toI_R {x:AV} {n:Unit→Int} (h:toI x=some n) {S:Nat→Prop} {w:World} {ρ:Option (List Loc)} {v:Value} (hr:R S w ρ x v):v=.int .i64 (n ()):=by
 cases x<;>simp [toI] at h<;>subst h<;>exact hr
theorem i64_in' (n:Int) (h:0≤n∧n≤4611686018427387904):IntKind.i64.wrap n=n:=IntWalk.i64_in n ⟨by omega,by omega⟩
theorem ofV_closed_R0 {S:Nat→Prop} {w:World} (z:Value):R S w none (ofV z) z:=R_ofV z
theorem run_vmakeSlice {t:TypeId} {cs:List CK} {h:List Blk} {n m:AV} {k:AV→List Blk→Prop} (hv:vmakeSlice (tiOf P t).k cs h n m k) :
  ∃ v h',k v h'∧∀ B S ρ w n' m',HeapR B S γ ρ h w→R S w (some ρ) n n'→R S w (some ρ) m m'→EPost γ B S ρ w ((Instr.makeSlice t n' m').run P w) v h':=by
 unfold vmakeSlice at hv
 split at hv
 ·rename_i e sz bytes z hk
  obtain ⟨h1,i,h2,h3,h4,h5⟩:=tk_slice hk
  obtain ⟨zv,hzv,rfl⟩:∃ zv,i.zero=some zv∧z=ofV zv:=by
   cases hx:i.zero with
   | none=>simp [hx] at h5
   | some zv=>exact ⟨zv,rfl,by simpa [hx] using h5.symm⟩
  split at hv
  ·rename_i hz0
   simp only [Bool.and_eq_true,beq_iff_eq,decide_eq_true_eq] at hz0
   obtain ⟨⟨⟨hz1,hz2⟩,hz3⟩,hz4⟩:=hz0
   split at hv
   ·rename_i n0 hn
    split at hv
    ·rename_i m0 hm
     obtain ⟨hc,hv⟩:=hv
     have hc:=hc ()
     have hv':∃ ez,(∀ (S:Nat→Prop) (w:World),R S w none ez zv)∧k (.sl h.length 0 sz (fun _=>0) fun _=>(n0 ()).toNat) (h++[.run 0 sz fun _=>LV.of (List.replicate (n0 ()).toNat ez)]):=by
      split at hv
      ·rename_i he
       exact ⟨.nils,fun S w=>by rw [←he];exact R_ofV zv,hv⟩
      ·exact ⟨_,fun S w=>R_nrm cs (R_ofV zv),hv⟩
     clear hv
     obtain ⟨ez,hez,hv⟩:=hv'
     refine ⟨_,_,hv,fun B S ρ w n' m' hh hn' hm'=>?_⟩
     have en:=toI_R hn hn';have em:=toI_R hm hm'
     subst en;subst em
     obtain ⟨nn,hnn⟩:∃ nn:Nat,n0 ()=nn:=⟨(n0 ()).toNat,by omega⟩
     obtain ⟨mm,hmm⟩:∃ mm:Nat,m0 ()=mm:=⟨(m0 ()).toNat,by omega⟩
     rw [hnn,hmm] at hc ⊢
     have hzc:zv.cells.size=sz:=by
      have:=Rs_len (Rs_ofV (S:=fun _=>True) (w:=default) (ρ:=none) zv)
      simpa [hz3] using this
     have hrepM:∀ e∈List.replicate mm zv,e.cells.size=sz:=fun e he=>by rw [List.eq_of_mem_replicate he];exact hzc
     have hbytes:¬ ((mm:Int)<0)∧¬ ((bytes:Int) * (mm:Int) > 2 ^ 48):=⟨by omega,by have:=hc.2.2.2;omega⟩
     have hrow:(Instr.makeSlice t (.int .i64 (nn:Int)) (.int .i64 (mm:Int))).run P w=.ok (.slice (some ⟨w.heap.size,0,none⟩) nn mm) (w.alloc (.cells (flat (List.replicate mm zv)).toArray e)):=by
      have e1:IntKind.i64.wrap (nn:Int)=nn:=i64_in' _ ⟨by omega,by omega⟩
      have e2:IntKind.i64.wrap (mm:Int)=mm:=i64_in' _ ⟨by omega,by omega⟩
      have hno:¬ (((mm:Int)<0∨((2:Int) ^ 48<(i.bytes:Int) * (mm:Int)))∨(nn:Int)<0∨(mm:Int)<(nn:Int)):=by
       rw [h4];omega
      simp only [Instr.makeSlice,Sem.run_bind,run_underlying h1,Result.andThen_ok,asInt,asIntOf,Sem.run_pure,run_typeInfo h2,e1,e2]
      rw [if_neg (by simp only [gt_iff_lt,Bool.or_eq_true,decide_eq_true_eq];rw [h4];omega)]
      simp only [Sem.run_bind,run_askRoom,Result.andThen_ok,run_sizeOf h2,Int.toNat_natCast]
      by_cases hm0:mm * i.size=0
      ·have hmz:mm=0:=by rcases Nat.mul_eq_zero.1 hm0 with h | h<;>omega
       subst hmz
       simp [newRow,flat,Array.range_zero']
      ·simp only [hm0,if_false,Sem.run_bind,run_zeroValue h2 hzv,Result.andThen_ok,Sem.run_pure]
       have hz:((Array.range (mm * i.size)).map fun x=>zv.cells[x % zv.cells.size]!)=(flat (List.replicate mm zv)).toArray:=by
        rw [flat_replicate,←range_mod zv.cells sz hzc mm,h3]
        rw [←List.map_toArray]
        congr 1
        exact Array.ext (by simp) (by intro j h1 h2;simp)
       rw [hz]
       simp [newRow]
     have hlen:(flat (List.replicate mm zv)).toArray.size=mm * sz:=by
      have:=flat_length hrepM;simpa using this
     have hS:SameOn S w (w.alloc (.cells (flat (List.replicate mm zv)).toArray e)):=fun j hj=>Below.heap_alloc w _ j (hh.sle j hj)
     obtain ⟨p1,p2⟩:=hh.push (.cells (flat (List.replicate mm zv)).toArray e) (by intro _ _ _ _ e;cases e;exact ⟨rfl,rfl⟩) ⟨false,0,some w.heap.size,sz,mm * sz,[]⟩ (.inl rfl) (.run 0 sz fun _=>LV.of (List.replicate (nn:Int).toNat ez))
      ⟨rfl,rfl,rfl,List.replicate nn zv,by
       rw [RL_iff,LV.l_of];exact Rs_replicate (hez _ _) nn,fun e he u hu=>by
        rw [List.eq_of_mem_replicate he] at hu
        exact (R_cells (ofV_closed_R0 (S:=S) (w:=w) zv) hz2).2 u hu,.inr ⟨w.heap.size,_,e,rfl,heap_alloc_new w _,hlen,by simp only [List.length_replicate];exact Nat.mul_le_mul_right _ (by omega),fun x ev hx=>by
         have hx':=List.eq_of_mem_replicate (List.mem_of_getElem? hx)
         subst hx'
         have hxl:x<nn:=by have:=(List.getElem?_eq_some_iff.1 hx).1;simpa using this
         refine ⟨hzc,fun y u hy=>?_⟩
         have:=flat_get hrepM (i:=x) (ev:=ev) (by rw [List.getElem?_replicate,if_pos (by omega)]) hy
         simpa using this⟩⟩
     refine ⟨_,_,_,hrow,p2,p1,?_⟩
     refine ⟨_,_,_,mm,rfl,by rw [←hh.len];exact getElem?_concat _ _,rfl,rfl,Nat.le_refl _,by simp;exact ⟨rfl,rfl⟩,by simp;omega,.inr ⟨_,_,rfl⟩,fun _=>.inr ⟨w.heap.size,rfl,.inr (by simp),by simp⟩⟩
    ·exact hv.elim
   ·exact hv.elim
  ·exact hv.elim
 ·exact hv.elim
end
end Go.AL
namespace Go.AL
open Go Go.RowKit
section
variable {P:Program} {γ:Nat→Option AV}
theorem Fr.drewAlloc (w:World) (c:Array Value) (ty:TypeId):Fr w (w.drew.alloc (.cells c ty)):=(Fr.drew w).trans (Fr.cells _ _ _)
theorem run_append_new {t u e ty:TypeId} {i:TypeInfo} {z:Value} (ht:P.underlying t=some (.slice e)) (hu:∃ e',P.underlying u=some (.slice e')) (hi:P.info? e=some i) (hz:i.zero=some z)
  (a b:Option Addr) (sLen sCap m c:Nat) (olds news:List Value) (w:World)
  (ho:(Builtin.firstCells i.size sLen (.slice a sLen sCap)).run P w.drew=.ok olds.toArray w.drew) (hn:(Builtin.firstCells i.size m (.slice b m c)).run P w.drew=.ok news.toArray w.drew)
  (hg:sCap<sLen+m) (h63:sLen+m≤4611686018427387904) (hb:(sLen+m) * i.bytes≤140737488355328) :
  (Builtin.append_ #[t,u] ty #[.slice a sLen sCap,.slice b m c]).run P w =
   .ok (.slice (some ⟨w.heap.size,0,none⟩) (sLen+m) (grownCap w (sLen+m) sCap e)) (w.drew.alloc (.cells (olds++news++(Builtin.zeroCells z.cells (grownCap w (sLen+m) sCap e-(sLen+m))).toList).toArray e)):=by
 obtain ⟨e',hu⟩:=hu
 have h1:¬ (sLen+m≤sCap):=by omega
 have h63':¬ (9223372036854775807<((sLen:Int)+(m:Int))):=by omega
 have hfit:=growslice_fits hg hb
 have h48':¬ (281474976710656<Builtin.nextslicecap (sLen+m) sCap * i.bytes):=by omega
 simp [Builtin.append_,run_underlying ht,run_underlying hu,sizeOf,typeInfo,zeroValue,hi,hz,Builtin.lenOf,h1,h63',h48',Question.forced,hn,ho,newRow,grownCap]
 congr 2
 apply Array.ext'
 simp [List.append_assoc]
theorem run_append_room' {t u e ty:TypeId} {i:TypeInfo} (ht:P.underlying t=some (.slice e)) (hu:∃ e',P.underlying u=some (.slice e')) (hi:P.info? e=some i)
  (g sLen sCap m c:Nat) (b:Option Addr) (cur:Array Value) (ct:TypeId) (news:List Value) (w:World) (hg:w.heap[g]?=some (.cells cur ct (0,0)))
  (hn:(Builtin.firstCells i.size m (.slice b m c)).run P w=.ok news.toArray w) (h1:∀ u∈news,u.oneCell'=true)
  (hroom:sLen+m≤sCap) (hfit:sLen * i.size+news.length≤cur.size) :
  (Builtin.append_ #[t,u] ty #[.slice (some ⟨g,0,none⟩) sLen sCap,.slice b m c]).run P w =
   .ok (.slice (some ⟨g,0,none⟩) (sLen+m) sCap) (w.setRow g (cur.toList.take (sLen * i.size)++news++cur.toList.drop (sLen * i.size+news.length)).toArray):=by
 obtain ⟨e',hu⟩:=hu
 have hst:=run_storeCells_at P g (sLen * i.size) ct news 0 cur w hg (by simpa using hfit) h1
 simp only [Nat.add_zero] at hst
 simp [Builtin.append_,run_underlying ht,run_underlying hu,sizeOf,typeInfo,hi,Builtin.lenOf,hroom,hn,Addr.add_lit,hst]
theorem run_append_nothing {t u e ty:TypeId} {i:TypeInfo} (ht:P.underlying t=some (.slice e)) (hu:∃ e',P.underlying u=some (.slice e')) (hi:P.info? e=some i)
  (a b:Option Addr) (sLen sCap c:Nat) (w:World) (hn:(Builtin.firstCells i.size 0 (.slice b 0 c)).run P w=.ok #[] w) (hroom:sLen≤sCap) :
  (Builtin.append_ #[t,u] ty #[.slice a sLen sCap,.slice b 0 c]).run P w=.ok (.slice a sLen sCap) w:=by
 obtain ⟨e',hu⟩:=hu
 cases a<;>simp [Builtin.append_,run_underlying ht,run_underlying hu,sizeOf,typeInfo,hi,Builtin.lenOf,hroom,hn,storeCells]
theorem zeroCells_len (z:Value) (n:Nat):(Builtin.zeroCells z.cells n).toList.length=n * z.cells.size:=by simp [Builtin.zeroCells]
theorem grown_row {sz:Nat} {evs:List Value} (h:∀ e∈evs,e.cells.size=sz) (rest:List Value) :
  ∀ (i:Nat) (e:Value),evs[i]?=some e→e.cells.size=sz∧∀ (j:Nat) (x:Value),e.cells[j]?=some x→(flat evs++rest).toArray[i * sz+j]?=some x:=by
 intro i e he
 refine ⟨h e (List.mem_of_getElem? he),fun j x hx=>?_⟩
 have:=flat_get h he hx
 simp only [List.getElem?_toArray]
 rw [List.getElem?_append_left (List.getElem?_eq_some_iff.1 this).1]
 exact this
theorem onecells_of {S:Nat→Prop} {w:World} {x:LV} {evs:List Value} (h:RL S w x evs) (hf:∀ v∈x.l,v.flat=true):∀ e∈evs,∀ u∈e.cells.toList,u.oneCell'=true:=by
 intro e he u hu
 obtain ⟨i,hi,rfl⟩:=List.mem_iff_getElem.1 he
 obtain ⟨c,hc,hr⟩:=Rs_get' ((RL_iff _ _ _ _).1 h) (List.getElem?_eq_getElem hi)
 exact (R_cells hr (hf c (List.mem_of_getElem? hc))).2 u hu
end
end Go.AL
namespace Go.AL
open Go Go.RowKit
section
variable {P:Program} {γ:Nat→Option AV}
theorem HeapR.ghost {B:Nat} {S:Nat→Prop} {ρ:List Loc} {h:List Blk} {w:World} (hh:HeapR B S γ ρ h w) (loc:Loc) (hk:loc.k=none) (blk:Blk) (hb:BlkR S w (ρ++[loc]) loc blk) (hsub:loc.sub=[]:=by rfl) :
  HeapR B S γ (ρ++[loc]) (h++[blk]) w∧Ext B S ρ w S (ρ++[loc]) w:=by
 have hup:=LocsUp.append ρ [loc]
 have key:∀ (b:Nat) (lc:Loc),(ρ++[loc])[b]?=some lc→(b<ρ.length∧ρ[b]?=some lc)∨(b=ρ.length∧lc=loc):=by
  intro b lc h1
  by_cases hlt:b<ρ.length
  ·rw [List.getElem?_append_left hlt] at h1;exact .inl ⟨hlt,h1⟩
  ·rw [List.getElem?_append_right (by omega)] at h1
   have e1:b-ρ.length=0:=by
    have:=(List.getElem?_eq_some_iff.1 h1).1;simp at this;omega
   rw [e1] at h1;simp at h1;exact .inr ⟨by omega,h1.symm⟩
 refine ⟨⟨by simp [hh.len],fun b bk lc h1 h2=>?_,fun b lc K h1 h2=>?_,fun b b' lc lc' K h1 h2 h3 h4=>?_,hh.sle,hh.gok,hh.bsz,fun b lc h1=>?_⟩,Fr.refl w,fun _ _=>rfl,fun _ h=>h,fun _ _=>rfl,hup,fun _ h=>.inl h⟩
 ·rcases key b lc h2 with ⟨a1,a2⟩ | ⟨a1,rfl⟩
  ·rw [List.getElem?_append_left (by rw [←hh.len];exact a1)] at h1
   exact (hh.blk b bk lc h1 a2).mono (fun _ h=>h) (fun _ _=>rfl) hup fun _ _=>rfl
  ·rw [a1,hh.len] at h1
   simp at h1;subst h1;exact hb
 ·rcases key b lc h1 with ⟨a1,a2⟩ | ⟨a1,rfl⟩
  ·exact hh.own b lc K a2 h2
  ·have h2:=Loc.has_nil hsub h2;rw [hk] at h2;cases h2
 ·rcases key b lc h1 with ⟨a1,a2⟩ | ⟨a1,rfl⟩
  ·rcases key b' lc' h2 with ⟨c1,c2⟩ | ⟨c1,rfl⟩
   ·exact hh.inj b b' lc lc' K a2 c2 h3 h4
   ·have h4:=Loc.has_nil hsub h4;rw [hk] at h4;cases h4
  ·have h3:=Loc.has_nil hsub h3;rw [hk] at h3;cases h3
 ·rcases key b lc h1 with ⟨a1,a2⟩ | ⟨a1,rfl⟩
  ·exact hh.sok b lc a2
  ·exact .nil hsub
theorem HeapR.drew {B:Nat} {S:Nat→Prop} {ρ:List Loc} {h:List Blk} {w:World} (hh:HeapR B S γ ρ h w):HeapR B S γ ρ h w.drew∧Ext B S ρ w S ρ w.drew:=by
 have hq:ExtQ S w S w.drew:=⟨Fr.drew w,fun _ _=>rfl,fun _ h=>h,fun _ h=>.inl h⟩
 exact ⟨hh.q hq,hh.ext hq⟩
theorem firstCells_zero (sz:Nat) (a:Option Addr) (n c:Nat) (w:World):(Builtin.firstCells sz 0 (.slice a n c)).run P w=.ok #[] w:=by
 cases a<;>simp [Builtin.firstCells,loadCells,loadCellsFrom]
theorem run_vappend0 {t u ty:TypeId} {h:List Blk} {x y:AV} {k:AV→List Blk→Prop} (hv:vappend0 (tiOf P t).k (tiOf P u).k h x y k) :
  ∃ v h',k v h'∧∀ B S ρ w x' y',HeapR B S γ ρ h w→R S w (some ρ) x x'→R S w (some ρ) y y'→EPost γ B S ρ w ((Builtin.append_ #[t,u] ty #[x',y']).run P w) v h':=by
 unfold vappend0 at hv
 split at hv
 ·rename_i e sz bytes z hk
  obtain ⟨h1,i,h2,h3,h4,h5⟩:=tk_slice hk
  obtain ⟨zv,hzv,rfl⟩:∃ zv,i.zero=some zv∧z=ofV zv:=by
   cases hx:i.zero with
   | none=>simp [hx] at h5
   | some zv=>exact ⟨zv,rfl,by simpa [hx] using h5.symm⟩
  split at hv
  ·rename_i e' sz' by' z' hku
   obtain ⟨hu1,_⟩:=tk_slice hku
   split at hv
   ·rename_i hz3
    rw [beq_iff_eq] at hz3
    have hzc:zv.cells.size=sz:=by
     have:=Rs_len (Rs_ofV (S:=fun _=>True) (w:=default) (ρ:=none) zv)
     simpa [hz3] using this
    obtain ⟨new,hv,hsh⟩:=run_shows (γ:=γ) hv
    split at hv
    ·obtain ⟨hc,hv⟩:=hv
     obtain ⟨hc1,hc2,hc3⟩:=hc ()
     refine ⟨_,_,hv,fun B S ρ w x' y' hh hx hy=>?_⟩
     obtain ⟨b,c,evs,rfl,k1,k2,_,k3,k4⟩:=hsh B S ρ w y' hh hy
     obtain ⟨a,rfl⟩:=hx
     have hlen:evs.length=(new ()).l.length:=Rs_len ((RL_iff _ _ _ _).1 k2)
     have hone:=onecells_of k2 hc3
     by_cases hm:evs.length=0
     ·have he:evs=[]:=List.eq_nil_of_length_eq_zero hm
      subst he
      have hr:=run_append_nothing (P:=P) (ty:=ty) h1 ⟨_,hu1⟩ h2 a b 0 0 c w (firstCells_zero _ _ _ _ _) (Nat.le_refl _)
      obtain ⟨p1,p2⟩:=hh.ghost ⟨false,0,none,sz,0,[]⟩ rfl (.run 0 sz new) ⟨rfl,rfl,rfl,[],k2,fun e he=>(by cases he),.inl ⟨rfl,rfl⟩⟩
      exact ⟨_,_,w,hr,p2,p1,_,_,a,0,rfl,by rw [←hh.len];exact getElem?_concat _ _,rfl,rfl,Nat.le_refl _,by rw [←hlen];rfl,by rw [←hlen];simp,.inl rfl,fun _=>.inl ⟨rfl,rfl,rfl⟩⟩
     ·obtain ⟨d1,d2⟩:=hh.drew
      have hfn:=run_firstCells' (P:=P) (a:=b) (cap:=c) (w:=w.drew) k3 (by simpa using k4) evs.length (Nat.le_refl _)
      rw [List.take_length] at hfn
      have hr:=run_append_new (P:=P) (ty:=ty) h1 ⟨_,hu1⟩ h2 hzv a b 0 0 evs.length c [] (flat evs) w (firstCells_zero _ _ _ _ _) (by rw [h3];exact hfn) (by omega) (by omega) (by rw [h4,Nat.zero_add,hlen];exact hc1)
      rw [List.nil_append,Nat.zero_add] at hr
      have hge:=grownCap_ge w evs.length 0 e
      generalize hG:grownCap w evs.length 0 e=G at hr hge
      have k2':RL S w.drew (new ()) evs:=RL.mono (w:=w) (w':=w.drew) (fun _ h=>h) (fun _ _=>rfl) _ _ k2
      have hsz:(flat evs++(Builtin.zeroCells zv.cells (G-evs.length)).toList).toArray.size=G * sz:=by
       rw [List.size_toArray,List.length_append,flat_length k3,zeroCells_len,hzc,←Nat.add_mul];congr 1;omega
      have hS:SameOn S w.drew (w.drew.alloc (.cells (flat evs++(Builtin.zeroCells zv.cells (G-evs.length)).toList).toArray e)):=fun j hj=>Below.heap_alloc _ _ j (d1.sle j hj)
      obtain ⟨p1,p2⟩:=d1.push (.cells (flat evs++(Builtin.zeroCells zv.cells (G-evs.length)).toList).toArray e) (by intro _ _ _ _ e;cases e;exact ⟨rfl,rfl⟩) ⟨false,0,some w.heap.size,sz,G * sz,[]⟩ (.inl rfl) (.run 0 sz new)
       ⟨rfl,rfl,rfl,evs,RL.mono (fun _ h=>h) hS _ _ k2',hone,.inr ⟨w.heap.size,_,e,rfl,heap_alloc_new w.drew _,hsz,Nat.mul_le_mul_right _ hge,grown_row k3 _⟩⟩
      exact ⟨_,_,_,hr,d2.trans p2,p1,_,_,_,G,rfl,by rw [←hh.len];exact getElem?_concat _ _,rfl,rfl,Nat.le_refl _,by rw [←hlen],by rw [←hlen];exact hge,.inr ⟨_,_,rfl⟩,fun _=>.inr ⟨w.heap.size,rfl,.inr (by simp),by simp⟩⟩
    ·rename_i b0 g m off n _
     split at hv
     ·rename_i hm;subst hm
      split at hv
      ·rename_i g' mm es hb
       obtain ⟨hc,hv⟩:=hv
       obtain ⟨rfl,hc0,hc1,hc2,hc3,hc4⟩:=hc ()
       refine ⟨_,_,hv,fun B S ρ w x' y' hh hx hy=>?_⟩
       obtain ⟨b,c,evs,rfl,k1,k2,_,k3,k4⟩:=hsh B S ρ w y' hh hy
       have hlen:evs.length=(new ()).l.length:=Rs_len ((RL_iff _ _ _ _).1 k2)
       have hone:=onecells_of k2 hc4
       -- the slice that is appended to
       obtain ⟨es0,hes0,hshx⟩:=run_shows (γ:=γ) (h:=h) (sz:=m) (x:=.sl b0 g' m off n) (k:=fun l=>l ()=es ()) (by
        simp only [shows,if_true,hb]
        refine ⟨fun _=>⟨trivial,by omega⟩,?_⟩
        rw [hc0,hc1];simp)
       obtain ⟨a,cap,ovs,rfl,o1,o2,o5,o3,o4⟩:=hshx B S ρ w x' hh hx
       rw [hes0] at o2
       have holen:ovs.length=n ():=by rw [hc1];exact Rs_len ((RL_iff _ _ _ _).1 o2)
       obtain ⟨l,loc,a',cap',hl,q1,q2,q3,q4,qe,q6,q7,q8⟩:=hx
       cases hl
       simp only [Value.slice.injEq] at qe
       obtain ⟨rfl,_,rfl⟩:=qe
       obtain ⟨_,d2,d3,bvs,d4,d5,d6⟩:=hh.blk b0 _ loc hb q1
       have hblen:bvs.length=n ():=by rw [hc1];exact Rs_len ((RL_iff _ _ _ _).1 d4)
       have hboth:∀ {w2:World} {vs2:List Value},SameOn S w w2→RL S w (es ()) vs2→RL S w2 (LV.of ((es ()).l++(new ()).l)) (vs2++evs):=fun hS h2=>by
        rw [RL_iff,LV.l_of]
        exact Rs_append ((RL_iff _ _ _ _).1 (RL.mono (fun _ h=>h) hS _ _ h2)) ((RL_iff _ _ _ _).1 (RL.mono (fun _ h=>h) hS _ _ k2))
       have hbz:∀ x∈bvs,x.cells.size=m∨loc.k=none:=by
        intro x hx
        rcases d6 with ⟨e1,rfl⟩ | ⟨K,cc,cty,e1,e2,e3,e4,e5⟩
        ·cases hx
        ·obtain ⟨j,hj,rfl⟩:=List.mem_iff_getElem.1 hx
         left;rw [←q3];exact (e5 j _ (List.getElem?_eq_getElem hj)).1
       by_cases hroom:n ()+evs.length≤cap
       ·by_cases hm:evs.length=0
        ·have he:evs=[]:=List.eq_nil_of_length_eq_zero hm
         subst he
         rw [holen]
         have hr:=run_append_nothing (P:=P) (ty:=ty) h1 ⟨_,hu1⟩ h2 a b (n ()) cap c w (firstCells_zero _ _ _ _ _) (by rw [←holen];exact o1)
         have hup:=hh.upd (loc':={ loc with g:=g'+1 }) (blk':=.run (g'+1) m fun _=>LV.of ((es ()).l++(new ()).l)) (w':=w) q1 (.inr (.inl ⟨q2,q2,by show loc.g<g'+1;omega,rfl⟩)) (fun K' hK'=>.inl hK') (Fr.refl w) (fun _ _ _=>rfl) (by
          refine ⟨q2,rfl,q3,bvs++[],hboth (fun _ _=>rfl) d4,by simpa using d5,?_⟩
          rw [List.append_nil];exact d6)
         refine ⟨_,_,w,hr,hup.2,hup.1,_,{ loc with g:=g'+1 },a,cap,rfl,by rw [List.getElem?_set_self (List.getElem?_eq_some_iff.1 q1).1],q2,q3,Nat.le_refl _,by simp [←hlen],by simp [←hlen];omega,q7,fun _=>?_⟩
         rcases q8 d2 with ⟨r1,r2,r3⟩ | ⟨K,r1,r2,r3⟩
         ·exact .inl ⟨r1,r2,rfl⟩
         ·exact .inr ⟨K,r1,by rw [hc0] at r2;exact r2,by rw [hc0] at r3;exact r3⟩
        ·rcases q8 d2 with ⟨r1,r2,r3⟩ | ⟨K,r1,r2,r3⟩
         ·omega
         ·rcases d6 with ⟨e1,_⟩ | ⟨K',cc,cty,e1,e2,e3,e4,e5⟩
          ·rw [r1] at e1;cases e1
          ·rw [r1] at e1;cases e1
           rcases r2 with r2 | r2
           ·omega
           ·subst r2
            rw [hc0] at r3
            have hfn:=run_firstCells' (P:=P) (a:=b) (cap:=c) (w:=w) k3 k4 evs.length (Nat.le_refl _)
            rw [List.take_length] at hfn
            have hone':∀ u∈flat evs,u.oneCell'=true:=by
             intro u hu
             simp only [flat,List.mem_flatten,List.mem_map] at hu
             obtain ⟨l,⟨e,he,rfl⟩,hu⟩:=hu
             exact hone e he u hu
            have hfl:=flat_length k3
            have hle:(n ()+evs.length) * loc.e≤cap * loc.e:=Nat.mul_le_mul_right _ hroom
            rw [Nat.zero_add] at r3
            rw [Nat.add_mul] at hle
            have hr:=run_append_room' (P:=P) (ty:=ty) h1 ⟨_,hu1⟩ h2 K (n ()) cap evs.length c b cc cty (flat evs) w e2 (by rw [h3];exact hfn) hone' hroom (by rw [h3,hfl,←q3];omega)
            rw [hc0,Nat.zero_mul,holen]
            generalize hc':(cc.toList.take (n () * i.size)++flat evs++cc.toList.drop (n () * i.size+(flat evs).length)).toArray=c' at hr
            have hcsz:c'.size=cc.size:=by rw [←hc'];simp [hfl,h3,←q3];omega
            have hS:SameOn S w (w.setRow K c'):=fun x hx=>setRow_other w K x _ fun e=>(hh.own b0 loc K q1 (.inl r1)).1 (e ▸ hx)
            have hup:=hh.upd (loc':={ loc with g:=g'+1 }) (blk':=.run (g'+1) m fun _=>LV.of ((es ()).l++(new ()).l)) (w':=w.setRow K c') q1 (.inr (.inl ⟨q2,q2,by show loc.g<g'+1;omega,rfl⟩)) (fun K' hK'=>.inl hK') (Fr.setRow w K _ _ cty e2)
             (fun x hx hne=>setRow_other w K x _ fun e=>hne (by rw [e];exact r1)) (by
             refine ⟨q2,rfl,q3,bvs++evs,hboth hS d4,?_,.inr ⟨K,c',cty,r1,setRow_heap w K _ _ cty _ e2,by rw [hcsz];exact e3,?_,?_⟩⟩
             ·intro e he
              rcases List.mem_append.1 he with he | he
              ·exact d5 e he
              ·exact hone e he
             ·rw [List.length_append,hblen,Nat.add_mul];show n () * loc.e+evs.length * loc.e≤loc.size;omega
             ·intro x e he
              by_cases hx:x<bvs.length
              ·rw [List.getElem?_append_left hx] at he
               obtain ⟨f1,f2⟩:=e5 x e he
               refine ⟨f1,fun y u hy=>?_⟩
               have hylt:y<loc.e:=by rw [←f1];exact (Array.getElem?_eq_some_iff.1 hy).1
               have hxl:(x+1) * loc.e≤n () * loc.e:=Nat.mul_le_mul_right _ (by omega)
               rw [Nat.add_mul,Nat.one_mul] at hxl
               have:=f2 y u hy
               rw [←hc']
               show (cc.toList.take (n () * i.size)++flat evs++cc.toList.drop (n () * i.size+(flat evs).length)).toArray[x * loc.e+y]?=some u
               simp only [List.getElem?_toArray,List.append_assoc]
               have hce:n () * loc.e≤cc.size:=by omega
               have htl:(cc.toList.take (n () * i.size)).length=n () * loc.e:=by rw [h3,←q3,List.length_take,Array.length_toList,Nat.min_eq_left hce]
               rw [List.getElem?_append_left (by rw [htl];omega),List.getElem?_take,if_pos (by rw [h3,←q3];omega)]
               simpa using this
              ·rw [List.getElem?_append_right (by omega)] at he
               have f1:=k3 e (List.mem_of_getElem? he)
               refine ⟨by rw [f1];exact q3.symm,fun y u hy=>?_⟩
               have:=flat_get k3 he hy
               have hlt:=(List.getElem?_eq_some_iff.1 this).1
               rw [←hc']
               show (cc.toList.take (n () * i.size)++flat evs++cc.toList.drop (n () * i.size+(flat evs).length)).toArray[x * loc.e+y]?=some u
               have htl:(cc.toList.take (n () * i.size)).length=n () * m:=by simp [h3];rw [←q3];omega
               have hxe:x * loc.e+y=n () * m+((x-bvs.length) * m+y):=by
                rw [q3,hblen]
                have:x * m=n () * m+(x-n ()) * m:=by rw [←Nat.add_mul];congr 1;omega
                omega
               simp only [List.getElem?_toArray,List.append_assoc]
               rw [hxe,List.getElem?_append_right (by rw [htl];omega),htl,List.getElem?_append_left (by rw [show n () * m+((x-bvs.length) * m+y)-n () * m=(x-bvs.length) * m+y from by omega];exact hlt)]
               rw [show n () * m+((x-bvs.length) * m+y)-n () * m=(x-bvs.length) * m+y from by omega];exact this)
            refine ⟨_,_,_,hr,hup.2,hup.1,_,{ loc with g:=g'+1 },_,cap,rfl,by rw [List.getElem?_set_self (List.getElem?_eq_some_iff.1 q1).1],q2,q3,Nat.le_refl _,by rw [←hlen],by rw [←hlen];exact hroom,.inr ⟨_,_,rfl⟩,fun _=>.inr ⟨K,r1,.inr (by simp),by simpa using r3⟩⟩
       ·obtain ⟨dd1,dd2⟩:=hh.drew
        have hfn:=run_firstCells' (P:=P) (a:=b) (cap:=c) (w:=w.drew) k3 (by simpa using k4) evs.length (Nat.le_refl _)
        have hfo:=run_firstCells' (P:=P) (a:=a) (cap:=cap) (w:=w.drew) o3 (by simpa using o4) ovs.length (Nat.le_refl _)
        rw [List.take_length] at hfn hfo
        have hr:=run_append_new (P:=P) (ty:=ty) h1 ⟨_,hu1⟩ h2 hzv a b ovs.length cap evs.length c (flat ovs) (flat evs) w (by rw [h3];exact hfo) (by rw [h3];exact hfn) (by omega) (by omega) (by rw [h4,holen,hlen];exact hc2)
        have hge:=grownCap_ge w (ovs.length+evs.length) cap e
        generalize hG:grownCap w (ovs.length+evs.length) cap e=G at hr hge
        rw [←flat_append] at hr
        have hall:∀ x∈ovs++evs,x.cells.size=m:=fun x hx=>by
         rcases List.mem_append.1 hx with hx | hx
         ·exact o3 x hx
         ·exact k3 x hx
        have hsz:(flat (ovs++evs)++(Builtin.zeroCells zv.cells (G-(ovs.length+evs.length))).toList).toArray.size=G * m:=by
         rw [List.size_toArray,List.length_append,flat_length hall,zeroCells_len,hzc,←Nat.add_mul,List.length_append];congr 1;omega
        have hS:SameOn S w (w.drew.alloc (.cells (flat (ovs++evs)++(Builtin.zeroCells zv.cells (G-(ovs.length+evs.length))).toList).toArray e)):=fun j hj=>Below.heap_alloc _ _ j (hh.sle j hj)
        have honeo:∀ e∈ovs,∀ u∈e.cells.toList,u.oneCell'=true:=o5 rfl
        have hup:=hh.upd (loc':=⟨false,g'+1,some w.heap.size,m,G * m,[]⟩) (blk':=.run (g'+1) m fun _=>LV.of ((es ()).l++(new ()).l)) (w':=w.drew.alloc (.cells (flat (ovs++evs)++(Builtin.zeroCells zv.cells (G-(ovs.length+evs.length))).toList).toArray e)) q1
         (.inr (.inl ⟨q2,rfl,by show loc.g<g'+1;omega,q3⟩)) (fun K' hK'=>.inr (by cases hK';exact ⟨Nat.le_refl _,by simp⟩)) (Fr.drewAlloc _ _ _) (fun x hx _=>Below.heap_alloc _ _ x hx) (by
         refine ⟨rfl,rfl,rfl,ovs++evs,hboth hS o2,?_,.inr ⟨w.heap.size,_,e,rfl,heap_alloc_new w.drew _,hsz,Nat.mul_le_mul_right _ (by rw [List.length_append];exact hge),grown_row hall _⟩⟩
         intro x hx
         rcases List.mem_append.1 hx with hx | hx
         ·exact honeo x hx
         ·exact hone x hx)
        refine ⟨_,_,_,hr,hup.2,hup.1,_,_,_,G,rfl,by rw [List.getElem?_set_self (List.getElem?_eq_some_iff.1 q1).1],rfl,rfl,Nat.le_refl _,by rw [←hlen,←holen],by rw [←hlen,←holen];exact hge,.inr ⟨_,_,rfl⟩,fun _=>.inr ⟨w.heap.size,rfl,.inr (by simp),by simp⟩⟩
      ·exact hv.elim
     ·exact hv.elim
    ·exact hv.elim
   ·exact hv.elim
  ·exact hv.elim
 ·exact hv.elim
theorem run_vappN {t u ty:TypeId} {h:List Blk} {x v:AV} {k:AV→List Blk→Prop} (hv:vappN (tiOf P t).k (tiOf P u).k h x v k) :
  ∃ v' h',k v' h'∧∀ B S ρ w x' y',HeapR B S γ ρ h w→R S w (some ρ) x x'→R S w (some ρ) (.v1 v) y'→EPost γ B S ρ w ((Builtin.append_ #[t,u] ty #[x',y']).run P w) v' h':=by
 unfold vappN at hv
 split at hv
 ·rename_i e sz bytes z hk
  obtain ⟨h1,i,h2,h3,h4,h5⟩:=tk_slice hk
  obtain ⟨zv,hzv,rfl⟩:∃ zv,i.zero=some zv∧z=ofV zv:=by
   cases hx:i.zero with
   | none=>simp [hx] at h5
   | some zv=>exact ⟨zv,rfl,by simpa [hx] using h5.symm⟩
  split at hv
  ·rename_i e' sz' by' z' hku
   obtain ⟨hu1,_⟩:=tk_slice hku
   split at hv
   ·rename_i b g m off n
    split at hv
    ·rename_i g' q ess hole hb
     split at hv
     ·split at hv
      ·rename_i hc
       simp only [Bool.and_eq_true,beq_iff_eq] at hc
       obtain ⟨⟨⟨hz3,rfl⟩,rfl⟩,hone⟩:=hc
       have hzc:zv.cells.size=1:=by
        have:=Rs_len (Rs_ofV (S:=fun _=>True) (w:=default) (ρ:=none) zv)
        simpa [hz3] using this
       obtain ⟨hc,hv⟩:=hv
       obtain ⟨rfl,hc0,hc1,hc2,hc3⟩:=hc ()
       refine ⟨_,_,hv,fun B S ρ w x' y' hh hx hy=>?_⟩
       obtain ⟨ab,ao,cy,xv,rfl,y1,y2,y3,y4,y5⟩:=hy
       have hxc:xv.cells=#[xv]:=cells_of_one y3
       obtain ⟨l,loc,a,cap,hl,q1,q2,q3,q4,rfl,q6,q7,q8⟩:=hx
       cases hl
       obtain ⟨d1,d2,d3,evs,d4,d5,d6,d7⟩:=hh.blk b _ loc hb q1
       have hblt:b<ρ.length:=(List.getElem?_eq_some_iff.1 q1).1
       have hel:evs.length=n ():=by omega
       have hfn:∀ w2:World,w2.cell? ⟨ab,ao,none⟩=some xv→(Builtin.firstCells i.size 1 (.slice (some ⟨ab,ao,none⟩) 1 cy)).run P w2=.ok [xv].toArray w2:=fun w2 hw2=>by
        have:=run_firstCells' (P:=P) (sz:=1) (a:=some ⟨ab,ao,none⟩) (cap:=cy) (evs:=[xv]) (w:=w2) (fun e he=>by simp at he;subst he;rw [hxc];rfl) (.inr ⟨ab,ao,rfl,fun j c hj=>by
         simp [flat,hxc] at hj
         have:j=0:=by
          cases j with
          | zero=>rfl
          | succ j=>simp at hj
         subst this
         simp at hj;subst hj;exact hw2⟩) 1 (by simp)
        rw [h3]
        simpa [flat,hxc] using this
       -- the cells behind the append
       have cells:∀ {w2:World} {ρ2:List Loc},SameOn S w w2→LocsUp ρ ρ2→(∀ K,some K∈loc.sub→w2.heap[K]?=w.heap[K]?)→∀ (p:Nat) (es:LV) (u:Value) (s:Option Nat),(ess ()++[LV.nil])[p]?=some es→(evs++[xv])[p]?=some u→(loc.sub++[none])[p]?=some s →
         CellR S w2 ρ2 q (some (fun _=>(ess ()).length,v)) p es u s:=by
        intro w2 ρ2 hS hρ hK p es u s g1 g2 g3
        by_cases hp:p<evs.length
        ·rw [List.getElem?_append_left (by omega)] at g1
         rw [List.getElem?_append_left hp] at g2
         rw [List.getElem?_append_left (by omega)] at g3
         have hin:InR S w q es u s:=d7 p es u s g1 g2 g3
         exact .inr ⟨by show p≠(ess ()).length;omega,hin.mono (fun _ h=>h) hS fun K e=>hK K (by rw [←e];exact List.mem_of_getElem? g3)⟩
        ·have hpl:p=evs.length:=by have:=(List.getElem?_eq_some_iff.1 g2).1;simp at this;omega
         subst hpl
         rw [List.getElem?_append_right (by omega)] at g2 g3
         rw [show evs.length-evs.length=0 by omega] at g2
         rw [show evs.length-loc.sub.length=0 by omega] at g3
         simp at g2 g3
         subst g2;subst g3
         exact .inl ⟨by show evs.length=(ess ()).length;omega,rfl,R.mono (fun _ h=>h) hS (ρ:=some ρ) (ρ':=some ρ2) hρ _ _ y5,y3⟩
       by_cases hroom:n ()+1≤cap
       ·rcases q8 d2 with ⟨r1,r2,r3⟩ | ⟨K,r1,r2,r3⟩
        ·omega
        ·rcases d4 with ⟨e1,_⟩ | ⟨K',cc,cty,e1,e2,e3,e4,e5⟩
         ·rw [r1] at e1;cases e1
         ·rw [r1] at e1;cases e1
          rcases r2 with r2 | r2
          ·omega
          ·subst r2
           rw [hc0] at r3
           rw [d3,Nat.zero_add,Nat.mul_one] at r3
           have hr:=run_append_room' (P:=P) (ty:=ty) h1 ⟨_,hu1⟩ h2 K (n ()) cap 1 cy (some ⟨ab,ao,none⟩) cc cty [xv] w e2 (hfn w y4) (fun u hu=>by simp at hu;subst hu;exact y3) hroom (by rw [h3,Nat.mul_one];simp;omega)
           rw [hc0,Nat.zero_mul]
           rw [h3,Nat.mul_one] at hr
           generalize hc':(cc.toList.take (n ())++[xv]++cc.toList.drop (n ()+[xv].length)).toArray=c' at hr
           have hcsz:c'.size=cc.size:=by rw [←hc'];simp;omega
           have hcget:∀ x:Nat,c'[x]?=if x=n () then some xv else cc[x]?:=by
            intro x
            rw [←hc']
            simp only [List.getElem?_toArray,List.getElem?_append,List.length_append,List.length_take,Array.length_toList]
            have hmin:min (n ()) cc.size=n ():=by omega
            rw [hmin]
            by_cases h1:x<n ()
            ·rw [if_pos (by simp;omega),if_pos h1,if_neg (by omega),List.getElem?_take,if_pos h1];simp
            ·by_cases h2:x=n ()
             ·rw [if_pos (by simp;omega),if_neg h1,if_pos h2];simp [h2]
             ·rw [if_neg (by simp;omega),if_neg h2,List.getElem?_drop]
              simp only [List.length_cons,List.length_nil]
              rw [show n ()+(0+1)+(x-(n ()+(0+1)))=x from by omega];simp
           have hS:SameOn S w (w.setRow K c'):=fun x hx=>setRow_other w K x _ fun e=>(hh.own b loc K q1 (.inl r1)).1 (e ▸ hx)
           have hlup:loc.up { loc with g:=g'+1,sub:=loc.sub++[none] }:=.inr (.inl ⟨q2,q2,by show loc.g<g'+1;omega,rfl⟩)
           have hlocs:LocsUp ρ (ρ.set b { loc with g:=g'+1,sub:=loc.sub++[none] }):=by
            intro i l hl
            by_cases e:b=i
            ·subst e;rw [q1] at hl;cases hl
             exact ⟨_,by simp [hblt],hlup⟩
            ·exact ⟨l,by rw [List.getElem?_set_ne e];exact hl,l.up_refl⟩
           have hup:=hh.updS (loc':={ loc with g:=g'+1,sub:=loc.sub++[none] }) (blk':=.nest (g'+1) q (fun _=>ess ()++[LV.nil]) (some (fun _=>(ess ()).length,v))) (w':=w.setRow K c') q1 hlup (fun K' hK'=>.inl (Loc.has_sub (l:=loc) (l':={ loc with g:=g'+1,sub:=loc.sub++[none] }) rfl rfl hK')) (Fr.setRow w K _ _ cty e2)
            (fun x hx hne=>setRow_other w K x _ fun e=>hne (by rw [e];exact r1))
            ⟨q2,rfl,d3,evs++[xv],.inr ⟨K,c',cty,r1,setRow_heap w K _ _ cty _ e2,by rw [hcsz];exact e3,by
             rw [List.length_append];simp only [List.length_cons,List.length_nil];show evs.length+(0+1)≤loc.size;omega,fun x e he=>by
             rw [hcget]
             by_cases hx:x=n ()
             ·subst hx
              rw [List.getElem?_append_right (by omega),hel] at he
              simp at he;subst he
              rw [if_pos rfl]
             ·have hxl:=(List.getElem?_eq_some_iff.1 he).1
              simp at hxl
              rw [List.getElem?_append_left (by omega)] at he
              rw [if_neg hx];exact e5 x e he⟩,by simp;omega,by simp;omega,
             cells hS hlocs fun K' hK'=>setRow_other w K K' _ fun e=>(hh.sok b loc q1).out K' hK' (by rw [e];exact r1)⟩
            ((hh.sok b loc q1).app rfl (hh.sok b loc q1).out)
           exact ⟨_,_,_,hr,hup.2,hup.1,_,{ loc with g:=g'+1,sub:=loc.sub++[none] },_,cap,rfl,by rw [List.getElem?_set_self hblt],q2,d3,Nat.le_refl _,rfl,hroom,.inr ⟨_,_,rfl⟩,fun _=>.inr ⟨K,r1,.inr (by simp),by show (0+cap) * loc.e≤loc.size;rw [d3];omega⟩⟩
       ·have hfo:(Builtin.firstCells i.size (n ()) (.slice a (n ()) cap)).run P w.drew=.ok evs.toArray w.drew:=by
         by_cases hn:n ()=0
         ·have:evs=[]:=List.eq_nil_of_length_eq_zero (by omega)
          subst this;rw [hn];exact firstCells_zero _ _ _ _ _
         ·rcases q8 d2 with ⟨r1,r2,r3⟩ | ⟨K,r1,r2,r3⟩
          ·omega
          ·rcases d4 with ⟨e1,_⟩ | ⟨K',cc,cty,e1,e2,e3,e4,e5⟩
           ·rw [r1] at e1;cases e1
           ·rw [r1] at e1;cases e1
            rcases r2 with r2 | r2
            ·omega
            ·subst r2
             rw [h3]
             simp only [Builtin.firstCells]
             rw [Nat.mul_one,←hel,hc0,Nat.zero_mul]
             exact run_loadCells' K 0 w.drew evs fun j c hj=>by
              rw [Nat.zero_add]
              exact (cell_heap (w:=w.drew) e2 j).trans (e5 j c hj)
        have hr:=run_append_new (P:=P) (ty:=ty) h1 ⟨_,hu1⟩ h2 hzv a (some ⟨ab,ao,none⟩) (n ()) cap 1 cy evs [xv] w hfo (hfn w.drew y4) (by omega) (by omega) (by rw [h4];exact hc2)
        have hge:=grownCap_ge w (n ()+1) cap e
        generalize hG:grownCap w (n ()+1) cap e=G at hr hge
        have hsz:(evs++[xv]++(Builtin.zeroCells zv.cells (G-(n ()+1))).toList).toArray.size=G:=by
         rw [List.size_toArray,List.length_append,List.length_append,zeroCells_len,hzc,hel];simp;omega
        have hS:SameOn S w (w.drew.alloc (.cells (evs++[xv]++(Builtin.zeroCells zv.cells (G-(n ()+1))).toList).toArray e)):=fun j hj=>Below.heap_alloc _ _ j (hh.sle j hj)
        have hlup:loc.up ⟨false,g'+1,some w.heap.size,1,G,loc.sub++[none]⟩:=.inr (.inl ⟨q2,rfl,by show loc.g<g'+1;omega,d3⟩)
        have hlocs:LocsUp ρ (ρ.set b ⟨false,g'+1,some w.heap.size,1,G,loc.sub++[none]⟩):=by
         intro i l hl
         by_cases e:b=i
         ·subst e;rw [q1] at hl;cases hl
          exact ⟨_,by simp [hblt],hlup⟩
         ·exact ⟨l,by rw [List.getElem?_set_ne e];exact hl,l.up_refl⟩
        have hin:∀ K,some K∈loc.sub→K<w.heap.size:=fun K hK=>(hh.own b loc K q1 (.inr hK)).2.1
        have hup:=hh.updS (loc':=⟨false,g'+1,some w.heap.size,1,G,loc.sub++[none]⟩) (blk':=.nest (g'+1) q (fun _=>ess ()++[LV.nil]) (some (fun _=>(ess ()).length,v))) (w':=w.drew.alloc (.cells (evs++[xv]++(Builtin.zeroCells zv.cells (G-(n ()+1))).toList).toArray e)) q1 hlup
         (fun K' hK'=>by
          rcases hK' with hK' | hK'
          ·cases hK';exact .inr ⟨Nat.le_refl _,by simp⟩
          ·refine .inl (.inr ?_)
           have hK':some K'∈loc.sub++[none]:=hK'
           rw [List.mem_append] at hK'
           exact hK'.elim id fun h=>by simp at h)
         (Fr.drewAlloc _ _ _) (fun x hx _=>Below.heap_alloc _ _ x hx)
         ⟨rfl,rfl,rfl,evs++[xv],.inr ⟨w.heap.size,_,e,rfl,heap_alloc_new w.drew _,hsz,by
          rw [List.length_append,hel];exact hge,fun x e he=>by
          rw [List.getElem?_toArray,List.getElem?_append_left (List.getElem?_eq_some_iff.1 he).1];exact he⟩,by simp;omega,by simp;omega,
          cells hS hlocs fun K' hK'=>Below.heap_alloc _ _ K' (hin K' hK')⟩
         ((hh.sok b loc q1).app rfl fun K' hK' e=>by have:=hin K' hK';cases e;omega)
        exact ⟨_,_,_,hr,hup.2,hup.1,_,_,_,G,rfl,by rw [List.getElem?_set_self hblt],rfl,rfl,Nat.le_refl _,rfl,hge,.inr ⟨_,_,rfl⟩,fun _=>.inr ⟨w.heap.size,rfl,.inr (by simp),by simp⟩⟩
      ·exact hv.elim
     ·exact hv.elim
    ·exact hv.elim
   ·exact hv.elim
  ·exact hv.elim
 ·exact hv.elim
theorem run_vappend {t u ty:TypeId} {h:List Blk} {x y:AV} {k:AV→List Blk→Prop} (hv:vappend (tiOf P t).k (tiOf P u).k h x y k) :
  ∃ v h',k v h'∧∀ B S ρ w x' y',HeapR B S γ ρ h w→R S w (some ρ) x x'→R S w (some ρ) y y'→EPost γ B S ρ w ((Builtin.append_ #[t,u] ty #[x',y']).run P w) v h':=by
 cases y
 case v1 v=>exact run_vappN hv
 all_goals exact run_vappend0 hv
end
end Go.AL
namespace Go.AL
open Go Go.RowKit
section
variable {P:Program} {γ:Nat→Option AV}
theorem run_copy' {t e ty:TypeId} {i:TypeInfo} {ts:Array TypeId} (ht:P.underlying t=some (.slice e)) (hi:P.info? e=some i) (a b:Option Addr) (n cap m c:Nat) (news:List Value) (w w':World)
  (hn:(Builtin.firstCells i.size (min m n) (.slice b m c)).run P w=.ok news.toArray w) (hst:(match a with | some a=>storeCells a news | none=>pure ()).run P w=.ok () w') (hts:ts[0]?=some t) :
  (Builtin.copy_ ts ty #[.slice a n cap,.slice b m c]).run P w=.ok (.int .i64 (min m n:Nat)) w':=by
 have hmin:Nat.min m n=min m n:=rfl
 cases a with
 | none=>
  have:w'=w:=by simpa using hst.symm
  subst this
  simp [Builtin.copy_,hts,run_underlying ht,Builtin.lenOf,run_sizeOf hi,hmin,hn,goInt]
 | some a=>
  simp only at hst
  simp [Builtin.copy_,hts,run_underlying ht,Builtin.lenOf,run_sizeOf hi,hmin,hn,goInt,hst]
theorem run_vcopy {t ty:TypeId} {ts:Array TypeId} {h:List Blk} {x y:AV} {k:AV→List Blk→Prop} (hts:ts[0]?=some t) (hv:vcopy (tiOf P t).k h x y k) :
  ∃ v h',k v h'∧∀ B S ρ w x' y',HeapR B S γ ρ h w→R S w (some ρ) x x'→R S w (some ρ) y y'→EPost γ B S ρ w ((Builtin.copy_ ts ty #[x',y']).run P w) v h':=by
 unfold vcopy at hv
 split at hv
 ·rename_i e sz bytes z hk
  obtain ⟨h1,i,h2,h3,h4,h5⟩:=tk_slice hk
  obtain ⟨src,hv',hsh⟩:=run_shows (γ:=γ) hv
  clear hv
  have hv:=hv'
  clear hv'
  split at hv
  ·rename_i b0 g m off n
   split at hv
   ·rename_i hm;subst hm
    split at hv
    ·rename_i g' mm es hb
     obtain ⟨hc,hv⟩:=hv
     obtain ⟨rfl,hc1,hc2⟩:=hc ()
     refine ⟨_,_,hv,fun B S ρ w x' y' hh hx hy=>?_⟩
     obtain ⟨b,c,evs,rfl,k1,k2,_,k3,k4⟩:=hsh B S ρ w y' hh hy
     have hlen:evs.length=(src ()).l.length:=Rs_len ((RL_iff _ _ _ _).1 k2)
     have hone:=onecells_of k2 hc2
     obtain ⟨l,loc,a,cap,hl,q1,q2,q3,q4,rfl,q6,q7,q8⟩:=hx
     cases hl
     obtain ⟨_,d2,d3,bvs,d4,d5,d6⟩:=hh.blk b0 _ loc hb q1
     have d4':=(RL_iff _ _ _ _).1 d4
     have hblen:bvs.length=(es ()).l.length:=Rs_len d4'
     have hfn:=run_firstCells' (P:=P) (a:=b) (cap:=c) (w:=w) k3 k4 (min evs.length (n ())) (Nat.min_le_left _ _)
     have hmz:∀ x∈evs.take (min evs.length (n ())),x.cells.size=m:=fun x hx=>k3 x (List.mem_of_mem_take hx)
     have hml:(evs.take (min evs.length (n ()))).length=min evs.length (n ()):=by simp
     by_cases hz:min evs.length (n ())=0
     ·have hst:(match a with | some a=>storeCells a (flat (evs.take (min evs.length (n ())))) | none=>(pure ():Sem Unit)).run P w=.ok () w:=by
       rw [hz];cases a<;>simp [flat,storeCells]
      have hr:=run_copy' (P:=P) (ty:=ty) h1 h2 a b (n ()) cap evs.length c _ w w (by rw [h3];exact hfn) hst hts
      have hup:=hh.upd (loc':=loc) (blk':=.run g' m fun _=>LV.of ((es ()).l.take (off ())++(src ()).l.take (min (src ()).l.length (n ()))++(es ()).l.drop (off ()+min (src ()).l.length (n ())))) (w':=w) q1 (Loc.up_refl _) (fun K' hK'=>.inl hK') (Fr.refl w) (fun _ _ _=>rfl) (by
       rw [list_set_self q1]
       refine ⟨q2,d2,q3,bvs,?_,d5,d6⟩
       rw [RL_iff,LV.l_of,←hlen,hz]
       simpa using d4')
      rw [list_set_self q1] at hup
      exact ⟨_,ρ,w,hr,hup.2,hup.1,by simp only [R];rw [hlen]⟩
     ·rcases q8 d2 with ⟨r1,r2,r3⟩ | ⟨K,r1,r2,r3⟩
      ·omega
      ·rcases d6 with ⟨e1,_⟩ | ⟨K',cc,cty,e1,e2,e3,e4,e5⟩
       ·rw [r1] at e1;cases e1
       ·rw [r1] at e1;cases e1
        rcases r2 with r2 | r2
        ·omega
        ·subst r2
         have hone':∀ u∈flat (evs.take (min evs.length (n ()))),u.oneCell'=true:=by
          intro u hu
          simp only [flat,List.mem_flatten,List.mem_map] at hu
          obtain ⟨l,⟨e,he,rfl⟩,hu⟩:=hu
          exact hone e (List.mem_of_mem_take he) u hu
         have hfl:=flat_length hmz
         rw [hml] at hfl
         generalize hM:min evs.length (n ())=M at *
         have hMn:M≤n ():=by omega
         have hle:(off ()+M) * loc.e≤bvs.length * loc.e:=Nat.mul_le_mul_right _ (by omega)
         rw [Nat.add_mul] at hle
         have hst:=run_storeCells_at P K (off () * loc.e) cty (flat (evs.take M)) 0 cc w e2 (by rw [hfl,←q3];omega) hone'
         simp only [Nat.add_zero] at hst
         have hr:=run_copy' (P:=P) (ty:=ty) (ts:=ts) h1 h2 (some ⟨K,off () * loc.e,none⟩) b (n ()) cap evs.length c (flat (evs.take M)) w _ (by rw [h3,hM];exact hfn) hst hts
         rw [hM] at hr
         generalize hc':(cc.toList.take (off () * loc.e)++flat (evs.take M)++cc.toList.drop (off () * loc.e+(flat (evs.take M)).length)).toArray=c' at hr
         have hcsz:c'.size=cc.size:=by rw [←hc'];simp [hfl,←q3];omega
         have hS:SameOn S w (w.setRow K c'):=fun x hx=>setRow_other w K x _ fun e=>(hh.own b0 loc K q1 (.inl r1)).1 (e ▸ hx)
         have hcget:∀ x:Nat,c'[x]?=if x<off () * loc.e then cc[x]? else if x<off () * loc.e+M * loc.e then (flat (evs.take M))[x-off () * loc.e]? else cc[x]?:=by
          intro x
          rw [←hc',hfl,←q3]
          simp only [List.getElem?_toArray,List.append_assoc]
          have htl:(cc.toList.take (off () * loc.e)).length=off () * loc.e:=by rw [List.length_take,Array.length_toList];omega
          by_cases h1:x<off () * loc.e
          ·rw [if_pos h1,List.getElem?_append_left (by rw [htl];exact h1),List.getElem?_take,if_pos h1];simp
          ·rw [if_neg h1,List.getElem?_append_right (by rw [htl];omega),htl]
           by_cases h2:x<off () * loc.e+M * loc.e
           ·rw [if_pos h2,List.getElem?_append_left (by rw [hfl,←q3];omega)]
           ·rw [if_neg h2,List.getElem?_append_right (by rw [hfl,←q3];omega),hfl,←q3,List.getElem?_drop]
            rw [show off () * loc.e+M * loc.e+(x-off () * loc.e-M * loc.e)=x from by omega];simp
         have hnew:RL S (w.setRow K c') (LV.of ((es ()).l.take (off ())++(src ()).l.take M++(es ()).l.drop (off ()+M))) (bvs.take (off ())++evs.take M++bvs.drop (off ()+M)):=by
          rw [RL_iff,LV.l_of]
          refine Rs.mono (fun _ h=>h) hS (ρ:=none) (ρ':=none) trivial _ _ ?_
          exact Rs_append (Rs_append (Rs_take d4' _) (Rs_take ((RL_iff _ _ _ _).1 k2) _)) (Rs_drop d4' _)
         have hnl:(bvs.take (off ())++evs.take M++bvs.drop (off ()+M)).length=bvs.length:=by simp;omega
         have hup:=hh.upd (loc':=loc) (blk':=.run g' m fun _=>LV.of ((es ()).l.take (off ())++(src ()).l.take (min (src ()).l.length (n ()))++(es ()).l.drop (off ()+min (src ()).l.length (n ())))) (w':=w.setRow K c') q1 (Loc.up_refl _) (fun K' hK'=>.inl hK') (Fr.setRow w K _ _ cty e2)
          (fun x hx hne=>setRow_other w K x _ fun e=>hne (by rw [e];exact r1)) (by
          rw [list_set_self q1]
          refine ⟨q2,d2,q3,_,by rw [←hlen,hM];exact hnew,?_,.inr ⟨K,c',cty,r1,setRow_heap w K _ _ cty _ e2,by rw [hcsz];exact e3,by rw [hnl];exact e4,?_⟩⟩
          ·intro e he
           simp only [List.mem_append] at he
           rcases he with (he | he) | he
           ·exact d5 e (List.mem_of_mem_take he)
           ·exact hone e (List.mem_of_mem_take he)
           ·exact d5 e (List.mem_of_mem_drop he)
          ·intro x e he
           have hbt:(bvs.take (off ())).length=off ():=by simp;omega
           by_cases h1:x<off ()
           ·rw [List.append_assoc,List.getElem?_append_left (by rw [hbt];exact h1),List.getElem?_take,if_pos h1] at he
            obtain ⟨f1,f2⟩:=e5 x e he
            refine ⟨f1,fun y u hy=>?_⟩
            have hylt:y<loc.e:=by rw [←f1];exact (Array.getElem?_eq_some_iff.1 hy).1
            have hxl:(x+1) * loc.e≤off () * loc.e:=Nat.mul_le_mul_right _ h1
            rw [Nat.add_mul,Nat.one_mul] at hxl
            rw [hcget,if_pos (by omega)];exact f2 y u hy
           ·rw [List.append_assoc,List.getElem?_append_right (by rw [hbt];omega),hbt] at he
            by_cases h2:x<off ()+M
            ·rw [List.getElem?_append_left (by rw [hml];omega)] at he
             have f1:=hmz e (List.mem_of_getElem? he)
             refine ⟨by rw [f1];exact q3.symm,fun y u hy=>?_⟩
             have hylt:y<m:=by rw [←f1];exact (Array.getElem?_eq_some_iff.1 hy).1
             have hg:=flat_get hmz he hy
             have hxo:x * loc.e=off () * loc.e+(x-off ()) * loc.e:=by rw [←Nat.add_mul];congr 1;omega
             have hxm:(x-off ()+1) * loc.e≤M * loc.e:=Nat.mul_le_mul_right _ (by omega)
             rw [Nat.add_mul,Nat.one_mul] at hxm
             rw [←q3] at hylt hg
             rw [hcget,if_neg (by omega),if_pos (by omega)]
             rw [show x * loc.e+y-off () * loc.e=(x-off ()) * loc.e+y from by omega];exact hg
            ·rw [List.getElem?_append_right (by rw [hml];omega),hml,List.getElem?_drop] at he
             rw [show off ()+M+(x-off ()-M)=x from by omega] at he
             obtain ⟨f1,f2⟩:=e5 x e he
             refine ⟨f1,fun y u hy=>?_⟩
             have hxl:(off ()+M) * loc.e≤x * loc.e:=Nat.mul_le_mul_right _ (by omega)
             rw [Nat.add_mul] at hxl
             rw [hcget,if_neg (by omega),if_neg (by omega)];exact f2 y u hy)
         rw [list_set_self q1] at hup
         exact ⟨_,ρ,_,hr,hup.2,hup.1,by simp only [R];rw [←hlen,hM]⟩
    ·exact hv.elim
   ·exact hv.elim
  ·exact hv.elim
 ·exact hv.elim
end
end Go.AL
namespace Go.AL
open Go Go.RowKit
section
variable {P:Program} {γ:Nat→Option AV}
theorem Fr.setMap (w:World) (K:Nat) {ent ent':Array MapEntry} {c c':Nat} (h:w.heap[K]?=some (Obj.map ent c)):Fr w { w with heap:=w.heap.setIfInBounds K (Obj.map ent' c') }:=by
 refine ⟨rfl,rfl,rfl,by simp,fun a _=>?_⟩
 have hs:=MapKept.heap_set (w:=w) (o':=Obj.map ent' c') h
 by_cases e:a.block=K
 ·have e1:(w.heap.setIfInBounds K (Obj.map ent' c'))[a.block]?=some (Obj.map ent' c'):=by rw [e];exact hs.1
  have e2:w.heap[a.block]?=some (Obj.map ent c):=by rw [e];exact h
  simp only [World.frozen?,e1,e2]
 ·simp only [World.frozen?,hs.2 a.block e]
theorem Rs_erase {S:Nat→Prop} {w:World} {ρ:Option (List Loc)} {cs:List AV} {vals:List Value} (h:Rs S w ρ cs vals) (n:Nat):Rs S w ρ (cs.eraseIdx n) (vals.eraseIdx n):=by
 induction cs generalizing vals n with
 | nil=>simp [Rs] at h;subst h;simp [Rs]
 | cons d cs ih=>
  simp only [Rs] at h;obtain ⟨x,xs,rfl,h2,h3⟩:=h
  cases n with
  | zero=>exact h3
  | succ n=>exact ⟨x,xs.eraseIdx n,rfl,h2,ih h3 n⟩
theorem map_erase {α β:Type} (g:α→β):∀ (l:List α) (j:Nat),(l.eraseIdx j).map g=(l.map g).eraseIdx j
 | [],j=>by simp
 | x :: l,0=>by simp
 | x :: l,j+1=>by simp [map_erase g l j]
theorem map_modify {α β:Type} (g:α→β) (f:α→α) (a:β) (h:∀ e,g (f e)=a):∀ (l:List α) (j:Nat),(l.modify j f).map g=(l.map g).set j a
 | [],j=>by cases j<;>simp
 | x :: l,0=>by simp [h]
 | x :: l,j+1=>by simp [map_modify g f a h l j]
theorem run_makeMap {t:TypeId} {h:List Blk} {B:Nat} {S:Nat→Prop} {ρ:List Loc} {w:World} (hh:HeapR B S γ ρ h w) :
  EPost γ B S ρ w ((Instr.makeMap t none).run P w) (.mp h.length) (h++[.map (fun _=>.nil) fun _=>.nil]):=by
 obtain ⟨p1,p2⟩:=hh.push (.map #[] 0) (by intro _ _ _ _ e;cases e) ⟨true,0,some w.heap.size,0,0,[]⟩ (.inl rfl) (.map (fun _=>.nil) fun _=>.nil)
  ⟨rfl,w.heap.size,[],[],#[],0,rfl,heap_alloc_new w _,rfl,rfl,rfl,rfl⟩
 exact ⟨.map (some w.heap.size),_,_,by simp [Instr.makeMap,newObj];rfl,p2,p1,_,_,w.heap.size,rfl,by rw [←hh.len];exact getElem?_concat _ _,rfl,rfl,rfl⟩
theorem run_makeMapS {t kt et:TypeId} (ht:(tiOf P t).k=.map kt et) {n:Int} {h:List Blk} {B:Nat} {S:Nat→Prop} {ρ:List Loc} {w:World} (hh:HeapR B S γ ρ h w) :
  EPost γ B S ρ w ((Instr.makeMap t (some (.int .i64 n))).run P w) (.mp h.length) (h++[.map (fun _=>.nil) fun _=>.nil]):=by
 obtain ⟨v',ρ',w',h3,h4⟩:=run_makeMap (P:=P) (t:=t) hh
 have hu:=tk_map ht
 refine ⟨v',ρ',w',?_,h4⟩
 rw [←h3]
 simp [Instr.makeMap,run_underlying hu,asInt,asIntOf]
theorem run_mapUpdate {t kt et:TypeId} {h:List Blk} {m x y:AV} {k:List Blk→Prop} (ht:(tiOf P t).k=.map kt et) (hv:vmapUpdate (tiOf P kt) (tiOf P et) h m x y k) :
  ∃ h',k h'∧∀ B S ρ w m' x' y',HeapR B S γ ρ h w→R S w (some ρ) m m'→R S w (some ρ) x x'→R S w (some ρ) y y'→∃ ρ' w',(Instr.mapUpdate t m' x' y').run P w=.ok () w'∧Ext B S ρ w S ρ' w'∧HeapR B S γ ρ' h' w':=by
 have hmap:=tk_map ht
 unfold vmapUpdate at hv
 split at hv
 ·rename_i b
  split at hv
  ·rename_i ks vs hb
   split at hv
   ·rename_i xs
    split at hv
    ·rename_i hkt
     rw [Bool.and_eq_true,Bool.and_eq_true] at hkt
     obtain ⟨⟨hkt,hxs⟩,hyc⟩:=hkt
     obtain ⟨hmok,hv⟩:=hv
     obtain ⟨kd,hu,hagg,hf⟩:=keyTy_spec hkt
     generalize hcs:(tiOf P kt).eq=cs at hv hxs hf hmok
     refine ⟨_,hv,fun B S ρ w m' x' y' hh hm hx hy=>?_⟩
     obtain ⟨l,loc,K,hl,h2,h3,h4,rfl⟩:=hm
     cases hl
     obtain ⟨_,K',kv,vv,ent,clock,k1,k2,k3,k4,k5,k6⟩:=hh.blk b _ loc hb h2
     rw [h4] at k1;cases k1
     have hx0:=closed_R (.agg xs) x' (by simpa [AV.closed] using ckOks_closed hxs) hx
     have hxn:R S w none (.agg (nrms cs xs)) x':=R_nrm (v:=.agg xs) cs hx0
     obtain ⟨xl,rfl,hxr⟩:=hx
     obtain ⟨tx,nx⟩:=ckOks_spec hxs hxr
     obtain ⟨f1,f2⟩:=map_facts (hmok ()) (ckvs_ok hxs) k3 k5
     have hy0:R S w none (y.nrm (tiOf P et).cs) y':=R_nrm _ (closed_R y y' hyc hy)
     have hgt:=MapKept.run_getObj_map (P:=P) k2
     have hck:=run_checkKey_flat hu hagg hf tx (em:=false) (w:=w)
     have hfk:=run_findKey_flat hu hagg hf tx w ent.toList f1
     rw [f2,nx,show knumL cs xs=knums cs (.agg xs) from rfl] at hfk
     have fin:∀ (ent':Array MapEntry) (c':Nat) (kl vl:LV),(Instr.mapUpdate t (.map (some K)) (.agg xl.toArray) y').run P w=.ok () { w with heap:=w.heap.setIfInBounds K (Obj.map ent' c') } →
       RL S w kl (ent'.toList.map (·.key))→RL S w vl (ent'.toList.map (·.val)) →
       ∃ ρ' w',(Instr.mapUpdate t (.map (some K)) (.agg xl.toArray) y').run P w=.ok () w'∧Ext B S ρ w S ρ' w'∧HeapR B S γ ρ' (h.set b (.map (fun _=>kl) fun _=>vl)) w':=by
      intro ent' c' kl vl hrun hk hvl
      have hs:=MapKept.heap_set (w:=w) (o':=Obj.map ent' c') k2
      have hsame:SameOn S w { w with heap:=w.heap.setIfInBounds K (Obj.map ent' c') }:=fun j hj=>hs.2 j fun e=>(hh.own b loc K h2 (.inl h4)).1 (e ▸ hj)
      obtain ⟨p1,p2⟩:=hh.upd (loc':=loc) (blk':=.map (fun _=>kl) fun _=>vl) (w':={ w with heap:=w.heap.setIfInBounds K (Obj.map ent' c') }) h2 (Loc.up_refl _) (fun K' hK'=>.inl hK') (Fr.setMap w K k2)
       (fun j hj hne=>hs.2 j fun e=>hne (by rw [e];exact h4))
       ⟨h3,K,_,_,ent',c',h4,hs.1,RL.mono (fun _ h=>h) hsame _ _ hk,RL.mono (fun _ h=>h) hsame _ _ hvl,rfl,rfl⟩
      exact ⟨_,_,hrun,p2,p1⟩
     cases hq:mfind cs (ks ()) (knums cs (.agg xs)) with
     | none=>
      rw [hq] at hfk
      refine fin (ent.push { key:=.agg xl.toArray,val:=y',born:=clock }) (clock+1) _ _ ?_ ?_ ?_
      ·have hso:=MapKept.run_setObj_map (P:=P) (Obj.map (ent.push { key:=.agg xl.toArray,val:=y',born:=clock }) (clock+1)) k2
       simp [Instr.mapUpdate,run_underlying hmap,hgt,hck,hfk,hso]
      ·rw [show mputK none (ks ()) (.agg (nrms cs xs))=LV.of ((ks ()).l++[.agg (nrms cs xs)]) from rfl,RL_iff,LV.l_of]
       simp only [Array.toList_push,List.map_append,List.map_cons,List.map_nil,k5]
       exact Rs_append ((RL_iff _ _ _ _).1 k3) ⟨_,_,rfl,hxn,rfl⟩
      ·rw [show mputV none (vs ()) (y.nrm (tiOf P et).cs)=LV.of ((vs ()).l++[y.nrm (tiOf P et).cs]) from rfl,RL_iff,LV.l_of]
       simp only [Array.toList_push,List.map_append,List.map_cons,List.map_nil,k6]
       exact Rs_append ((RL_iff _ _ _ _).1 k4) ⟨_,_,rfl,hy0,rfl⟩
     | some j=>
      rw [hq] at hfk
      have hq':=hq
      rw [←f2] at hq'
      obtain ⟨hlt,hp,_⟩:=List.findIdx?_eq_some_iff_getElem.1 hq'
      obtain ⟨l0,hl0,tl0⟩:=f1 _ (List.getElem_mem hlt)
      have hke:ent.toList[j].key=.agg xl.toArray:=by
       rw [beq_iff_eq,hl0] at hp
       rw [hl0]
       have:l0.map vnum=xl.map vnum:=by rw [nx,show knumL cs xs=knums cs (.agg xs) from rfl];simpa [vnums,Value.cells] using hp
       rw [(vnum_inj tl0 tx).1 this]
      have hej:ent.toList[j]?=some ent.toList[j]:=List.getElem?_eq_getElem hlt
      have hej':ent[j]?=some ent.toList[j]:=by simp [←hej]
      simp only [Option.bind_some,hej,Option.map_some] at hfk
      refine fin (ent.modify j fun e=>{ e with key:=.agg xl.toArray,val:=y' }) clock _ _ ?_ ?_ ?_
      ·have hso:=MapKept.run_setObj_map (P:=P) (Obj.map (ent.modify j fun e=>{ e with key:=.agg xl.toArray,val:=y' }) clock) k2
       have hsb:=sameBits_refl tx 9999
       simp only [Instr.mapUpdate,Sem.run_bind,run_underlying hmap,Result.andThen_ok,hgt,hck,hfk,hej',Option.map_some,Option.getD_some,hke,Instr.keyThatStays,hsb,if_true,Sem.run_pure,hso]
      ·rw [Array.toList_modify,map_modify _ _ (.agg xl.toArray) (fun _=>rfl),k5]
       have:kv.set j (.agg xl.toArray)=kv:=by
        have hkl:j<kv.length:=by rw [←k5];simpa using hlt
        have hkj:kv[j]=.agg xl.toArray:=by
         have:kv[j]?=some ent.toList[j].key:=by rw [←k5,List.getElem?_map,hej];rfl
         rw [List.getElem?_eq_getElem hkl,hke] at this
         exact Option.some.inj this
        rw [←hkj,List.set_getElem_self]
       rw [this];exact k3
      ·rw [Array.toList_modify,map_modify _ _ y' (fun _=>rfl),k6]
       rw [show mputV (some j) (vs ()) (y.nrm (tiOf P et).cs)=LV.of ((vs ()).l.set j (y.nrm (tiOf P et).cs)) from rfl,RL_iff,LV.l_of]
       exact Rs_set ((RL_iff _ _ _ _).1 k4) j hy0
    ·exact hv.elim
   ·exact hv.elim
  ·exact hv.elim
 ·exact hv.elim
theorem run_delete {t kt et ty:TypeId} {ts:Array TypeId} {h:List Blk} {m x:AV} {k:List Blk→Prop} (ht:(tiOf P t).k=.map kt et) (hts:ts[0]?=some t) (hv:vdelete (tiOf P kt) h m x k) :
  ∃ h',k h'∧∀ B S ρ w m' x',HeapR B S γ ρ h w→R S w (some ρ) m m'→R S w (some ρ) x x'→∃ ρ' w',(Builtin.delete_ ts ty #[m',x']).run P w=.ok (.tuple #[]) w'∧Ext B S ρ w S ρ' w'∧HeapR B S γ ρ' h' w':=by
 have hmap:=tk_map ht
 unfold vdelete at hv
 split at hv
 ·rename_i b
  split at hv
  ·rename_i ks vs hb
   split at hv
   ·rename_i xs
    split at hv
    ·rename_i hkt
     rw [Bool.and_eq_true] at hkt
     obtain ⟨hkt,hxs⟩:=hkt
     obtain ⟨hmok,hv⟩:=hv
     obtain ⟨kd,hu,hagg,hf⟩:=keyTy_spec hkt
     generalize hcs:(tiOf P kt).eq=cs at hv hxs hf hmok
     refine ⟨_,hv,fun B S ρ w m' x' hh hm hx=>?_⟩
     obtain ⟨l,loc,K,hl,h2,h3,h4,rfl⟩:=hm
     cases hl
     obtain ⟨_,K',kv,vv,ent,clock,k1,k2,k3,k4,k5,k6⟩:=hh.blk b _ loc hb h2
     rw [h4] at k1;cases k1
     obtain ⟨xl,rfl,hxr⟩:=hx
     obtain ⟨tx,nx⟩:=ckOks_spec hxs hxr
     obtain ⟨f1,f2⟩:=map_facts (hmok ()) (ckvs_ok hxs) k3 k5
     have hgt:=MapKept.run_getObj_map (P:=P) k2
     have hck:=run_checkKey_flat hu hagg hf tx (em:=ent.isEmpty) (w:=w)
     have hfk:=run_findKey_flat hu hagg hf tx w ent.toList f1
     rw [f2,nx,show knumL cs xs=knums cs (.agg xs) from rfl] at hfk
     have fin:∀ (ent':Array MapEntry) (c':Nat) (kl vl:LV),(Builtin.delete_ ts ty #[.map (some K),.agg xl.toArray]).run P w=.ok (.tuple #[]) { w with heap:=w.heap.setIfInBounds K (Obj.map ent' c') } →
       RL S w kl (ent'.toList.map (·.key))→RL S w vl (ent'.toList.map (·.val)) →
       ∃ ρ' w',(Builtin.delete_ ts ty #[.map (some K),.agg xl.toArray]).run P w=.ok (.tuple #[]) w'∧Ext B S ρ w S ρ' w'∧HeapR B S γ ρ' (h.set b (.map (fun _=>kl) fun _=>vl)) w':=by
      intro ent' c' kl vl hrun hk hvl
      have hs:=MapKept.heap_set (w:=w) (o':=Obj.map ent' c') k2
      have hsame:SameOn S w { w with heap:=w.heap.setIfInBounds K (Obj.map ent' c') }:=fun j hj=>hs.2 j fun e=>(hh.own b loc K h2 (.inl h4)).1 (e ▸ hj)
      obtain ⟨p1,p2⟩:=hh.upd (loc':=loc) (blk':=.map (fun _=>kl) fun _=>vl) (w':={ w with heap:=w.heap.setIfInBounds K (Obj.map ent' c') }) h2 (Loc.up_refl _) (fun K' hK'=>.inl hK') (Fr.setMap w K k2)
       (fun j hj hne=>hs.2 j fun e=>hne (by rw [e];exact h4))
       ⟨h3,K,_,_,ent',c',h4,hs.1,RL.mono (fun _ h=>h) hsame _ _ hk,RL.mono (fun _ h=>h) hsame _ _ hvl,rfl,rfl⟩
      exact ⟨_,_,hrun,p2,p1⟩
     cases hq:mfind cs (ks ()) (knums cs (.agg xs)) with
     | none=>
      rw [hq] at hfk
      refine fin ent clock _ _ ?_ (by rw [k5];exact k3) (by rw [k6];exact k4)
      have hso:=MapKept.run_setObj_map (P:=P) (Obj.map ent clock) k2
      simp [Builtin.delete_,hts,run_underlying hmap,hgt,hck,hfk,hso]
     | some j=>
      rw [hq] at hfk
      have hq':=hq
      rw [←f2] at hq'
      obtain ⟨hlt,hp,_⟩:=List.findIdx?_eq_some_iff_getElem.1 hq'
      have hej:ent.toList[j]?=some ent.toList[j]:=List.getElem?_eq_getElem hlt
      simp only [Option.bind_some,hej,Option.map_some] at hfk
      have hto:(ent.eraseIdxIfInBounds j).toList=ent.toList.eraseIdx j:=by
       rw [Array.eraseIdxIfInBounds,dif_pos (by simpa using hlt),Array.toList_eraseIdx]
      refine fin (ent.eraseIdxIfInBounds j) clock _ _ ?_ ?_ ?_
      ·have hso:=MapKept.run_setObj_map (P:=P) (Obj.map (ent.eraseIdxIfInBounds j) clock) k2
       simp [Builtin.delete_,hts,run_underlying hmap,hgt,hck,hfk,hso]
      ·rw [hto,map_erase,k5,show mdel (some j) (ks ())=LV.of ((ks ()).l.eraseIdx j) from rfl,RL_iff,LV.l_of]
       exact Rs_erase ((RL_iff _ _ _ _).1 k3) j
      ·rw [hto,map_erase,k6,show mdel (some j) (vs ())=LV.of ((vs ()).l.eraseIdx j) from rfl,RL_iff,LV.l_of]
       exact Rs_erase ((RL_iff _ _ _ _).1 k4) j
    ·exact hv.elim
   ·exact hv.elim
  ·exact hv.elim
 ·exact hv.elim
end
end Go.AL
namespace Go.AL
open Go Go.RowKit
abbrev RF (ro:Option Nat):Fence:={ Fence.wide with round:=ro }
section
variable {P:Program} {ro:Option Nat} {n:Nat} {ds:List Deferred}
theorem rowsIn_RF {row:String} {args:Array Value} {w:World} {R:Value→World→Prop} (h:Rows P row args w R):RowsIn (RF ro) n P row args w R:=fun c cs _=>
 let ⟨v,w',r,s⟩:=h c cs;⟨v,w',r,(stepsIn_wide.2 s:StepsIn (Machine.fenced P Fence.wide) P _ _)⟩
end
end Go.AL
namespace Go.AL
open Go Go.RowKit
abbrev EC:=Nat ⊕ Nat→List AV→List Blk→(AV→List Blk→Prop)→Prop
def PC (P:Program) (γ:Nat→Option AV):EC:=fun k args h Q=>match k with | .inl f=>SCalls P γ f args h Q | .inr _=>False
def YCall (P:Program) (γ:Nat→Option AV) (l:Nat) (args:List AV) (h:List Blk) (Q:AV→List Blk→Prop):Prop:=
 ∀ B S ρ w vals,HeapR B S γ ρ h w→Rs S w (some ρ) args vals→∃ f tmps asg bd,(Instr.yield l vals.toArray).run P w=.ok (.round l f tmps asg bd) w ∧
  ∀ n,RoundIn Fence.wide n P l f tmps asg bd w fun e w'=>∃ v h' S' ρ' v',e=.returned v'∧Q v h'∧R S' w' (some ρ') v v'∧HeapR B S' γ ρ' h' w'∧Ext B S ρ w S' ρ' w'
def SC (P:Program) (γ:Nat→Option AV):EC:=fun k args h Q=>match k with | .inl f=>SCalls P γ f args h Q | .inr l=>YCall P γ l args h Q
def EC.noY (C:EC):EC:=fun k=>match k with | .inl f=>C (.inl f) | .inr _=>fun _ _ _=>False
theorem SC.noY_pc {P:Program} {γ:Nat→Option AV}:∀ f args h Q,(SC P γ).noY f args h Q→PC P γ f args h Q:=fun f _ _ _ h=>by cases f<;>exact h
def emp:AV→Option (Unit→Prop)
 | .vs _ es=>some fun _=>(es ()).l=[]
 | .nils=>some fun _=>True
 | .sl _ _ _ _ len=>some fun _=>len ()=0
 | _=>none
def vnil (t:TK) (op:BinOp) (x:AV) (K:AV→Prop):Prop:=
 match t with
 | .slice ..=>match emp x with
  | some p=>match op with
   | .eql=>∀ c:Bool,(∀ _:Unit,c=true→p ())→K (.b fun _=>c)
   | .neq=>∀ c:Bool,(∀ _:Unit,c=true→p ())→K (.b fun _=>!c)
   | _=>False
  | none=>False
 | _=>False
def isNilSlice:Operand→Bool
 | .const (.slice none 0 0)=>true
 | _=>false
def yieldOf:Value→Option Nat
 | .func (.yield l) a c=>if a.toList.isEmpty && c.toList.isEmpty then some l else none
 | _=>none
theorem yieldOf_eq {v:Value} {l:Nat} (h:yieldOf v=some l):v=.func (.yield l) #[] #[]:=by
 unfold yieldOf at h
 split at h
 ·rename_i l' a c
  split at h
  ·rename_i hc
   simp only [Bool.and_eq_true,List.isEmpty_iff] at hc
   obtain ⟨h1,h2⟩:=hc
   have h1:a=#[]:=Array.toList_inj.1 h1
   have h2:c=#[]:=Array.toList_inj.1 h2
   cases h;rw [h1,h2]
  ·cases h
 ·cases h
def vop (τ:Nat→TI) (γ:Nat→Option AV) (C:EC) (o:Oper) (A:St) (K:St→Prop):Prop:=
 match o.op with
 | .alloc _ | .box .. | .store .. | .makeSlice .. | .makeMap .. | .mapUpdate .. | .call ⟨.builtin .append,_,_⟩ | .call ⟨.builtin .copy,_,_⟩ | .call ⟨.builtin .delete,_,_⟩=>
  ve τ o.op (A.ev γ) A.h fun v h=>K (St.put ⟨A.n,A.s,h⟩ o.dst v)
 | .call ⟨.value f,args,_⟩=>match A.ev γ f with
  | .fn f a c=>C (.inl f) (a++args.toList.map (A.ev γ)++c) A.h fun v h=>K (St.put ⟨A.n,A.s,h⟩ o.dst v)
  | .raw v=>match yieldOf v with
   | some l=>C (.inr l) (args.toList.map (A.ev γ)) A.h fun v h=>K (St.put ⟨A.n,A.s,h⟩ o.dst v)
   | none=>False
  | _=>False
 | .binOp op t x y u=>match isNilSlice y with
  | true=>vnil (τ t).k op (A.ev γ x) fun v=>K (A.put o.dst v)
  | false=>vq τ (fun _ _ _=>False) (.binOp op t x y u) (A.ev γ) A.h fun v=>K (A.put o.dst v)
 | _=>vq τ (fun _ _ _=>False) o.op (A.ev γ) A.h fun v=>K (A.put o.dst v)
section
variable {P:Program} {γ:Nat→Option AV} {τ:Nat→TI} {C:EC}
theorem ve_sound (hτ:∀ t,τ t=tiOf P t) {o:Oper} {A:St} {k:AV→List Blk→Prop} (hv:ve τ o.op (A.ev γ) A.h k) :
  ∃ v h',k v h'∧OpR P γ o A (fun A'=>A'=St.put ⟨A.n,A.s,h'⟩ o.dst v):=by
 obtain ⟨d,op,ty,pos,af,g⟩:=o
 cases op
 case alloc t=>
  simp only [ve,hτ] at hv
  split at hv
  ·rename_i ho
   split at hv
   ·rename_i z hz
    split at hv
    ·rename_i hf
     refine ⟨_,_,hv,OpR.of_e fun B S ρ w re hh hx=>?_⟩
     obtain ⟨v',ρ',w',h1,h2,h3,h4⟩:=run_alloc ho hz hf hh
     exact ⟨v',S,ρ',w',.inl (by simp only [execOp,Sem.run_bind];rw [h1];rfl),h2,h3,h4⟩
    ·exact hv.elim
   ·exact hv.elim
  ·exact hv.elim
 case box t x=>
  simp only [ve] at hv
  split at hv
  ·rename_i hf
   refine ⟨_,_,hv,OpR.of_e fun B S ρ w re hh hx=>?_⟩
   obtain ⟨v',ρ',w',h1,h2,h3,h4⟩:=run_box (P:=P) (t:=t) hf hh (hx x)
   exact ⟨v',S,ρ',w',.inl (by simp only [execOp,Sem.run_bind];rw [h1];rfl),h2,h3,h4⟩
  ·exact hv.elim
 case store t p x=>
  simp only [ve,hτ] at hv
  have key:∃ u:AV,(∀ S w ρ v,R S w ρ (A.ev γ x) v→R S w ρ u v)∧vstore (tiOf P t) A.h (A.ev γ p) u (k .undef):=by
   split at hv
   ·exact ⟨_,fun S w ρ v h=>R_nrm _ h,hv⟩
   ·exact ⟨_,fun S w ρ v h=>h,hv⟩
  obtain ⟨u,hu,hv⟩:=key
  obtain ⟨h',h1,h2⟩:=run_vstore (γ:=γ) hv
  refine ⟨_,_,h1,OpR.of_e fun B S ρ w re hh hx=>?_⟩
  obtain ⟨ρ',w',h3,h4,h5⟩:=h2 B S ρ w _ _ hh (hx p) (hu _ _ _ _ (hx x))
  exact ⟨Go.undef,S,ρ',w',.inr ⟨by simp only [execOp,Sem.run_bind];rw [h3];rfl,rfl⟩,h4,h5,rfl⟩
 case makeSlice t n m=>
  simp only [ve,hτ] at hv
  obtain ⟨v,h',h1,h2⟩:=run_vmakeSlice (γ:=γ) hv
  refine ⟨_,_,h1,OpR.of_e fun B S ρ w re hh hx=>?_⟩
  obtain ⟨v',ρ',w',h3,h4,h5,h6⟩:=h2 B S ρ w _ _ hh (hx n) (hx m)
  exact ⟨v',S,ρ',w',.inl (by simp only [execOp,Sem.run_bind];rw [h3];rfl),h4,h5,h6⟩
 case makeMap t r=>
  cases r with
  | some r=>
   simp only [ve,hτ] at hv
   split at hv
   ·rename_i kt et ht
    split at hv
    ·rename_i n hn
     refine ⟨_,_,hv,OpR.of_e fun B S ρ w re hh hx=>?_⟩
     have hr:=hx r
     rw [hn] at hr
     simp only [R] at hr
     obtain ⟨v',ρ',w',h3,h4,h5,h6⟩:=run_makeMapS (P:=P) (n:=n ()) ht hh
     exact ⟨v',S,ρ',w',.inl (by simp only [execOp,Sem.run_bind,Option.map_some,hr];rw [h3];rfl),h4,h5,h6⟩
    ·rename_i n hn
     refine ⟨_,_,hv,OpR.of_e fun B S ρ w re hh hx=>?_⟩
     have hr:=hx r
     rw [hn] at hr
     simp only [R] at hr
     obtain ⟨v',ρ',w',h3,h4,h5,h6⟩:=run_makeMapS (P:=P) (n:=n) ht hh
     exact ⟨v',S,ρ',w',.inl (by simp only [execOp,Sem.run_bind,Option.map_some,hr];rw [h3];rfl),h4,h5,h6⟩
    ·exact hv.elim
   ·exact hv.elim
  | none=>
   simp only [ve] at hv
   refine ⟨_,_,hv,OpR.of_e fun B S ρ w re hh hx=>?_⟩
   obtain ⟨v',ρ',w',h3,h4,h5,h6⟩:=run_makeMap (P:=P) (t:=t) hh
   exact ⟨v',S,ρ',w',.inl (by simp only [execOp,Sem.run_bind,Option.map_none];rw [h3];rfl),h4,h5,h6⟩
 case mapUpdate t m x y=>
  simp only [ve,hτ] at hv
  split at hv
  ·rename_i kt et ht
   obtain ⟨h',h1,h2⟩:=run_mapUpdate (γ:=γ) ht hv
   refine ⟨_,_,h1,OpR.of_e fun B S ρ w re hh hx=>?_⟩
   obtain ⟨ρ',w',h3,h4,h5⟩:=h2 B S ρ w _ _ _ hh (hx m) (hx x) (hx y)
   exact ⟨Go.undef,S,ρ',w',.inr ⟨by simp only [execOp,Sem.run_bind];rw [h3];rfl,rfl⟩,h4,h5,rfl⟩
  ·exact hv.elim
 case call c=>
  obtain ⟨callee,args,ts⟩:=c
  cases callee
  case builtin b=>
   cases b<;>simp only [ve] at hv<;>first | exact hv.elim | skip
   case delete=>
    split at hv
    ·rename_i m x hargs
     split at hv
     ·rename_i t r hts
      rw [hτ] at hv
      split at hv
      ·rename_i kt et ht
       rw [hτ] at hv
       have ha:args=#[m,x]:=by rw [←Array.toList_inj,hargs]
       subst ha
       have ht0:ts[0]?=some t:=by rw [←Array.getElem?_toList,hts];rfl
       obtain ⟨h',h1,h2⟩:=run_delete (γ:=γ) (ty:=ty) ht ht0 hv
       refine ⟨_,_,h1,OpR.of_e fun B S ρ w re hh hx=>?_⟩
       obtain ⟨ρ',w',h3,h4,h5⟩:=h2 B S ρ w _ _ hh (hx m) (hx x)
       exact ⟨.tuple #[],S,ρ',w',.inl (by simp [execOp,resolve,invoke,builtin,h3]),h4,h5,[],rfl,rfl⟩
      ·exact hv.elim
     ·exact hv.elim
    ·exact hv.elim
   case append=>
    split at hv
    ·rename_i x y hargs
     split at hv
     ·rename_i t u hts
      rw [hτ,hτ] at hv
      have ha:args=#[x,y]:=by rw [←Array.toList_inj,hargs]
      have hts':ts=#[t,u]:=by rw [←Array.toList_inj,hts]
      subst ha;subst hts'
      obtain ⟨v,h',h1,h2⟩:=run_vappend (γ:=γ) (ty:=ty) hv
      refine ⟨_,_,h1,OpR.of_e fun B S ρ w re hh hx=>?_⟩
      obtain ⟨v',ρ',w',h3,h4,h5,h6⟩:=h2 B S ρ w _ _ hh (hx x) (hx y)
      exact ⟨v',S,ρ',w',.inl (by simp [execOp,resolve,invoke,builtin,h3]),h4,h5,h6⟩
     ·exact hv.elim
    ·exact hv.elim
   case copy=>
    split at hv
    ·rename_i x y hargs
     split at hv
     ·rename_i t r hts
      rw [hτ] at hv
      have ha:args=#[x,y]:=by rw [←Array.toList_inj,hargs]
      subst ha
      have ht0:ts[0]?=some t:=by rw [←Array.getElem?_toList,hts];rfl
      obtain ⟨v,h',h1,h2⟩:=run_vcopy (γ:=γ) (ty:=ty) ht0 hv
      refine ⟨_,_,h1,OpR.of_e fun B S ρ w re hh hx=>?_⟩
      obtain ⟨v',ρ',w',h3,h4,h5,h6⟩:=h2 B S ρ w _ _ hh (hx x) (hx y)
      exact ⟨v',S,ρ',w',.inl (by simp [execOp,resolve,invoke,builtin,h3]),h4,h5,h6⟩
     ·exact hv.elim
    ·exact hv.elim
  case invoke r m=>exact hv.elim
  case value f=>exact hv.elim
 all_goals exact hv.elim
theorem call_sound {o:Oper} {A:St} {K:St→Prop} {f:Operand} {args:Array Operand} {ts:Array TypeId} (ho:o.op=.call ⟨.value f,args,ts⟩) {fn:Nat} {a c:List AV} (hf:A.ev γ f=.fn fn a c)
  (hc:SCalls P γ fn (a++args.toList.map (A.ev γ)++c) A.h fun v h=>K (St.put ⟨A.n,A.s,h⟩ o.dst v)):OpR P γ o A K:=by
 intro B S ρ act w next Q' hs hn
 obtain ⟨d,op,ty,pos,af,g⟩:=o
 simp only at ho
 subst ho
 have hfr:=hs.ev f
 rw [hf] at hfr
 obtain ⟨fv,cv,hfv,hr1,hr2⟩:=hfr
 have hargs:Rs S w (some ρ) (args.toList.map (A.ev γ)) (args.toList.map act.eval):=Rs_map _ fun x _=>hs.ev x
 have hall:=Rs_append (Rs_append hr1 hargs) hr2
 have hcall:=hc.2 B S ρ w _ hs.heap hall
 have hrun:(execOp act.eval ⟨d,.call ⟨.value f,args,ts⟩,ty,pos,af,g⟩).run P w=.ok (.enter fn (fv.toArray++args.map act.eval++cv.toArray)) w:=by
  simp only [execOp,resolve,Sem.run_bind,hfv,Deferred.ofValue,Sem.run_pure,Result.andThen_ok,invoke]
  exact hc.1 _ _
 unfold Oper.wp
 rw [hrun,Oper.upon_enter]
 have hva:(fv++args.toList.map act.eval++cv).toArray=fv.toArray++args.map act.eval++cv.toArray:=by
  apply Array.toList_inj.1;simp
 rw [hva] at hcall
 refine hcall.mono fun ed w' ⟨v,h',S',ρ',v',h3,h4,h5,h6,h7⟩=>?_
 subst h3
 exact hn S' ρ' _ _ w' h4 ((hs.ext h7 h6).put _ h5) h7
theorem nil_sound {o:Oper} {A:St} {K:St→Prop} {op:BinOp} {t u:TypeId} {x y:Operand} (ho:o.op=.binOp op t x y u) (hy:isNilSlice y=true) (hv:vnil (tiOf P t).k op (A.ev γ x) fun v=>K (A.put o.dst v)):OpR P γ o A K:=by
 intro B S ρ a w next Q' hs hn
 obtain ⟨d,op0,ty,pos,af,g⟩:=o
 simp only at ho
 subst ho
 have hyc:y=.const (.slice none 0 0):=by
  unfold isNilSlice at hy
  split at hy
  ·rfl
  ·cases hy
 subst hyc
 unfold vnil at hv
 split at hv
 ·rename_i e sz by' z hk
  obtain ⟨hu,_⟩:=tk_slice hk
  split at hv
  ·rename_i p hp
   have hx:=hs.ev x
   obtain ⟨ad,n,cap,hxv,hemp⟩:∃ ad n cap,a.eval x=.slice ad n cap∧(ad=none→p ()):=by
    generalize hgx:A.ev γ x=xa at hx hp
    cases xa<;>simp [emp] at hp
    case sl b g k off len=>
     subst hp
     obtain ⟨l,loc,a',cap,_,_,_,_,_,h5,h6,h7,_⟩:=hx
     refine ⟨a',_,cap,h5,fun e=>?_⟩
     rcases h7 with h7 | ⟨ab,ao,h7⟩
     ·omega
     ·rw [e] at h7;cases h7
    case nils=>
     subst hp
     obtain ⟨a',h5⟩:=hx
     exact ⟨a',0,0,h5,fun _=>trivial⟩
    case vs k es=>
     subst hp
     obtain ⟨a',cap,evs,h5,h6,h7,h8⟩:=hx
     refine ⟨a',_,cap,h5,fun e=>?_⟩
     rcases h8 with h8 | ⟨ad,h8,_⟩
     ·subst h8
      have:=Rs_len ((RL_iff _ _ _ _).1 h7)
      exact List.eq_nil_of_length_eq_zero (by simpa using this.symm)
     ·rw [e] at h8;cases h8
   have hrun:∀ b:Bool,b=ad.isNone→(Op.equal t (.slice ad n cap) (.slice none 0 0)).run P w=.ok b w:=by
    rintro b rfl
    have hd:Op.maxDepth=9999+1:=rfl
    rw [Op.equal,hd,Op.equalIn]
    cases ad<;>simp [run_underlying hu]
   have hyv:a.eval (.const (.slice none 0 0))=.slice none 0 0:=rfl
   unfold Oper.wp
   cases op<;>simp only at hv<;>first | exact hv.elim | skip
   case eql=>
    have:=hv ad.isNone fun _ h=>hemp (by simpa using h)
    have hex:(execOp a.eval ⟨d,.binOp .eql t x (.const (.slice none 0 0)) u,ty,pos,af,g⟩).run P w=.ok (.value (.bool ad.isNone)) w:=by
     simp [execOp,hxv,hyv,eqGuard,binOp,hrun _ rfl]
    rw [hex]
    exact hn S ρ _ _ w this (hs.put d (v:=.b fun _=>ad.isNone) rfl) (Ext.refl B S ρ w)
   case neq=>
    have:=hv ad.isNone fun _ h=>hemp (by simpa using h)
    have hex:(execOp a.eval ⟨d,.binOp .neq t x (.const (.slice none 0 0)) u,ty,pos,af,g⟩).run P w=.ok (.value (.bool (!ad.isNone))) w:=by
     simp [execOp,hxv,hyv,eqGuard,binOp,hrun _ rfl]
    rw [hex]
    exact hn S ρ _ _ w this (hs.put d (v:=.b fun _=>!ad.isNone) rfl) (Ext.refl B S ρ w)
  ·exact hv.elim
 ·exact hv.elim
theorem vop_sound (hτ:∀ t,τ t=tiOf P t) (hC:∀ f args h Q,C f args h Q→PC P γ f args h Q) {o:Oper} {A:St} {K:St→Prop} (hv:vop τ γ C o A K):OpR P γ o A K:=by
 have quiet:vq τ (fun _ _ _=>False) o.op (A.ev γ) A.h (fun v=>K (A.put o.dst v))→OpR P γ o A K:=fun h=>by
  obtain ⟨v,h1,h2⟩:=vq_sound (γ:=γ) hτ (fun _ _ _ h=>h.elim) h
  exact (OpR.of_q h2).mono fun A' e=>e ▸ h1
 have eff:ve τ o.op (A.ev γ) A.h (fun v h=>K (St.put ⟨A.n,A.s,h⟩ o.dst v))→OpR P γ o A K:=fun h=>by
  obtain ⟨v,h',h1,h2⟩:=ve_sound hτ h
  exact h2.mono fun A' e=>e ▸ h1
 unfold vop at hv
 split at hv
 ·exact eff hv
 ·exact eff hv
 ·exact eff hv
 ·exact eff hv
 ·exact eff hv
 ·exact eff hv
 ·exact eff hv
 ·exact eff hv
 ·exact eff hv
 ·rename_i f args ts ho
  split at hv
  ·rename_i fn a c hf
   exact call_sound ho hf (hC _ _ _ _ hv)
  ·split at hv
   ·exact (hC _ _ _ _ hv).elim
   ·exact hv.elim
  ·exact hv.elim
 ·rename_i op t x y u ho
  split at hv
  ·rename_i hy
   rw [hτ] at hv
   exact nil_sound ho hy hv
  ·rw [←ho] at hv
   exact quiet hv
 ·exact quiet hv
theorem vop_split {o:Oper} {A:St} {K:St→Prop} (hv:vop τ γ C o A K):vop τ γ C.noY o A K∨∃ f args ts l,o.op=.call ⟨.value f,args,ts⟩∧A.ev γ f=.raw (.func (.yield l) #[] #[]) ∧
  C (.inr l) (args.toList.map (A.ev γ)) A.h fun v h=>K (St.put ⟨A.n,A.s,h⟩ o.dst v):=by
 obtain ⟨d,op,ty,pos,af,g⟩:=o
 by_cases hc:∃ f args ts,op=.call ⟨.value f,args,ts⟩
 ·obtain ⟨f,args,ts,rfl⟩:=hc
  simp only [vop] at hv ⊢
  cases hf:A.ev γ f with
  | fn fn a c=>left;rw [hf] at hv;exact hv
  | raw v=>
   rw [hf] at hv
   simp only at hv
   split at hv
   ·rename_i l hl
    exact .inr ⟨f,args,ts,l,rfl,by rw [hf,yieldOf_eq hl],hv⟩
   ·exact hv.elim
  | _=>rw [hf] at hv;exact hv.elim
 ·left
  unfold vop at hv ⊢
  split at hv
  case h_10 f args ts ho=>exact absurd ⟨f,args,ts,ho⟩ hc
  all_goals exact hv
end
end Go.AL
namespace Go.AL
open Go Go.RowKit
def vops (τ:Nat→TI) (γ:Nat→Option AV) (C:EC) (ops:List Oper):List Oper→St→(St→Prop)→Prop
 | [],A,K=>K A
 | o :: r,A,K=>
  match o.guard with
  | none=>vop τ γ C o A fun A=>vops τ γ C ops r A K
  | some (j,want)=>match ops[j]? with
   | some oj=>match oj.dst with
    | some d=>match A.s.get d with
     | .tt=>match want with
      | true=>vop τ γ C o A fun A=>vops τ γ C ops r A K
      | false=>vops τ γ C ops r (A.put o.dst .undef) K
     | .ff=>match want with
      | false=>vop τ γ C o A fun A=>vops τ γ C ops r A K
      | true=>vops τ γ C ops r (A.put o.dst .undef) K
     | .undef=>vops τ γ C ops r (A.put o.dst .undef) K
     | .b x=>match want with
      | true=>(∀ _:Unit,x ()=true→vop τ γ C o (A.put (some d) .tt) fun A=>vops τ γ C ops r A K)∧(∀ _:Unit,x ()=false→vops τ γ C ops r ((A.put (some d) .ff).put o.dst .undef) K)
      | false=>(∀ _:Unit,x ()=true→vops τ γ C ops r ((A.put (some d) .tt).put o.dst .undef) K)∧(∀ _:Unit,x ()=false→vop τ γ C o (A.put (some d) .ff) fun A=>vops τ γ C ops r A K)
     | _=>False
    | none=>False
   | none=>False
section
variable {P:Program} {γ:Nat→Option AV} {τ:Nat→TI} {C:EC}
theorem Sim.reput {B:Nat} {S:Nat→Prop} {ρ:List Loc} {A:St} {a:Act} {w:World} (h:Sim B S γ ρ A a w) (d:Nat) {v:AV} (hv:R S w (some ρ) v (a.tmps.getD d Go.undef)):Sim B S γ ρ (A.put (some d) v) a w:=by
 simp only [St.put]
 split
 ·rename_i hd0
  have hd:@LT.lt Nat _ d A.n:=hd0
  refine ⟨h.nodef,h.size,h.small,fun n=>?_,h.heap⟩
  show R S w (some ρ) ((A.s.set' 10 d v).get n) _
  have hs:=h.small
  rw [Tr.get_set' 10 A.s d n v (by omega)]
  by_cases hn:n=d
  ·subst hn;rw [if_pos rfl];exact hv
  ·rw [if_neg hn];exact h.slot n
 ·exact h
theorem yielded_eq {ops:Array Oper} {j:Nat} {oj:Oper} {d:Nat} (hj:ops.toList[j]?=some oj) (hd:oj.dst=some d) (tmps:Array Value) :
  yielded ops tmps j=match tmps.getD d Go.undef with | .bool b=>some b | _=>none:=by
 have hj':ops[j]?=some oj:=by simpa using hj
 unfold yielded
 rw [hj']
 simp only [Option.bind_some,hd]
 by_cases h:d<tmps.size
 ·rw [Array.getElem?_eq_getElem h]
  have:tmps.getD d Go.undef=tmps[d]:=by simp [Array.getD,h]
  rw [this]
  cases tmps[d]<;>rfl
 ·rw [Array.getElem?_eq_none (by omega)]
  have:tmps.getD d Go.undef=Go.undef:=by simp [Array.getD,h]
  rw [this];rfl
theorem vops_sound (hτ:∀ t,τ t=tiOf P t) (hC:∀ f args h Q,C f args h Q→PC P γ f args h Q) {ops:Array Oper} {Q:Exit→Act→World→Prop} {K:St→Prop}:∀ (l:List Oper) (A:St) (B:Nat) (S:Nat→Prop) (ρ:List Loc) (a:Act) (w:World),
  Sim B S γ ρ A a w→vops τ γ C ops.toList l A K→(∀ S' ρ' A' a' w',K A'→Sim B S' γ ρ' A' a' w'→Ext B S ρ w S' ρ' w'→Q .normal a' w')→wpList P ops Q l a w
 | [],A,B,S,ρ,a,w,hs,hv,hK=>hK S ρ A a w hv hs (Ext.refl B S ρ w)
 | o :: l,A,B,S,ρ,a,w,hs,hv,hK=>by
  have go:∀ A0,Sim B S γ ρ A0 a w→vop τ γ C o A0 (fun A=>vops τ γ C ops.toList l A K)→o.wp P a w (wpList P ops Q l) Q:=fun A0 hs0 h0=>
   vop_sound hτ hC h0 B S ρ a w _ _ hs0 fun S' ρ' A' a' w' h1 h2 h3=>vops_sound hτ hC l A' B S' ρ' a' w' h2 h1 fun S'' ρ'' A'' a'' w'' k1 k2 k3=>hK S'' ρ'' A'' a'' w'' k1 k2 (h3.trans k3)
  have skip:∀ A0,Sim B S γ ρ A0 a w→vops τ γ C ops.toList l (A0.put o.dst .undef) K→wpList P ops Q l (a.put o.dst Go.undef) w:=fun A0 hs0 h0=>
   vops_sound hτ hC l _ B S ρ _ w (hs0.put o.dst (v:=.undef) (v':=Go.undef) rfl) h0 hK
  simp only [wpList]
  simp only [vops] at hv
  split at hv
  ·rename_i hg
   rw [if_pos (by simp [Region.wanted,hg])]
   exact .inl (go A hs hv)
  ·rename_i j want hg
   split at hv
   ·rename_i oj hj
    split at hv
    ·rename_i d hd
     have hy:=yielded_eq hj hd a.tmps
     have hslot:=hs.slot d
     have yes:∀ b:Bool,a.tmps.getD d Go.undef=.bool b→want=b→Region.wanted o (yielded ops a.tmps)=true:=fun b h1 h2=>by
      simp only [Region.wanted,hg,hy,h1,h2];simp
     have no:∀ b:Bool,a.tmps.getD d Go.undef=.bool b→want≠b→¬ Region.wanted o (yielded ops a.tmps)=true:=fun b h1 h2=>by
      simp only [Region.wanted,hg,hy,h1];simp;exact fun h=>h2 h.symm
     split at hv
     ·rename_i hst;rw [hst] at hslot
      split at hv
      ·rw [if_pos (yes true hslot rfl)];exact .inl (go A hs hv)
      ·rw [if_neg (no true hslot (by simp))];exact skip A hs hv
     ·rename_i hst;rw [hst] at hslot
      split at hv
      ·rw [if_pos (yes false hslot rfl)];exact .inl (go A hs hv)
      ·rw [if_neg (no false hslot (by simp))];exact skip A hs hv
     ·rename_i hst;rw [hst] at hslot
      have:¬ Region.wanted o (yielded ops a.tmps)=true:=by
       have e:a.tmps.getD d Go.undef=Go.undef:=hslot
       unfold Region.wanted
       rw [hg]
       simp only [hy]
       rw [e]
       simp [Go.undef]
      rw [if_neg this];exact skip A hs hv
     ·rename_i x hst;rw [hst] at hslot
      have hslot:a.tmps.getD d Go.undef=.bool (x ()):=hslot
      split at hv
      ·cases hx:x () with
       | true=>
        rw [hx] at hslot
        rw [if_pos (yes true hslot rfl)];exact .inl (go _ (hs.reput d (v:=.tt) hslot) (hv.1 () hx))
       | false=>
        rw [hx] at hslot
        rw [if_neg (no false hslot (by simp))];exact skip _ (hs.reput d (v:=.ff) hslot) (hv.2 () hx)
      ·cases hx:x () with
       | true=>
        rw [hx] at hslot
        rw [if_neg (no true hslot (by simp))];exact skip _ (hs.reput d (v:=.tt) hslot) (hv.1 () hx)
       | false=>
        rw [hx] at hslot
        rw [if_pos (yes false hslot rfl)];exact .inl (go _ (hs.reput d (v:=.ff) hslot) (hv.2 () hx))
     ·exact hv.elim
    ·exact hv.elim
   ·exact hv.elim
theorem op_bridge0 {o:Oper} {a:Act} {w:World} {n:Nat} {next:Act→World→Prop} {Q':Exit→Act→World→Prop} (h:o.wp P a w next fun e _ _=>e=.normal):o.wpIn Fence.wide n P a w next Q':=by
 refine ⟨fun _ _=>trivial,?_⟩
 unfold Oper.wp at h
 show o.uponIn Fence.wide n P a next Q' ((execOp a.eval o).run P w)
 generalize (execOp a.eval o).run P w=r at h ⊢
 cases r with
 | ok x w'=>
  cases x with
  | value v=>exact h
  | skip=>exact h
  | defer d=>exact h
  | enter f args=>
   simp only [Oper.upon,Oper.uponIn] at h ⊢
   refine ⟨(by intro h;cases h),callsIn_wide.2 (h.mono fun e w'' he=>?_)⟩
   cases e with
   | returned v=>exact he
   | panicked c=>cases he
   | outgrown=>obtain ⟨a0,w0,h0⟩:=he;cases h0
  | row r args=>
   simp only [Oper.upon,Oper.uponIn] at h ⊢
   exact ⟨(by intro h;cases h),rowsIn_RF (ro:=none) h⟩
  | _=>exact h.elim
 | halt x w'=>
  cases x with
  | panic v=>cases h
  | _=>exact h.elim
theorem ycall_sound {o:Oper} {A:St} {K:St→Prop} {f:Operand} {args:Array Operand} {ts:Array TypeId} {l n:Nat} (ho:o.op=.call ⟨.value f,args,ts⟩) (hf:A.ev γ f=.raw (.func (.yield l) #[] #[]))
  (hc:YCall P γ l (args.toList.map (A.ev γ)) A.h fun v h=>K (St.put ⟨A.n,A.s,h⟩ o.dst v)) {B:Nat} {S:Nat→Prop} {ρ:List Loc} {a:Act} {w:World} {next:Act→World→Prop} {Q':Exit→Act→World→Prop} (hs:Sim B S γ ρ A a w)
  (hn:∀ S' ρ' A' a' w',K A'→Sim B S' γ ρ' A' a' w'→Ext B S ρ w S' ρ' w'→next a' w'):o.wpIn Fence.wide n P a w next Q':=by
 obtain ⟨d,op,ty,pos,af,g⟩:=o
 simp only at ho
 subst ho
 have hfr:a.eval f=.func (.yield l) #[] #[]:=by have:=hs.ev f;rw [hf] at this;exact this
 have hargs:Rs S w (some ρ) (args.toList.map (A.ev γ)) (args.toList.map a.eval):=Rs_map _ fun x _=>hs.ev x
 obtain ⟨fn,tmps,as,bd,hy,hr⟩:=hc B S ρ w _ hs.heap hargs
 refine ⟨fun _ _=>trivial,?_⟩
 have hva:(args.toList.map a.eval).toArray=args.map a.eval:=by apply Array.toList_inj.1;simp
 rw [hva] at hy
 have hrun:(execOp a.eval ⟨d,.call ⟨.value f,args,ts⟩,ty,pos,af,g⟩).run P w=.ok (.round l fn tmps as bd) w:=by
  simp only [execOp,resolve,Sem.run_bind,hfr,Deferred.ofValue,Sem.run_pure,Result.andThen_ok,invoke]
  simpa using hy
 show Oper.uponIn Fence.wide n P _ a next Q' ((execOp a.eval ⟨d,.call ⟨.value f,args,ts⟩,ty,pos,af,g⟩).run P w)
 rw [hrun,Oper.uponIn_round]
 refine ⟨(by intro h;cases h),(hr _).mono fun ed w' ⟨v,h',S',ρ',v',h3,h4,h5,h6,h7⟩=>?_⟩
 subst h3
 exact hn S' ρ' _ _ w' h4 ((hs.ext h7 h6).put _ h5) h7
theorem vops_soundIn (hτ:∀ t,τ t=tiOf P t) (hC:∀ f args h Q,C f args h Q→SC P γ f args h Q) {ops:Array Oper} {n:Nat} {Q:Exit→Act→World→Prop} {K:St→Prop}:∀ (l:List Oper) (A:St) (B:Nat) (S:Nat→Prop) (ρ:List Loc) (a:Act) (w:World),
  Sim B S γ ρ A a w→vops τ γ C ops.toList l A K→(∀ S' ρ' A' a' w',K A'→Sim B S' γ ρ' A' a' w'→Ext B S ρ w S' ρ' w'→Q .normal a' w')→wpListIn Fence.wide n P ops Q l a w
 | [],A,B,S,ρ,a,w,hs,hv,hK=>hK S ρ A a w hv hs (Ext.refl B S ρ w)
 | o :: l,A,B,S,ρ,a,w,hs,hv,hK=>by
  have go:∀ A0,Sim B S γ ρ A0 a w→vop τ γ C o A0 (fun A=>vops τ γ C ops.toList l A K)→o.wpIn Fence.wide n P a w (wpListIn Fence.wide n P ops Q l) Q:=fun A0 hs0 h0=>by
   rcases vop_split h0 with h0 | ⟨f,args,ts,l0,ho,hf,hv0⟩
   rotate_left
   ·exact ycall_sound (K:=fun A=>vops τ γ C ops.toList l A K) ho hf (hC (.inr l0) _ _ _ hv0:YCall P γ l0 _ _ _) hs0 fun S' ρ' A' a' w' h1 h2 h3=>vops_soundIn hτ hC l A' B S' ρ' a' w' h2 h1 fun S'' ρ'' A'' a'' w'' k1 k2 k3=>hK S'' ρ'' A'' a'' w'' k1 k2 (h3.trans k3)
   refine op_bridge0 ?_
   exact vop_sound hτ (fun f args h Q hq=>SC.noY_pc f args h Q (by cases f<;>first | exact hC _ _ _ _ hq | exact hq)) h0 B S ρ a w _ _ hs0 fun S' ρ' A' a' w' h1 h2 h3=>vops_soundIn hτ hC l A' B S' ρ' a' w' h2 h1 fun S'' ρ'' A'' a'' w'' k1 k2 k3=>hK S'' ρ'' A'' a'' w'' k1 k2 (h3.trans k3)
  have skip:∀ A0,Sim B S γ ρ A0 a w→vops τ γ C ops.toList l (A0.put o.dst .undef) K→wpListIn Fence.wide n P ops Q l (a.put o.dst Go.undef) w:=fun A0 hs0 h0=>
   vops_soundIn hτ hC l _ B S ρ _ w (hs0.put o.dst (v:=.undef) (v':=Go.undef) rfl) h0 hK
  simp only [wpListIn]
  simp only [vops] at hv
  split at hv
  ·rename_i hg
   rw [if_pos (by simp [Region.wanted,hg])]
   exact (go A hs hv)
  ·rename_i j want hg
   split at hv
   ·rename_i oj hj
    split at hv
    ·rename_i d hd
     have hy:=yielded_eq hj hd a.tmps
     have hslot:=hs.slot d
     have yes:∀ b:Bool,a.tmps.getD d Go.undef=.bool b→want=b→Region.wanted o (yielded ops a.tmps)=true:=fun b h1 h2=>by
      simp only [Region.wanted,hg,hy,h1,h2];simp
     have no:∀ b:Bool,a.tmps.getD d Go.undef=.bool b→want≠b→¬ Region.wanted o (yielded ops a.tmps)=true:=fun b h1 h2=>by
      simp only [Region.wanted,hg,hy,h1];simp;exact fun h=>h2 h.symm
     split at hv
     ·rename_i hst;rw [hst] at hslot
      split at hv
      ·rw [if_pos (yes true hslot rfl)];exact (go A hs hv)
      ·rw [if_neg (no true hslot (by simp))];exact ⟨fun _ _=>trivial,skip A hs hv⟩
     ·rename_i hst;rw [hst] at hslot
      split at hv
      ·rw [if_pos (yes false hslot rfl)];exact (go A hs hv)
      ·rw [if_neg (no false hslot (by simp))];exact ⟨fun _ _=>trivial,skip A hs hv⟩
     ·rename_i hst;rw [hst] at hslot
      have:¬ Region.wanted o (yielded ops a.tmps)=true:=by
       have e:a.tmps.getD d Go.undef=Go.undef:=hslot
       unfold Region.wanted
       rw [hg]
       simp only [hy]
       rw [e]
       simp [Go.undef]
      rw [if_neg this];exact ⟨fun _ _=>trivial,skip A hs hv⟩
     ·rename_i x hst;rw [hst] at hslot
      have hslot:a.tmps.getD d Go.undef=.bool (x ()):=hslot
      split at hv
      ·cases hx:x () with
       | true=>
        rw [hx] at hslot
        rw [if_pos (yes true hslot rfl)];exact (go _ (hs.reput d (v:=.tt) hslot) (hv.1 () hx))
       | false=>
        rw [hx] at hslot
        rw [if_neg (no false hslot (by simp))];exact ⟨fun _ _=>trivial,skip _ (hs.reput d (v:=.ff) hslot) (hv.2 () hx)⟩
      ·cases hx:x () with
       | true=>
        rw [hx] at hslot
        rw [if_neg (no true hslot (by simp))];exact ⟨fun _ _=>trivial,skip _ (hs.reput d (v:=.tt) hslot) (hv.1 () hx)⟩
       | false=>
        rw [hx] at hslot
        rw [if_pos (yes false hslot rfl)];exact (go _ (hs.reput d (v:=.ff) hslot) (hv.2 () hx))
     ·exact hv.elim
    ·exact hv.elim
   ·exact hv.elim
theorem AWP.region {id:Nat} {ops:Array Oper} {Q:Exit→St→Prop} {A:St} (hτ:∀ t,τ t=tiOf P t) (hC:∀ f args h Q,C f args h Q→SC P γ f args h Q) (hv:vops τ γ C ops.toList ops.toList A (Q .normal)):AWP P γ (.region id ops false) Q A:=
 fun B S ρ a w hs=>(wpIn_wide (n:=0)).1 (wpIn_region_list (vops_soundIn hτ hC _ A B S ρ a w hs hv fun S' ρ' A' _ _ h1 h2 h3=>⟨S',ρ',A',h1,h2,h3⟩))
def thenE (next:St→Prop) (Q:Exit→St→Prop):Exit→St→Prop
 | .normal,A=>next A
 | e,A=>Q e A
def inBlk (id:Nat) (Q:Exit→St→Prop):Exit→St→Prop
 | .exit id',A=>if id'=id then Q .normal A else Q (.exit id') A
 | e,A=>Q e A
theorem AWP.mono {c:Code} {Q Q':Exit→St→Prop} {A:St} (h:AWP P γ c Q A) (hq:∀ e A,Q e A→Q' e A):AWP P γ c Q' A:=
 fun B S ρ a w hs=>wp_mono (h B S ρ a w hs) fun e a' w' ⟨S',ρ',A',h1,h2,h3⟩=>⟨S',ρ',A',hq _ _ h1,h2,h3⟩
theorem AWP.skip {Q:Exit→St→Prop} {A:St} (h:Q .normal A):AWP P γ .skip Q A:=fun B S ρ a w hs=>wp_skip ⟨S,ρ,A,h,hs,Ext.refl _ _ _ _⟩
theorem AWP.exit {id:Nat} {Q:Exit→St→Prop} {A:St} (h:Q (.exit id) A):AWP P γ (.exit id) Q A:=fun B S ρ a w hs=>wp_exit ⟨S,ρ,A,h,hs,Ext.refl _ _ _ _⟩
theorem AWP.ret {Q:Exit→St→Prop} {A:St} (h:Q .ret A):AWP P γ .ret Q A:=fun B S ρ a w hs=>wp_ret ⟨S,ρ,A,h,hs,Ext.refl _ _ _ _⟩
theorem AWP.seq {x y:Code} {Q:Exit→St→Prop} {A:St} (h:AWP P γ x (thenE (fun A=>AWP P γ y Q A) Q) A):AWP P γ (.seq x y) Q A:=by
 intro B S ρ a w hs
 refine wp_seq (wp_mono (h B S ρ a w hs) fun e a' w' ⟨S',ρ',A',h1,h2,h3⟩=>?_)
 cases e with
 | normal=>exact wp_mono (h1 B S' ρ' a' w' h2) fun e a'' w'' ⟨S'',ρ'',A'',k1,k2,k3⟩=>⟨S'',ρ'',A'',k1,k2,h3.trans k3⟩
 | _=>exact ⟨S',ρ',A',h1,h2,h3⟩
theorem AWP.cond {c:Operand} {x y:Code} {Q:Exit→St→Prop} {A:St} (h:br (A.ev γ c) (fun _=>AWP P γ x Q A) (fun _=>AWP P γ y Q A)):AWP P γ (.cond c x y) Q A:=by
 intro B S ρ a w hs
 obtain ⟨b,h1,h2⟩:=br_val h
 refine wp_cond (t:=b) (h1 S w (some ρ) _ (hs.ev c)) ?_
 cases b
 ·exact h2 B S ρ a w hs
 ·exact h2 B S ρ a w hs
theorem AWP.block {id:Nat} {c:Code} {Q:Exit→St→Prop} {A:St} (h:AWP P γ c (inBlk id Q) A):AWP P γ (.block id c) Q A:=by
 intro B S ρ a w hs
 refine wp_block (wp_mono (h B S ρ a w hs) fun e a' w' ⟨S',ρ',A',h1,h2,h3⟩=>?_)
 cases e with
 | exit id'=>
  simp only [Exit.inBlock]
  simp only [inBlk] at h1
  split at h1
  ·rename_i e;rw [if_pos e];exact ⟨S',ρ',A',h1,h2,h3⟩
  ·rename_i e;rw [if_neg e];exact ⟨S',ρ',A',h1,h2,h3⟩
 | _=>exact ⟨S',ρ',A',h1,h2,h3⟩
end
end Go.AL
namespace Go.AL
open Go Go.RowKit
mutual
def fz (h:List Blk):AV→AV→Prop
 | .i n,x=>match x with | .i m=>∀ _:Unit,m ()=n () | .lit m=>∀ _:Unit,m=n () | _=>False
 | .u n,x=>match x with | .u m=>∀ _:Unit,m ()=n () | _=>False
 | .b n,x=>match x with | .b m=>∀ _:Unit,m ()=n () | .tt=>∀ _:Unit,n ()=true | .ff=>∀ _:Unit,n ()=false | _=>False
 | .vs k es,x=>match x with
  | .vs k' es'=>k'=k∧∀ _:Unit,(es' ()).l=(es ()).l
  | .nils=>∀ _:Unit,(es ()).l=[]
  | .sl b g k' off len=>match h[b]? with
   | some (.run g' _ es')=>k'=k∧∀ _:Unit,g'=g∧off ()+len ()≤(es' ()).l.length∧(((es' ()).l.drop (off ())).take (len ()))=(es ()).l
   | some (.nest g' q ess hole)=>match hole with
    | none=>k'=k∧k=1∧∀ _:Unit,g'=g∧off ()=0∧len ()=(ess ()).length∧(es ()).l=(ess ()).map fun x=>.vs q fun _=>x
    | some _=>False
   | _=>False
  | _=>False
 | .vp v off,x=>match x with
  | .vp v' off'=>off'=off∧∀ _:Unit,v' ()=v ()
  | .ptr b off'=>match h[b]? with
   | some (.box w)=>off'=off∧fz h (v ()) w
   | _=>False
  | _=>False
 | .agg ds,x=>match x with | .agg cs=>fzs h ds cs | _=>False
 | .tup ds,x=>match x with | .tup cs=>fzs h ds cs | _=>False
 | .fn f a c,x=>match x with | .fn f' a' c'=>f'=f∧fzs h a a'∧fzs h c c' | _=>False
 | .any,_=>True
 | .raw v,x=>∀ _:Unit,x=.raw v
 | .np,x=>match x with | .np=>True | _=>False
 | .nils,x=>match x with | .nils=>True | _=>False
 | .undef,x=>match x with | .undef=>True | _=>False
 | .vm ks vs,x=>match x with
  | .vm ks' vs'=>∀ _:Unit,(ks' ()).l=(ks ()).l∧(vs' ()).l=(vs ()).l
  | .mp b=>match h[b]? with
   | some (.map ks' vs')=>∀ _:Unit,(ks' ()).l=(ks ()).l∧(vs' ()).l=(vs ()).l
   | _=>False
  | _=>False
 | _,_=>False
def fzs (h:List Blk):List AV→List AV→Prop
 | [],xs=>match xs with | []=>True | _=>False
 | y :: ys,xs=>match xs with | x :: xs=>fz h y x∧fzs h ys xs | []=>False
end
abbrev Froz (S:Nat→Prop) (ρ:List Loc):Nat→Prop:=fun k=>S k∨∃ (b:Nat) (loc:Loc),ρ[b]?=some loc∧loc.has k
section
variable {P:Program} {γ:Nat→Option AV}
theorem l_inj {a b:LV} (h:a.l=b.l):a=b:=by rw [←LV.of_l a,←LV.of_l b,h]
theorem nest_data {B:Nat} {S S':Nat→Prop} {ρ:List Loc} {h:List Blk} {w:World} (hh:HeapR B S γ ρ h w) {b g q:Nat} {ess:Unit→List LV} (hb:h[b]?=some (.nest g q ess none)) {off len:Unit→Nat} {v:Value} (hr:R S w (some ρ) (.sl b g 1 off len) v)
  (h0:off ()=0) (hl:len ()=(ess ()).length) (hS:∀ k,S k→S' k) (hown:∀ loc K,ρ[b]?=some loc→loc.has K→S' K) {es:Unit→LV} (he:(es ()).l=(ess ()).map fun x=>.vs q fun _=>x):R S' w none (.vs 1 es) v:=by
 obtain ⟨l,loc,a,cap,hl',q1,q2,q3,q4,rfl,q6,q7,q8⟩:=hr
 cases hl'
 obtain ⟨d1,d2,d3,evs,d4,d5,d6,d7⟩:=hh.blk b _ loc hb q1
 have hlen:evs.length=len ():=by omega
 have cell:∀ (i:Nat) (e:Value),evs[i]?=some e→∃ x,(ess ())[i]?=some x∧R S' w none (.vs q fun _=>x) e∧e.cells=#[e]:=fun i e hi=>by
  have hil:=(List.getElem?_eq_some_iff.1 hi).1
  obtain ⟨x,hx⟩:∃ x,(ess ())[i]?=some x:=⟨_,List.getElem?_eq_getElem (by omega)⟩
  obtain ⟨s,hs⟩:∃ s,loc.sub[i]?=some s:=⟨_,List.getElem?_eq_getElem (by omega)⟩
  obtain ⟨a',cap',ievs,rfl,p2,p3,p4,p5,p6⟩:=d7 i x e s hx hi hs
  refine ⟨x,hx,⟨a',cap',ievs,rfl,p2,RL.mono hS (fun _ _=>rfl) _ _ p4,?_⟩,rfl⟩
  rcases p6 with ⟨_,p6⟩ | ⟨K,c,ty,r1,r2,r3,r4,r5⟩
  ·left;exact List.eq_nil_of_length_eq_zero (by omega)
  ·by_cases hz:ievs=[]
   ·exact .inl hz
   ·have hpos:0<ievs.length:=List.length_pos_iff.2 hz
    rcases r2 with r2 | r2
    ·omega
    ·refine .inr ⟨_,r2,rfl,hown loc K q1 (.inr (by rw [←r1];exact List.mem_of_getElem? hs)),fun i e hi=>?_⟩
     obtain ⟨z1,z2⟩:=r5 i e hi
     refine ⟨z1,fun j y hy=>?_⟩
     rw [cell_heap r4]
     simpa using z2 j y hy
 refine ⟨a,cap,evs,by rw [hlen],by omega,?_,?_⟩
 ·rw [RL_iff,he,Rs_iff]
  refine ⟨by simp;omega,fun i c v hc hv=>?_⟩
  obtain ⟨x,hx,hr,_⟩:=cell i v hv
  rw [List.getElem?_map,hx] at hc
  simp at hc
  subst hc
  exact hr
 ·by_cases hz:evs=[]
  ·exact .inl hz
  ·have hpos:0<evs.length:=List.length_pos_iff.2 hz
   rcases q8 d2 with ⟨_,z2,_⟩ | ⟨K,z1,z2,z3⟩
   ·omega
   ·rcases d4 with ⟨e1,_⟩ | ⟨K',c,ty,e1,e2,e3,e4,e5⟩
    ·rw [z1] at e1;cases e1
    ·rw [z1] at e1;cases e1
     rcases z2 with z2 | z2
     ·omega
     ·refine .inr ⟨_,z2,rfl,hown loc K q1 (.inl z1),fun i e hi=>?_⟩
      obtain ⟨x,_,_,hc⟩:=cell i e hi
      refine ⟨by rw [hc];rfl,fun j y hy=>?_⟩
      rw [hc] at hy
      have hj:j=0:=by have:=(Array.getElem?_eq_some_iff.1 hy).1;simpa using this
      subst hj
      simp at hy
      subst hy
      rw [cell_heap e2,h0]
      simpa using e5 i e hi
mutual
theorem fz_sound {B:Nat} {S:Nat→Prop} {ρ:List Loc} {h:List Blk} {w:World} (hh:HeapR B S γ ρ h w) (y x:AV) (v:Value) (hf:fz h y x) (hr:R S w (some ρ) x v):R (Froz S ρ) w none y v:=by
 have up:∀ {x:AV} {v:Value},R S w none x v→R (Froz S ρ) w none x v:=fun {x v} h=>R.mono (S':=Froz S ρ) (w':=w) (fun k hk=>.inl hk) (fun _ _=>rfl) (ρ:=none) (ρ':=none) trivial x v h
 match y with
 | .i n=>
  simp only [fz] at hf;split at hf
  ·simp only [R] at hr ⊢;rw [hr,hf ()]
  ·simp only [R] at hr ⊢;rw [hr,hf ()]
  ·exact hf.elim
 | .u n=>
  simp only [fz] at hf;split at hf
  ·simp only [R] at hr ⊢;rw [hr,hf ()]
  ·exact hf.elim
 | .b n=>
  simp only [fz] at hf;split at hf
  ·simp only [R] at hr ⊢;rw [hr,hf ()]
  ·simp only [R] at hr ⊢;rw [hr,hf ()]
  ·simp only [R] at hr ⊢;rw [hr,hf ()]
  ·exact hf.elim
 | .vs k es=>
  simp only [fz] at hf;split at hf
  ·obtain ⟨rfl,e⟩:=hf;have e:=e ()
   obtain ⟨a,cap,evs,h1,h2,h3,h4⟩:=up (x:=.vs _ _) hr
   exact ⟨a,cap,evs,h1,h2,(l_inj e) ▸ h3,h4⟩
  ·obtain ⟨a,rfl⟩:=hr
   exact ⟨a,0,[],rfl,Nat.le_refl _,by rw [RL_iff,hf ()];rfl,.inl rfl⟩
  ·rename_i b g k' off len
   split at hf
   ·rename_i g' kk es' hb
    obtain ⟨rfl,e⟩:=hf;obtain ⟨rfl,e1,e2⟩:=e ()
    obtain ⟨l,loc,a,cap,hl,q1,q2,q3,q4,rfl,q6,q7,q8⟩:=hr
    cases hl
    obtain ⟨_,d2,d3,bvs,d4,d5,d6⟩:=hh.blk b _ loc hb q1
    have d4':=(RL_iff _ _ _ _).1 d4
    have hbl:bvs.length=(es' ()).l.length:=Rs_len d4'
    have hlt:((bvs.drop (off ())).take (len ())).length=len ():=by simp;omega
    refine ⟨a,cap,(bvs.drop (off ())).take (len ()),by rw [hlt],by rw [hlt];exact q6,?_,?_⟩
    ·rw [RL_iff,←e2]
     exact Rs.mono (S:=S) (fun k hk=>.inl hk) (fun _ _=>rfl) (ρ:=none) (ρ':=none) trivial _ _ (Rs_take (Rs_drop d4' _) _)
    ·by_cases hn:len ()=0
     ·left;simp [hn]
     ·rcases q8 d2 with ⟨r1,r2,_⟩ | ⟨K,r1,r2,r3⟩
      ·omega
      ·rcases d6 with ⟨e1,_⟩ | ⟨K',cc,cty,m1,m2,m3,m4,m5⟩
       ·rw [r1] at e1;cases e1
       ·rw [r1] at m1;cases m1
        rcases r2 with r2 | r2
        ·omega
        ·right
         refine ⟨_,r2,rfl,.inr ⟨b,loc,q1,(.inl r1)⟩,fun i e he=>?_⟩
         rw [List.getElem?_take] at he
         split at he
         ·rw [List.getElem?_drop] at he
          obtain ⟨f1,f2⟩:=m5 _ _ he
          refine ⟨by rw [f1];exact q3,fun j c hc=>?_⟩
          rw [cell_heap m2,←q3]
          rw [show off () * loc.e+(i * loc.e+j)=(off ()+i) * loc.e+j from by rw [Nat.add_mul];omega]
          exact f2 j c hc
         ·cases he
   ·rename_i g' q ess hole hb
    split at hf
    ·obtain ⟨rfl,rfl,e⟩:=hf;obtain ⟨rfl,e1,e2,e3⟩:=e ()
     exact nest_data hh hb hr e1 e2 (fun k hk=>.inl hk) (fun loc K h1 h2=>.inr ⟨b,loc,h1,h2⟩) e3
    ·exact hf.elim
   ·exact hf.elim
  ·exact hf.elim
 | .vp u off=>
  simp only [fz] at hf;split at hf
  ·obtain ⟨rfl,e⟩:=hf;have e:=e ()
   obtain ⟨a,xv,h1,h2,h3,h4⟩:=up (x:=.vp _ _) hr
   exact ⟨a,xv,h1,e ▸ h2,h3,h4⟩
  ·rename_i b off'
   split at hf
   ·rename_i x hb
    obtain ⟨rfl,e⟩:=hf
    obtain ⟨l,loc,K,hl,k1,k2,k3,rfl⟩:=hr
    cases hl
    obtain ⟨_,K',ty,xv,k4,k5,k6,k7⟩:=hh.blk b _ loc hb k1
    rw [k3] at k4;cases k4
    refine ⟨⟨K,0,none⟩,xv,by simp,fz_sound hh (u ()) x xv e k6,.inr ⟨b,loc,k1,(.inl k3)⟩,fun j c hc=>?_⟩
    rw [cell_heap k5];simpa using hc
   ·exact hf.elim
  ·exact hf.elim
 | .agg ds=>
  simp only [fz] at hf;split at hf
  ·obtain ⟨vals,h1,h2⟩:=hr
   exact ⟨vals,h1,fzs_sound hh ds _ vals hf h2⟩
  ·exact hf.elim
 | .tup ds=>
  simp only [fz] at hf;split at hf
  ·obtain ⟨vals,h1,h2⟩:=hr
   exact ⟨vals,h1,fzs_sound hh ds _ vals hf h2⟩
  ·exact hf.elim
 | .fn f a c=>
  simp only [fz] at hf;split at hf
  ·obtain ⟨rfl,f1,f2⟩:=hf
   obtain ⟨fv,cv,h1,h2,h3⟩:=hr
   exact ⟨fv,cv,h1,fzs_sound hh a _ fv f1 h2,fzs_sound hh c _ cv f2 h3⟩
  ·exact hf.elim
 | .any=>trivial
 | .raw u=>simp only [fz] at hf;have hf:=hf ();subst hf;exact hr
 | .np=>simp only [fz] at hf;split at hf<;>first | exact hf.elim | exact hr
 | .nils=>simp only [fz] at hf;split at hf<;>first | exact hf.elim | exact hr
 | .undef=>simp only [fz] at hf;split at hf<;>first | exact hf.elim | exact hr
 | .vm ks vs=>
  simp only [fz] at hf;split at hf
  ·obtain ⟨e1,e2⟩:=hf ()
   obtain ⟨K,kv,vv,ent,clock,h1,h2,h3,h4,h5,h6⟩:=up (x:=.vm _ _) hr
   exact ⟨K,kv,vv,ent,clock,h1,h2,h3,(l_inj e1) ▸ h4,(l_inj e2) ▸ h5,h6⟩
  ·rename_i b
   split at hf
   ·rename_i ks' vs' hb
    obtain ⟨e1,e2⟩:=hf ()
    obtain ⟨l,loc,K,hl,k1,k2,k3,rfl⟩:=hr
    cases hl
    obtain ⟨_,K',kv,vv,ent,clock,m1,m2,m3,m4,m5⟩:=hh.blk b _ loc hb k1
    rw [k3] at m1;cases m1
    refine ⟨K,kv,vv,ent,clock,rfl,.inr ⟨b,loc,k1,(.inl k3)⟩,m2,?_,?_,m5⟩
    ·exact RL.mono (S:=S) (w:=w) (fun k hk=>.inl hk) (fun _ _=>rfl) _ _ ((l_inj e1) ▸ m3)
    ·exact RL.mono (S:=S) (w:=w) (fun k hk=>.inl hk) (fun _ _=>rfl) _ _ ((l_inj e2) ▸ m4)
   ·exact hf.elim
  ·exact hf.elim
 | .tt | .ff | .lit _ | .ptr .. | .hp .. | .sl .. | .mp _ | .v1 _=>simp [fz] at hf
theorem fzs_sound {B:Nat} {S:Nat→Prop} {ρ:List Loc} {h:List Blk} {w:World} (hh:HeapR B S γ ρ h w) (ys xs:List AV) (vals:List Value) (hf:fzs h ys xs) (hr:Rs S w (some ρ) xs vals):Rs (Froz S ρ) w none ys vals:=by
 match ys with
 | []=>simp only [fzs] at hf;split at hf<;>first | exact hf.elim | exact hr
 | y :: ys=>
  cases xs with
  | nil=>exact hf.elim
  | cons x xs=>
   obtain ⟨f1,f2⟩:=hf
   obtain ⟨v,vs,rfl,h1,h2⟩:=hr
   exact ⟨v,vs,rfl,fz_sound hh y x v f1 h1,fzs_sound hh ys xs vs f2 h2⟩
end
end
end Go.AL
namespace Go.AL
open Go Go.RowKit
def vres (τ:Nat→TI) (h:List Blk) (s:Tr):List ResultVar→(List AV→Prop)→Prop
 | [],k=>k []
 | .tmp t :: r,k=>vres τ h s r fun vs=>k (s.get t :: vs)
 | .cell a t :: r,k=>vload h (s.get a) (τ t) fun v=>vres τ h s r fun vs=>k (v :: vs)
def vresult:List AV→AV
 | [v]=>v
 | vs=>.tup vs
def tr0:Nat→List AV→Tr→Tr
 | _,[],t=>t
 | i,v :: vs,t=>tr0 (i+1) vs (t.set' 10 i v)
def start (n:Nat) (args:List AV) (h:List Blk):St:=⟨n,tr0 0 args .nil,h⟩
def bodyQ (τ:Nat→TI) (rs:List ResultVar) (Q:AV→List Blk→Prop):Exit→St→Prop
 | .normal,A=>vres τ A.h A.s rs fun vs=>Q (vresult vs) A.h
 | .ret,A=>vres τ A.h A.s rs fun vs=>Q (vresult vs) A.h
 | _,_=>False
section
variable {P:Program} {γ:Nat→Option AV} {τ:Nat→TI}
theorem vload_asAddr {t:TypeId} {ti:TI} {h:List Blk} {p:AV} {k:AV→Prop} (hv:vload h p ti k) {S:Nat→Prop} {w:World} {ρ:Option (List Loc)} {p':Value} (hp:R S w ρ p p') :
  (do loadVar t (←asAddr p')).run P w=(Instr.loadAt t p').run P w:=by
 unfold vload at hv
 split at hv
 ·obtain ⟨a,xv,rfl,_⟩:=hp;rfl
 ·obtain ⟨l,loc,K,_,_,_,_,rfl⟩:=hp;rfl
 ·obtain ⟨l,loc,ab,ao,_,_,_,_,rfl,_⟩:=hp;rfl
 ·exact hv.elim
theorem run_vres (hτ:∀ t,τ t=tiOf P t) {h:List Blk} {s:Tr}:∀ (rs:List ResultVar) {k:List AV→Prop},vres τ h s rs k →
  ∃ vs,k vs∧∀ B S ρ w (tmps:Array Value),HeapR B S γ ρ h w→(∀ n,R S w (some ρ) (s.get n) (tmps.getD n Go.undef)) →
   ∃ vals,(rs.mapM (m:=Sem) fun | .tmp t=>pure (tmps.getD t Go.undef) | .cell a t=>do loadVar t (←asAddr (tmps.getD a Go.undef))).run P w=.ok vals w∧Rs S w (some ρ) vs vals
 | [],k,hv=>⟨[],hv,fun B S ρ w tmps hh hs=>⟨[],rfl,rfl⟩⟩
 | .tmp t :: r,k,hv=>by
  obtain ⟨vs,h1,h2⟩:=run_vres hτ r hv
  refine ⟨_,h1,fun B S ρ w tmps hh hs=>?_⟩
  obtain ⟨vals,h3,h4⟩:=h2 B S ρ w tmps hh hs
  refine ⟨_ :: vals,?_,_,_,rfl,hs t,h4⟩
  simp only [List.mapM_cons,Sem.run_bind,Sem.run_pure,Result.andThen_ok,h3]
 | .cell a t :: r,k,hv=>by
  simp only [vres,hτ] at hv
  obtain ⟨x,h1,h2⟩:=run_vload (γ:=γ) hv
  obtain ⟨vs,h3,h4⟩:=run_vres hτ r h1
  refine ⟨_,h3,fun B S ρ w tmps hh hs=>?_⟩
  obtain ⟨x',k1,k2⟩:=h2 B S ρ w _ hh (hs a)
  obtain ⟨vals,k3,k4⟩:=h4 B S ρ w tmps hh hs
  refine ⟨x' :: vals,?_,_,_,rfl,k2,k4⟩
  rw [List.mapM_cons,Sem.run_bind,vload_asAddr hv (hs a),k1]
  simp only [Result.andThen_ok,Sem.run_bind,Sem.run_pure,k3]
theorem run_results (hτ:∀ t,τ t=tiOf P t) {fn:Func} {h:List Blk} {s:Tr} {k:List AV→Prop} (hv:vres τ h s fn.results.toList k) :
  ∃ vs,k vs∧∀ B S ρ w (tmps:Array Value),HeapR B S γ ρ h w→(∀ n,R S w (some ρ) (s.get n) (tmps.getD n Go.undef)) →
   ∃ v,(results fn tmps).run P w=.ok v w∧R S w (some ρ) (vresult vs) v:=by
 obtain ⟨vs,h1,h2⟩:=run_vres (γ:=γ) hτ _ hv
 refine ⟨vs,h1,fun B S ρ w tmps hh hs=>?_⟩
 obtain ⟨vals,h3,h4⟩:=h2 B S ρ w tmps hh hs
 have:(results fn tmps).run P w=.ok (if h:vals.toArray.size=1 then vals.toArray[0] else .tuple vals.toArray) w:=by
  unfold results
  rw [Array.mapM_eq_mapM_toList]
  simp only [map_eq_pure_bind,bind_assoc,pure_bind]
  rw [Sem.run_bind]
  erw [h3]
  rfl
 rw [this]
 refine ⟨_,rfl,?_⟩
 match vs,vals,h4 with
 | [],_,h=>obtain rfl:=h;exact ⟨[],rfl,rfl⟩
 | [x],_,⟨v,_,rfl,hx,rfl⟩=>exact hx
 | x :: y :: r,_,⟨v,_,rfl,hx,u,us,rfl,hy,hr⟩=>
  rw [dif_neg (by simp)]
  exact ⟨v :: u :: us,rfl,v,_,rfl,hx,u,_,rfl,hy,hr⟩
theorem tr0_get:∀ (vs:List AV) (i:Nat) (t:Tr) (n:Nat),i+vs.length<1000→(tr0 i vs t).get n=if i≤n∧n<i+vs.length then vs.getD (n-i) .undef else t.get n
 | [],i,t,n,_=>by
  rw [if_neg (by simp<;>omega)];rfl
 | v :: vs,i,t,n,h=>by
  simp only [List.length_cons] at h
  simp only [tr0,List.length_cons]
  rw [tr0_get vs (i+1) _ n (by omega),Tr.get_set' 10 t i n v (by omega)]
  by_cases h1:n=i
  ·subst h1;rw [if_neg (by omega),if_pos rfl,if_pos (by omega)];simp
  ·by_cases h2:i+1≤n∧n<i+1+vs.length
   ·rw [if_pos h2,if_pos (by omega)]
    obtain ⟨m,rfl⟩:∃ m,n=i+1+m:=⟨n-(i+1),by omega⟩
    rw [show i+1+m-(i+1)=m by omega,show i+1+m-i=m+1 by omega];rfl
   ·rw [if_neg h2,if_neg h1,if_neg (by omega)]
theorem Sim.start {B:Nat} {S:Nat→Prop} {ρ:List Loc} {h:List Blk} {w:World} (hh:HeapR B S γ ρ h w) {n:Nat} {args:List AV} {vals:List Value} (hr:Rs S w (some ρ) args vals) (hn:args.length≤n) (hb:n<1000) :
  Sim B S γ ρ (start n args h) { tmps:=vals.toArray++Array.replicate (n-vals.toArray.size) Go.undef,defers:=[] } w:=by
 have hlen:=Rs_len hr
 refine ⟨rfl,by simp [AL.start];omega,by simp [AL.start];omega,fun m=>?_,hh⟩
 show R S w (some ρ) ((tr0 0 args .nil).get m) _
 rw [tr0_get _ _ _ _ (by omega)]
 have hgetD:(vals.toArray++Array.replicate (n-vals.toArray.size) Go.undef).getD m Go.undef=vals.getD m Go.undef:=by
  rw [Array.getD_eq_getD_getElem?,List.getD_eq_getElem?_getD,Array.getElem?_append]
  by_cases hm:m<vals.length
  ·simp [hm]
  ·simp only [List.size_toArray,hm,if_false]
   rw [List.getElem?_eq_none (by omega)]
   by_cases h2:m-vals.length<n-vals.length
   ·simp [h2]
   ·rw [Array.getElem?_eq_none (by simpa using h2)]
 rw [hgetD]
 by_cases hm:m<args.length
 ·rw [if_pos (by omega)]
  obtain ⟨v,h1,h2⟩:=Rs_get hr (i:=m) (List.getElem?_eq_getElem hm)
  simp only [Nat.sub_zero,List.getD_eq_getElem?_getD,List.getElem?_eq_getElem hm,h1]
  exact h2
 ·rw [if_neg (by omega)]
  simp only [List.getD_eq_getElem?_getD,List.getElem?_eq_none (show vals.length≤m by omega)]
  rfl
end
end Go.AL
namespace Go.AL
open Go Go.RowKit
mutual
def AV.bare:AV→Bool
 | .any | .undef | .tt | .ff | .b _ | .lit _ | .i _ | .u _ | .raw _ | .np | .nils=>true
 | .agg cs=>bares cs
 | .tup cs=>bares cs
 | .fn _ a c=>bares a && bares c
 | _=>false
def bares:List AV→Bool
 | []=>true
 | c :: cs=>c.bare && bares cs
end
mutual
def AV.stable:AV→Bool
 | .ptr .. | .hp .. | .sl .. | .mp _=>false
 | .v1 x=>x.stable
 | .agg cs=>stables cs
 | .tup cs=>stables cs
 | .fn _ a c=>stables a && stables c
 | _=>true
def stables:List AV→Bool
 | []=>true
 | c :: cs=>c.stable && stables cs
end
section
variable {P:Program} {γ:Nat→Option AV} {τ:Nat→TI}
mutual
theorem R_bare {S S':Nat→Prop} {w w':World} {m m':Option (List Loc)} (x:AV) (v:Value) (hx:x.bare=true) (h:R S w m x v):R S' w' m' x v:=by
 match x with
 | .any | .undef | .tt | .ff | .b _ | .lit _ | .i _ | .u _ | .raw _ | .np | .nils=>exact h
 | .agg cs=>
  obtain ⟨vals,h1,h2⟩:=h
  exact ⟨vals,h1,Rs_bare cs vals hx h2⟩
 | .tup cs=>
  obtain ⟨vals,h1,h2⟩:=h
  exact ⟨vals,h1,Rs_bare cs vals hx h2⟩
 | .fn f a c=>
  obtain ⟨fv,cv,h1,h2,h3⟩:=h
  simp only [AV.bare,Bool.and_eq_true] at hx
  exact ⟨fv,cv,h1,Rs_bare a fv hx.1 h2,Rs_bare c cv hx.2 h3⟩
 | .ptr .. | .hp .. | .sl .. | .mp _ | .vp .. | .vs .. | .vm .. | .v1 _=>simp [AV.bare] at hx
theorem Rs_bare {S S':Nat→Prop} {w w':World} {m m':Option (List Loc)} (xs:List AV) (vs:List Value) (hx:bares xs=true) (h:Rs S w m xs vs):Rs S' w' m' xs vs:=by
 match xs with
 | []=>exact h
 | x :: xs=>
  obtain ⟨v,vs,rfl,h1,h2⟩:=h
  simp only [bares,Bool.and_eq_true] at hx
  exact ⟨v,vs,rfl,R_bare x v hx.1 h1,Rs_bare xs vs hx.2 h2⟩
end
mutual
theorem R_stable {S:Nat→Prop} {w:World} {m m':Option (List Loc)} (x:AV) (v:Value) (hx:x.stable=true) (h:R S w m x v):R S w m' x v:=by
 match x with
 | .any | .undef | .tt | .ff | .b _ | .lit _ | .i _ | .u _ | .raw _ | .np | .nils | .vp .. | .vs .. | .vm ..=>exact h
 | .agg cs=>
  obtain ⟨vals,h1,h2⟩:=h
  exact ⟨vals,h1,Rs_stable cs vals hx h2⟩
 | .tup cs=>
  obtain ⟨vals,h1,h2⟩:=h
  exact ⟨vals,h1,Rs_stable cs vals hx h2⟩
 | .fn f a c=>
  obtain ⟨fv,cv,h1,h2,h3⟩:=h
  simp only [AV.stable,Bool.and_eq_true] at hx
  exact ⟨fv,cv,h1,Rs_stable a fv hx.1 h2,Rs_stable c cv hx.2 h3⟩
 | .v1 x=>
  obtain ⟨ab,ao,cap,xv,h1,h2,h3,h4,h5,h6⟩:=h
  exact ⟨ab,ao,cap,xv,h1,h2,h3,h4,h5,R_stable x xv hx h6⟩
 | .ptr .. | .hp .. | .sl .. | .mp _=>simp [AV.stable] at hx
theorem Rs_stable {S:Nat→Prop} {w:World} {m m':Option (List Loc)} (xs:List AV) (vs:List Value) (hx:stables xs=true) (h:Rs S w m xs vs):Rs S w m' xs vs:=by
 match xs with
 | []=>exact h
 | x :: xs=>
  obtain ⟨v,vs,rfl,h1,h2⟩:=h
  simp only [stables,Bool.and_eq_true] at hx
  exact ⟨v,vs,rfl,R_stable x v hx.1 h1,Rs_stable xs vs hx.2 h2⟩
end
theorem bodyQ_run (hτ:∀ t,τ t=tiOf P t) {fn:Func} {Q:AV→List Blk→Prop} {e:Exit} {A:St} (h:bodyQ τ fn.results.toList Q e A) {B:Nat} {S:Nat→Prop} {ρ:List Loc} {a:Act} {w:World} (hs:Sim B S γ ρ A a w) {R':Ending→World→Prop}
  (hR:∀ v v',Q v A.h→R S w (some ρ) v v'→R' (.returned v') w):bodyPost P fn R' e a w:=by
 have go:vres τ A.h A.s fn.results.toList (fun vs=>Q (vresult vs) A.h)→a.defers=[]∧∃ v,(results fn a.tmps).run P w=.ok v w∧R' (.returned v) w:=fun hv=>by
  obtain ⟨vs,h1,h2⟩:=run_results (γ:=γ) hτ hv
  obtain ⟨v,h3,h4⟩:=h2 B S ρ w a.tmps hs.heap hs.slot
  exact ⟨hs.nodef,v,h3,hR _ _ h1 h4⟩
 cases e with
 | normal=>exact go h
 | ret=>exact go h
 | _=>exact h.elim
theorem SCalls.of_body (hτ:∀ t,τ t=tiOf P t) {f:FuncId} {fn:Func} {c:Code} {n:Nat} {rs:List ResultVar} (hf:P.funcs[f]?=some fn) (hb:fn.body=some c) (hn:fn.ntmps=n) (hr:fn.results.toList=rs)
  (he:Enters P f) {args:List AV} {h:List Blk} {Q:AV→List Blk→Prop} (hsz:args.length≤n∧n<1000) (h0:AWP P γ c (bodyQ τ rs Q) (start n args h)):SCalls P γ f args h Q:=by
 subst hn;subst hr
 refine ⟨he,fun B S ρ w vals hh hargs=>calls_of_wp hf hb ?_⟩
 refine wp_mono (h0 B S ρ _ w (Sim.start hh hargs hsz.1 hsz.2)) fun e a' w' ⟨S',ρ',A',h1,h2,h3⟩=>?_
 exact bodyQ_run hτ h1 h2 fun v v' hv hr=>⟨v,A'.h,S',ρ',v',rfl,hv,hr,h2.heap,h3⟩
theorem Pure.of_body (hτ:∀ t,τ t=tiOf P t) {f:FuncId} {fn:Func} {c:Code} {n:Nat} {rs:List ResultVar} (hf:P.funcs[f]?=some fn) (hb:fn.body=some c) (hn:fn.ntmps=n) (hr:fn.results.toList=rs)
  (he:Enters P f) {args:List AV} {y:AV} (hsz:args.length≤n∧n<1000) (h0:AWP P γ c (bodyQ τ rs fun v h=>fz h y v) (start n args [])):Pure P γ false f args y:=by
 subst hn;subst hr
 refine ⟨he,fun S w vals hS hg hargs=>calls_of_wp hf hb ?_⟩
 have hh:HeapR w.heap.size S γ [] [] w:=⟨rfl,fun b blk loc h _=>by simp at h,fun b loc K h _=>by simp at h,fun b b' loc loc' K h _ _ _=>by simp at h,hS,hg,Nat.le_refl _,fun b loc h=>by simp at h⟩
 refine wp_mono (h0 w.heap.size S [] _ w (Sim.start hh (Rs.mono (S:=S) (fun _ h=>h) (fun _ _=>rfl) (ρ:=none) (ρ':=some []) trivial _ _ hargs) hsz.1 hsz.2)) fun e a' w' ⟨S',ρ',A',h1,h2,h3⟩=>?_
 refine bodyQ_run hτ h1 h2 fun v v' hv hr=>⟨v',Froz S' ρ',rfl,fz_sound h2.heap y v v' hv hr,h3.fr,h3.below,fun k hk=>.inl (h3.sub k hk.2),fun k hk=>?_⟩
 rcases hk with hk | ⟨b,loc,hb,hk⟩
 ·rcases h3.grow k hk with h4 | h4
  ·exact .inl ⟨rfl,h4⟩
  ·exact .inr ⟨h4,h2.heap.sle k hk⟩
 ·obtain ⟨_,h5,h6⟩:=h2.heap.own b loc k hb hk
  exact .inr ⟨h6,h5⟩
theorem ExtQ.of_false {S S':Nat→Prop} {w w':World} (h:ExtQ (fun k=>false=false∧S k) w S' w'):ExtQ S w S' w':=
 ⟨h.fr,h.same,fun k hk=>h.sub k ⟨rfl,hk⟩,fun k hk=>(h.new k hk).imp (fun h=>h.2) id⟩
theorem QCalls.of_bare {f:FuncId} {args args':List AV} {y:AV} {h:List Blk} {k:AV→Prop} (hp:Pure P γ false f args' y) (hy:y.bare=true) (hf:fzs h args' args) (hk:k y):QCalls P γ h f args k:=by
 refine ⟨y,hk,hp.1,fun B S ρ w vals hh hr=>?_⟩
 refine (hp.2 (Froz S ρ) w vals ?_ ?_ (fzs_sound hh _ _ _ hf hr)).mono fun e w' ⟨v',S',h1,h2,h3⟩=>?_
 ·rintro k (hk | ⟨b,loc,hb,hk⟩)
  ·exact hh.sle k hk
  ·exact (hh.own b loc k hb hk).2.1
 ·exact fun g x hg=>R.mono (S:=S) (fun k hk=>.inl hk) (fun _ _=>rfl) (ρ:=none) (ρ':=none) trivial _ _ (hh.gok g x hg)
 ·exact ⟨v',S,h1,R_bare _ _ hy h2,⟨h3.fr,h3.same,fun _ h=>h,fun _ h=>.inl h⟩⟩
theorem SCalls.of_q {f:FuncId} {args:List AV} {h:List Blk} {Q:AV→List Blk→Prop} (hq:QCalls P γ h f args fun v=>Q v h):SCalls P γ f args h Q:=by
 obtain ⟨v,hk,he,hc⟩:=hq
 refine ⟨he,fun B S ρ w vals hh hr=>(hc B S ρ w vals hh hr).mono fun e w' ⟨v',S',h1,h2,h3⟩=>?_⟩
 exact ⟨v,h,S',ρ,v',h1,hk,h2,hh.q h3,hh.ext h3⟩
theorem SCalls.mono {f:FuncId} {args:List AV} {h:List Blk} {Q Q':AV→List Blk→Prop} (hs:SCalls P γ f args h Q) (hq:∀ v h,Q v h→Q' v h):SCalls P γ f args h Q':=
 ⟨hs.1,fun B S ρ w vals hh hr=>(hs.2 B S ρ w vals hh hr).mono fun _ _ ⟨v,h',S',ρ',v',h1,h2,h3⟩=>⟨v,h',S',ρ',v',h1,hq _ _ h2,h3⟩⟩
theorem SCalls.of_bare {f:FuncId} {args args':List AV} {y:AV} {h:List Blk} {Q:AV→List Blk→Prop} (hp:Pure P γ false f args' y) (hy:y.bare=true) (hf:fzs h args' args) (hk:Q y h):SCalls P γ f args h Q:=.of_q (.of_bare hp hy hf hk)
end
end Go.AL
