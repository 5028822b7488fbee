import Derived.Test.YtjcioienjlonmaaMg7
import Derived.Shelf.Spec.SlicesInsertGrow
import Derived.OpenShut
import Derived.ReadAgain
import Derived.Deep.DeepHandedRow
import Derived.Lib.LaidTab
import Derived.ProofKit
import Derived.Test.YtjcioienjlonmaaRows
set_option linter.unusedVariables false
set_option linter.unusedSimpArgs false
namespace Go.AL.Rl
open Go Go.AL Go.Proofs
set_option maxRecDepth 100000
set_option maxHeartbeats 3200000
variable {γ:Nat→Option AV}
theorem goes_bad (g:Gr) (hR:Rd g) (m t:Int) (a:Ak) (v:Int) (hb:okM m g=false):Pure Try.prog γ false 4 [aGr g,.i fun _=>m,.i fun _=>t,aAsk a,.i fun _=>v] (.b fun _=>true):=by
 have kl:=lives16_ok (γ:=γ)
 have ki:=light_ok (γ:=γ) g hR 30 (by omega) (by omega)
 have kc:=mcheckA (γ:=γ) m g hR
 rw [hb] at kc
 generalize okE m=oe at *
 generalize lightM 30 g=li at *
 clear hb
 cases li
 ·refine Pure.go (ty:=ty) ty_eq mo Try.func4 rfl Try.ntmps4 Try.results4 Try.call4 (by simp) fun P C CQ D W F E hF=>?_
  cbv
  repeat' (first
   |(refine E.c (SCalls.of_le (ki) ?_ ?_);(· (cbv;(try simp only [nc] at *);first|done|(simp;done)|(simp (disch:=(first|omega|(simp only [lnS];omega))) only [rdT,rdS,anT];first|done|omega|(refine ⟨?_,?_⟩<;>omega))|(simp (disch:=(first|omega|(simp only [lnS];omega))) [rdT,rdS];done)));cbv)
   |(refine E.c (SCalls.of_le (kl) ?_ ?_);(· (cbv;(try simp only [nc] at *);first|done|(simp;done)|(simp (disch:=(first|omega|(simp only [lnS];omega))) only [rdT,rdS,anT];first|done|omega|(refine ⟨?_,?_⟩<;>omega))|(simp (disch:=(first|omega|(simp only [lnS];omega))) [rdT,rdS];done)));cbv)
   |(refine ⟨fun _ h_s=>?_,fun _ h_s=>?_⟩<;>(cbv;(try simp only [nc] at *);try simp (disch:=(first|omega|(simp only [lnS];omega))) only [rdT,rdS,reduceCtorEq,trT] at h_s))
   |(refine hF ?_;intro _;clear hF)
   |(refine hF ?_;cbv;clear hF)
   |(refine ⟨fun _=>?_,?_⟩;(· ((try simp only [nc] at *);first|done|omega|exact ⟨by omega,rfl⟩|(simp (disch:=(first|omega|(simp only [lnS];omega))) only [rdT,rdS];first|done|omega|rfl|exact ⟨by omega,rfl⟩|(simp;done)|(simp;omega))|(intros;trivial)));(try (simp only [nc] at *));(try simp (disch:=(first|omega|(simp only [lnS];omega))) only [rdT,rdS]);(try cbv))
   |(refine E.d 9 (by decide +kernel) ?_;cbv;(fail_if_success guard_target =~ False))
   |(refine E.d 20 (by decide +kernel) ?_;cbv;(fail_if_success guard_target =~ False))
   | fail
  )
  all_goals first
   | rfl
   | (simp;done)
   | (exfalso;revert h_s;simp;done)
   | (exfalso;((try simp only [nc] at *);omega))
 ·refine Pure.go (ty:=ty) ty_eq mo Try.func4 rfl Try.ntmps4 Try.results4 Try.call4 (by simp) fun P C CQ D W F E hF=>?_
  cbv
  repeat' (first
   |((first|refine E.c (SCalls.of_le (kc) ?_ ?_)|refine E.q (QCalls.of_le (kc) ?_ ?_));(· (cbv;(try simp only [nc] at *);first|done|(simp;done)|(simp (disch:=(first|omega|(simp only [lnS];omega))) only [rdT,rdS,anT];first|done|omega|(refine ⟨?_,?_⟩<;>omega))|(simp (disch:=(first|omega|(simp only [lnS];omega))) [rdT,rdS];done)));cbv)
   |(refine E.c (SCalls.of_le (ki) ?_ ?_);(· (cbv;(try simp only [nc] at *);first|done|(simp;done)|(simp (disch:=(first|omega|(simp only [lnS];omega))) only [rdT,rdS,anT];first|done|omega|(refine ⟨?_,?_⟩<;>omega))|(simp (disch:=(first|omega|(simp only [lnS];omega))) [rdT,rdS];done)));cbv)
   |(refine E.c (SCalls.of_le (kl) ?_ ?_);(· (cbv;(try simp only [nc] at *);first|done|(simp;done)|(simp (disch:=(first|omega|(simp only [lnS];omega))) only [rdT,rdS,anT];first|done|omega|(refine ⟨?_,?_⟩<;>omega))|(simp (disch:=(first|omega|(simp only [lnS];omega))) [rdT,rdS];done)));cbv)
   |(refine ⟨fun _ h_s=>?_,fun _ h_s=>?_⟩<;>(cbv;(try simp only [nc] at *);try simp (disch:=(first|omega|(simp only [lnS];omega))) only [rdT,rdS,reduceCtorEq,trT] at h_s))
   |(refine hF ?_;intro _;clear hF)
   |(refine hF ?_;cbv;clear hF)
   |(refine ⟨fun _=>?_,?_⟩;(· ((try simp only [nc] at *);first|done|omega|exact ⟨by omega,rfl⟩|(simp (disch:=(first|omega|(simp only [lnS];omega))) only [rdT,rdS];first|done|omega|rfl|exact ⟨by omega,rfl⟩|(simp;done)|(simp;omega))|(intros;trivial)));(try (simp only [nc] at *));(try simp (disch:=(first|omega|(simp only [lnS];omega))) only [rdT,rdS]);(try cbv))
   |(refine E.d 9 (by decide +kernel) ?_;cbv;(fail_if_success guard_target =~ False))
   |(refine E.d 20 (by decide +kernel) ?_;cbv;(fail_if_success guard_target =~ False))
   | fail
  )
  all_goals first
   | rfl
   | (simp;done)
   | (exfalso;revert h_s;simp;done)
   | (exfalso;((try simp only [nc] at *);omega))
theorem goes_no (g:Gr) (hR:Rd g) (m t:Int) (a:Ak) (v:Int) (hb:okM m g=true) (hn:¬ (1≤t∧t≤(g.th.length:Nat)∧0≤a.loc∧a.loc<(g.init.length:Nat)∧1≤a.order∧a.order≤6)) :
  Pure Try.prog γ false 4 [aGr g,.i fun _=>m,.i fun _=>t,aAsk a,.i fun _=>v] (.b fun _=>true):=by
 have kl:=lives16_ok (γ:=γ)
 have ki:=light_ok (γ:=γ) g hR 30 (by omega) (by omega)
 have kc:=mcheckA (γ:=γ) m g hR
 have hs:=(okM_gok hb).short
 have hth:=hs.th
 have hin:=hs.init
 rw [hb] at kc
 generalize okE m=oe at *
 generalize lightM 30 g=li at *
 clear hb
 cases li
 ·refine Pure.go (ty:=ty) ty_eq mo Try.func4 rfl Try.ntmps4 Try.results4 Try.call4 (by simp) fun P C CQ D W F E hF=>?_
  cbv
  repeat' (first
   |(refine E.c (SCalls.of_le (ki) ?_ ?_);(· (cbv;(try simp only [nc] at *);first|done|(simp;done)|(simp (disch:=(first|omega|(simp only [lnS];omega))) only [rdT,rdS,anT];first|done|omega|(refine ⟨?_,?_⟩<;>omega))|(simp (disch:=(first|omega|(simp only [lnS];omega))) [rdT,rdS];done)));cbv)
   |(refine E.c (SCalls.of_le (kl) ?_ ?_);(· (cbv;(try simp only [nc] at *);first|done|(simp;done)|(simp (disch:=(first|omega|(simp only [lnS];omega))) only [rdT,rdS,anT];first|done|omega|(refine ⟨?_,?_⟩<;>omega))|(simp (disch:=(first|omega|(simp only [lnS];omega))) [rdT,rdS];done)));cbv)
   |(refine ⟨fun _ h_s=>?_,fun _ h_s=>?_⟩<;>(cbv;(try simp only [nc] at *);try simp (disch:=(first|omega|(simp only [lnS];omega))) only [rdT,rdS,reduceCtorEq,trT] at h_s))
   |(refine hF ?_;intro _;clear hF)
   |(refine hF ?_;cbv;clear hF)
   |(refine ⟨fun _=>?_,?_⟩;(· ((try simp only [nc] at *);first|done|omega|exact ⟨by omega,rfl⟩|(simp (disch:=(first|omega|(simp only [lnS];omega))) only [rdT,rdS];first|done|omega|rfl|exact ⟨by omega,rfl⟩|(simp;done)|(simp;omega))|(intros;trivial)));(try (simp only [nc] at *));(try simp (disch:=(first|omega|(simp only [lnS];omega))) only [rdT,rdS]);(try cbv))
   |(refine E.d 9 (by decide +kernel) ?_;cbv;(fail_if_success guard_target =~ False))
   |(refine E.d 20 (by decide +kernel) ?_;cbv;(fail_if_success guard_target =~ False))
   | fail
  )
  all_goals first
   | rfl
   | (simp;done)
   | (exfalso;revert h_s;simp;done)
   | (exfalso;((try simp only [nc] at *);omega))
 ·refine Pure.go (ty:=ty) ty_eq mo Try.func4 rfl Try.ntmps4 Try.results4 Try.call4 (by simp) fun P C CQ D W F E hF=>?_
  cbv
  repeat' (first
   |((first|refine E.c (SCalls.of_le (kc) ?_ ?_)|refine E.q (QCalls.of_le (kc) ?_ ?_));(· (cbv;(try simp only [nc] at *);first|done|(simp;done)|(simp (disch:=(first|omega|(simp only [lnS];omega))) only [rdT,rdS,anT];first|done|omega|(refine ⟨?_,?_⟩<;>omega))|(simp (disch:=(first|omega|(simp only [lnS];omega))) [rdT,rdS];done)));cbv)
   |(refine E.c (SCalls.of_le (ki) ?_ ?_);(· (cbv;(try simp only [nc] at *);first|done|(simp;done)|(simp (disch:=(first|omega|(simp only [lnS];omega))) only [rdT,rdS,anT];first|done|omega|(refine ⟨?_,?_⟩<;>omega))|(simp (disch:=(first|omega|(simp only [lnS];omega))) [rdT,rdS];done)));cbv)
   |(refine E.c (SCalls.of_le (kl) ?_ ?_);(· (cbv;(try simp only [nc] at *);first|done|(simp;done)|(simp (disch:=(first|omega|(simp only [lnS];omega))) only [rdT,rdS,anT];first|done|omega|(refine ⟨?_,?_⟩<;>omega))|(simp (disch:=(first|omega|(simp only [lnS];omega))) [rdT,rdS];done)));cbv)
   |(refine ⟨fun _ h_s=>?_,fun _ h_s=>?_⟩<;>(cbv;(try simp only [nc] at *);try simp (disch:=(first|omega|(simp only [lnS];omega))) only [rdT,rdS,reduceCtorEq,trT] at h_s))
   |(refine hF ?_;intro _;clear hF)
   |(refine hF ?_;cbv;clear hF)
   |(refine ⟨fun _=>?_,?_⟩;(· ((try simp only [nc] at *);first|done|omega|exact ⟨by omega,rfl⟩|(simp (disch:=(first|omega|(simp only [lnS];omega))) only [rdT,rdS];first|done|omega|rfl|exact ⟨by omega,rfl⟩|(simp;done)|(simp;omega))|(intros;trivial)));(try (simp only [nc] at *));(try simp (disch:=(first|omega|(simp only [lnS];omega))) only [rdT,rdS]);(try cbv))
   |(refine E.d 9 (by decide +kernel) ?_;cbv;(fail_if_success guard_target =~ False))
   |(refine E.d 20 (by decide +kernel) ?_;cbv;(fail_if_success guard_target =~ False))
   | fail
  )
  all_goals first
   | rfl
   | (simp;done)
   | (exfalso;revert h_s;simp;done)
   | (exfalso;((try simp only [nc] at *);omega))
theorem rdyM_yes {m:Int} {g:Gr} {t:Nat} (hb:okM m g=true) (ht:t<g.th.length):rdyM m g ((t:Int)+1)=true:=by
 unfold rdyM
 rw [hb,decide_eq_true (by omega),decide_eq_true (by omega)]
 rfl
theorem askM_yes {g:Gr} {a:Ak} (hk:ansE a=0) (hx:0≤a.loc∧a.loc<(g.init.length:Nat)) (ho:1≤a.order∧a.order≤6):askM g a=true:=by
 unfold askM
 rw [decide_eq_true hk,decide_eq_true hx,decide_eq_true ho]
 rfl
theorem snoc_len {α:Type} (l:List α) (x d:α):(l++[x]).length=l.length+1∧(l++[x]).getD l.length d=x:=by
 constructor
 ·simp
 ·rw [List.getD_eq_getElem?_getD,List.getElem?_append_right (Nat.le_refl _),Nat.sub_self];rfl
theorem last_w (l:List EId) (h1:1≤l.length) (h2:l.length≤1000):w64 (((ids l).l.length:Int)-1)=((l.length-1:Nat):Int):=by
 rw [ids_len];unfold w64;rw [IntKind.wrap_i64];omega
theorem last_wi (l:List Int) (h1:1≤l.length) (h2:l.length≤1000):w64 (((is l).l.length:Int)-1)=((l.length-1:Nat):Int):=by
 rw [is_len];unfold w64;rw [IntKind.wrap_i64];omega
theorem goes_main (g:Gr) (hR:Rd g) (m:Int) (t:Nat) (a:Ak) (v:Int) (hb:okM m g=true) (ht:t<g.th.length) (hx:0≤a.loc∧a.loc<(g.init.length:Nat)) (ho:1≤a.order∧a.order≤6)
  (hA:∀ e d p,Pure Try.prog γ false 37 [aGr g,.i fun _=>(t:Int)+1,aEv e,aId d,.i fun _=>p] (.tup [aGr (addR g ((t:Int)+1) e d p),.i fun _=>addE g ((t:Int)+1) e d p])) :
  Pure Try.prog γ false 4 [aGr g,.i fun _=>m,.i fun _=>(t:Int)+1,aAsk a,.i fun _=>v] (.b fun _=>true):=by
 have kl:=lives16_ok (γ:=γ)
 have ki:=light_ok (γ:=γ) g hR 30 (by omega) (by omega)
 have kc:=mcheckA (γ:=γ) m g hR
 have hg:=okM_gok hb
 have hs:=hg.short
 have hth:=hs.th
 have hin:=hs.init
 have hle:=hs.at t
 have kW:=rWrites_ok (γ:=γ) g hR hg a.loc
 have ka:=r13answer_ok (γ:=γ) a 0
 have kS:=msources_ok (γ:=γ) m g hR ((t:Int)+1) a hA
 have kP:=mplaces_ok (γ:=γ) m g hR ((t:Int)+1) ⟨2,a.loc,a.order,0,v⟩ id0 (hA _ _)
 rw [hb] at kc
 clear hA
 generalize okE m=oe at *
 generalize lightM 30 g=li at *
 obtain ⟨WL,hW⟩:∃ WL,WL=wrsM g a.loc:=⟨_,rfl⟩
 have hWl:=wrs_cons hx
 have hWl2:=wrs_len hg a.loc
 have hWd:WL.getD (WL.length-1) id0=lastW g a.loc:=by rw [hW];rfl
 rw [←hW] at hWl hWl2 kW
 have hW1:1≤WL.length:=by omega
 clear hWl
 refine Pure.goL (ty:=ty) ty_eq mo Try.func4 rfl Try.ntmps4 Try.results4 Try.call4 (by simp) fun P C CQ D W F E hF=>?_
 skip
 refine E.cut 10 (told 286 [(1,.i fun _=>m),(2,.i fun _=>(t:Int)+1),(5,.ptr 0 0)] [.box (aGr g)]) (by kernel_rfl) (Nat.zero_le _) (fun I hI=>?_) ?_
 ·cbv
  by_cases hl:(g.th.getD t []).length=14
  ·repeat' (first
    |((first|refine E.c (SCalls.of_le (kc) ?_ ?_)|refine E.q (QCalls.of_le (kc) ?_ ?_));(· (cbv;(try simp only [nc] at *);first|done|(simp;done)|(simp (disch:=(first|omega|(simp only [lnS];omega))) only [rdT,rdS,tn1,last_w,last_wi,anT];first|done|omega|(refine ⟨?_,?_⟩<;>omega))|(simp (disch:=(first|omega|(simp only [lnS];omega))) [rdT,rdS,tn1,last_w,last_wi];done)));cbv)
    |(refine E.c (SCalls.of_le (ki) ?_ ?_);(· (cbv;(try simp only [nc] at *);first|done|(simp;done)|(simp (disch:=(first|omega|(simp only [lnS];omega))) only [rdT,rdS,tn1,last_w,last_wi,anT];first|done|omega|(refine ⟨?_,?_⟩<;>omega))|(simp (disch:=(first|omega|(simp only [lnS];omega))) [rdT,rdS,tn1,last_w,last_wi];done)));cbv)
    |(refine E.c (SCalls.of_le (kl) ?_ ?_);(· (cbv;(try simp only [nc] at *);first|done|(simp;done)|(simp (disch:=(first|omega|(simp only [lnS];omega))) only [rdT,rdS,tn1,last_w,last_wi,anT];first|done|omega|(refine ⟨?_,?_⟩<;>omega))|(simp (disch:=(first|omega|(simp only [lnS];omega))) [rdT,rdS,tn1,last_w,last_wi];done)));cbv)
    |(refine ⟨fun _ h_s=>?_,fun _ h_s=>?_⟩<;>(cbv;(try simp only [nc] at *);try simp (disch:=(first|omega|(simp only [lnS];omega))) only [rdT,rdS,tn1,last_w,last_wi,reduceCtorEq,trT] at h_s))
    |(refine hF ?_;intro _;clear hF)
    |(refine hF ?_;cbv;clear hF)
    |(refine ⟨fun _=>?_,?_⟩;(· ((try simp only [nc] at *);first|done|omega|exact ⟨by omega,rfl⟩|(simp (disch:=(first|omega|(simp only [lnS];omega))) only [rdT,rdS,tn1,last_w,last_wi];first|done|omega|rfl|exact ⟨by omega,rfl⟩|(simp;done)|(simp;omega))|(intros;trivial)));(try (simp only [nc] at *));(try simp (disch:=(first|omega|(simp only [lnS];omega))) only [rdT,rdS,tn1,last_w,last_wi]);(try cbv))
    |(refine E.d 9 (by decide +kernel) ?_;cbv;(fail_if_success guard_target =~ False))
    |(refine E.d 20 (by decide +kernel) ?_;cbv;(fail_if_success guard_target =~ False))
    | fail
   )
   all_goals first
    | rfl
    | (simp;done)
    | (exfalso;revert h_s;simp;done)
    | (refine hI ?_;cbv;simp;done)
    | (exfalso;clear hI;((try simp only [nc] at *);omega))
  ·obtain ⟨l2,e2⟩:=goes_place (v:=v) hb ht hl hx ho
   have e3:=goes_may (v:=v) hb ht hl hx ho
   rw [rdyM_yes hb ht,e3,e2,←hW] at kP
   simp only [and_self,if_true] at kP
   have q1:1≤(l2++[(WL.length:Int)]).length:=by simp
   have q2:(l2++[(WL.length:Int)]).getD ((l2++[(WL.length:Int)]).length-1) 0=(WL.length:Int):=by
    obtain ⟨z1,z2⟩:=snoc_len l2 (WL.length:Int) 0
    rw [z1,Nat.add_sub_cancel];exact z2
   have q0:(l2++[(WL.length:Int)]).length≤57:=by rw [hW,←e2];exact Nat.le_trans (plcTo_len _ _ _ _ _ _) (plN_le hg _)
   generalize l2++[(WL.length:Int)]=PL at *
   have q7:PL.getD ((PL.length:Int)-1).toNat 0=(WL.length:Int):=by
    rw [show ((PL.length:Int)-1).toNat=PL.length-1 by omega];exact q2
   by_cases hk:ansE a=0
   ·obtain ⟨l1,e1⟩:=goes_source hb ht hl hx ho hk
    rw [rdyM_yes hb ht,askM_yes hk hx ho,e1] at kS
    simp only [and_self,if_true] at kS
    rw [hk] at ka
    have q3:1≤(l1++[lastW g a.loc]).length:=by simp
    have q4:(l1++[lastW g a.loc]).getD ((l1++[lastW g a.loc]).length-1) id0=WL.getD (WL.length-1) id0:=by
     obtain ⟨z1,z2⟩:=snoc_len l1 (lastW g a.loc) id0
     rw [z1,Nat.add_sub_cancel,hWd];exact z2
    have q5:(l1++[lastW g a.loc]).length≤57:=by rw [←e1];exact Nat.le_trans (List.length_filter_le _ _) (wrs_len hg _)
    generalize l1++[lastW g a.loc]=SL at *
    have q6:SL.getD ((SL.length:Int)-1).toNat (⟨0,0⟩:EId)=WL.getD ((WL.length:Int)-1).toNat (⟨0,0⟩:EId):=by
     rw [show ((SL.length:Int)-1).toNat=SL.length-1 by omega,show ((WL.length:Int)-1).toNat=WL.length-1 by omega];exact q4
    repeat' (first
     |((first|refine E.c (SCalls.of_le (kP) ?_ ?_)|refine E.q (QCalls.of_le (kP) ?_ ?_));(· (cbv;(try simp only [nc] at *);first|done|(simp;done)|(simp (disch:=(first|omega|(simp only [lnS];omega))) only [rdT,rdS,tn1,last_w,last_wi,anT];first|done|omega|(refine ⟨?_,?_⟩<;>omega))|(simp (disch:=(first|omega|(simp only [lnS];omega))) [rdT,rdS,tn1,last_w,last_wi];done)));cbv)
     |((first|refine E.c (SCalls.of_le (kS) ?_ ?_)|refine E.q (QCalls.of_le (kS) ?_ ?_));(· (cbv;(try simp only [nc] at *);first|done|(simp;done)|(simp (disch:=(first|omega|(simp only [lnS];omega))) only [rdT,rdS,tn1,last_w,last_wi,anT];first|done|omega|(refine ⟨?_,?_⟩<;>omega))|(simp (disch:=(first|omega|(simp only [lnS];omega))) [rdT,rdS,tn1,last_w,last_wi];done)));cbv)
     |((first|refine E.c (SCalls.of_le (ka) ?_ ?_)|refine E.q (QCalls.of_le (ka) ?_ ?_));(· (cbv;(try simp only [nc] at *);first|done|(simp;done)|(simp (disch:=(first|omega|(simp only [lnS];omega))) only [rdT,rdS,tn1,last_w,last_wi,anT];first|done|omega|(refine ⟨?_,?_⟩<;>omega))|(simp (disch:=(first|omega|(simp only [lnS];omega))) [rdT,rdS,tn1,last_w,last_wi];done)));cbv)
     |((first|refine E.c (SCalls.of_le (kW) ?_ ?_)|refine E.q (QCalls.of_le (kW) ?_ ?_));(· (cbv;(try simp only [nc] at *);first|done|(simp;done)|(simp (disch:=(first|omega|(simp only [lnS];omega))) only [rdT,rdS,tn1,last_w,last_wi,anT];first|done|omega|(refine ⟨?_,?_⟩<;>omega))|(simp (disch:=(first|omega|(simp only [lnS];omega))) [rdT,rdS,tn1,last_w,last_wi];done)));cbv)
     |((first|refine E.c (SCalls.of_le (kc) ?_ ?_)|refine E.q (QCalls.of_le (kc) ?_ ?_));(· (cbv;(try simp only [nc] at *);first|done|(simp;done)|(simp (disch:=(first|omega|(simp only [lnS];omega))) only [rdT,rdS,tn1,last_w,last_wi,anT];first|done|omega|(refine ⟨?_,?_⟩<;>omega))|(simp (disch:=(first|omega|(simp only [lnS];omega))) [rdT,rdS,tn1,last_w,last_wi];done)));cbv)
     |(refine E.c (SCalls.of_le (ki) ?_ ?_);(· (cbv;(try simp only [nc] at *);first|done|(simp;done)|(simp (disch:=(first|omega|(simp only [lnS];omega))) only [rdT,rdS,tn1,last_w,last_wi,anT];first|done|omega|(refine ⟨?_,?_⟩<;>omega))|(simp (disch:=(first|omega|(simp only [lnS];omega))) [rdT,rdS,tn1,last_w,last_wi];done)));cbv)
     |(refine E.c (SCalls.of_le (kl) ?_ ?_);(· (cbv;(try simp only [nc] at *);first|done|(simp;done)|(simp (disch:=(first|omega|(simp only [lnS];omega))) only [rdT,rdS,tn1,last_w,last_wi,anT];first|done|omega|(refine ⟨?_,?_⟩<;>omega))|(simp (disch:=(first|omega|(simp only [lnS];omega))) [rdT,rdS,tn1,last_w,last_wi];done)));cbv)
     |(refine ⟨fun _ h_s=>?_,fun _ h_s=>?_⟩<;>(cbv;(try simp only [nc] at *);try simp (disch:=(first|omega|(simp only [lnS];omega))) only [rdT,rdS,tn1,last_w,last_wi,reduceCtorEq,trT] at h_s))
     |(refine hF ?_;intro _;clear hF)
     |(refine hF ?_;cbv;clear hF)
     |(refine ⟨fun _=>?_,?_⟩;(· ((try simp only [nc] at *);first|done|omega|exact ⟨by omega,rfl⟩|(simp (disch:=(first|omega|(simp only [lnS];omega))) only [rdT,rdS,tn1,last_w,last_wi];first|done|omega|rfl|exact ⟨by omega,rfl⟩|(simp;done)|(simp;omega))|(intros;trivial)));(try (simp only [nc] at *));(try simp (disch:=(first|omega|(simp only [lnS];omega))) only [rdT,rdS,tn1,last_w,last_wi]);(try cbv))
     |(refine E.d 9 (by decide +kernel) ?_;cbv;(fail_if_success guard_target =~ False))
     |(refine E.d 20 (by decide +kernel) ?_;cbv;(fail_if_success guard_target =~ False))
     | fail
    )
    all_goals first
     | rfl
     | (simp;done)
     | (exfalso;revert h_s;simp;done)
     | (exfalso;exact h_s q7)
     | (exfalso;exact h_s q7)
     | (exfalso;rw [q6] at h_s;simp at h_s;done)
     | (refine hI ?_;cbv;simp;done)
     | (exfalso;clear hI;((try simp only [nc] at *);omega))
   ·repeat' (first
     |((first|refine E.c (SCalls.of_le (kP) ?_ ?_)|refine E.q (QCalls.of_le (kP) ?_ ?_));(· (cbv;(try simp only [nc] at *);first|done|(simp;done)|(simp (disch:=(first|omega|(simp only [lnS];omega))) only [rdT,rdS,tn1,last_w,last_wi,anT];first|done|omega|(refine ⟨?_,?_⟩<;>omega))|(simp (disch:=(first|omega|(simp only [lnS];omega))) [rdT,rdS,tn1,last_w,last_wi];done)));cbv)
     |((first|refine E.c (SCalls.of_le (ka) ?_ ?_)|refine E.q (QCalls.of_le (ka) ?_ ?_));(· (cbv;(try simp only [nc] at *);first|done|(simp;done)|(simp (disch:=(first|omega|(simp only [lnS];omega))) only [rdT,rdS,tn1,last_w,last_wi,anT];first|done|omega|(refine ⟨?_,?_⟩<;>omega))|(simp (disch:=(first|omega|(simp only [lnS];omega))) [rdT,rdS,tn1,last_w,last_wi];done)));cbv)
     |((first|refine E.c (SCalls.of_le (kW) ?_ ?_)|refine E.q (QCalls.of_le (kW) ?_ ?_));(· (cbv;(try simp only [nc] at *);first|done|(simp;done)|(simp (disch:=(first|omega|(simp only [lnS];omega))) only [rdT,rdS,tn1,last_w,last_wi,anT];first|done|omega|(refine ⟨?_,?_⟩<;>omega))|(simp (disch:=(first|omega|(simp only [lnS];omega))) [rdT,rdS,tn1,last_w,last_wi];done)));cbv)
     |((first|refine E.c (SCalls.of_le (kc) ?_ ?_)|refine E.q (QCalls.of_le (kc) ?_ ?_));(· (cbv;(try simp only [nc] at *);first|done|(simp;done)|(simp (disch:=(first|omega|(simp only [lnS];omega))) only [rdT,rdS,tn1,last_w,last_wi,anT];first|done|omega|(refine ⟨?_,?_⟩<;>omega))|(simp (disch:=(first|omega|(simp only [lnS];omega))) [rdT,rdS,tn1,last_w,last_wi];done)));cbv)
     |(refine E.c (SCalls.of_le (ki) ?_ ?_);(· (cbv;(try simp only [nc] at *);first|done|(simp;done)|(simp (disch:=(first|omega|(simp only [lnS];omega))) only [rdT,rdS,tn1,last_w,last_wi,anT];first|done|omega|(refine ⟨?_,?_⟩<;>omega))|(simp (disch:=(first|omega|(simp only [lnS];omega))) [rdT,rdS,tn1,last_w,last_wi];done)));cbv)
     |(refine E.c (SCalls.of_le (kl) ?_ ?_);(· (cbv;(try simp only [nc] at *);first|done|(simp;done)|(simp (disch:=(first|omega|(simp only [lnS];omega))) only [rdT,rdS,tn1,last_w,last_wi,anT];first|done|omega|(refine ⟨?_,?_⟩<;>omega))|(simp (disch:=(first|omega|(simp only [lnS];omega))) [rdT,rdS,tn1,last_w,last_wi];done)));cbv)
     |(refine ⟨fun _ h_s=>?_,fun _ h_s=>?_⟩<;>(cbv;(try simp only [nc] at *);try simp (disch:=(first|omega|(simp only [lnS];omega))) only [rdT,rdS,tn1,last_w,last_wi,reduceCtorEq,trT] at h_s))
     |(refine hF ?_;intro _;clear hF)
     |(refine hF ?_;cbv;clear hF)
     |(refine ⟨fun _=>?_,?_⟩;(· ((try simp only [nc] at *);first|done|omega|exact ⟨by omega,rfl⟩|(simp (disch:=(first|omega|(simp only [lnS];omega))) only [rdT,rdS,tn1,last_w,last_wi];first|done|omega|rfl|exact ⟨by omega,rfl⟩|(simp;done)|(simp;omega))|(intros;trivial)));(try (simp only [nc] at *));(try simp (disch:=(first|omega|(simp only [lnS];omega))) only [rdT,rdS,tn1,last_w,last_wi]);(try cbv))
     |(refine E.d 9 (by decide +kernel) ?_;cbv;(fail_if_success guard_target =~ False))
     |(refine E.d 20 (by decide +kernel) ?_;cbv;(fail_if_success guard_target =~ False))
     | fail
    )
    all_goals first
     | rfl
     | (simp;done)
     | (exfalso;revert h_s;simp;done)
     | (exfalso;exact h_s q7)
     | (exfalso;exact h_s q7)
     | (exfalso;rw [q6] at h_s;simp at h_s;done)
     | (refine hI ?_;cbv;simp;done)
     | (exfalso;clear hI;((try simp only [nc] at *);omega))
 ·clear kl ki ka kS kP kW kc hW hWl2 hWd hW1 WL li oe
  obtain ⟨n1,n2,n3,ko⟩:=rcopy_own (γ:=γ) g (rdb_ok hg) hR
  have hlf:=hg.lfr
  have hlo:=hg.lord
  have hft:=(hg.events t ht).1
  obtain ⟨N,hN⟩:∃ N,N=(g.th.getD t []).length:=⟨_,rfl⟩
  rw [←hN] at hle hft
  by_cases hn:N=0
  ·refine E.bl ?_
   cbv
   repeat' (first
    |(refine ⟨fun _ h_s=>?_,fun _ h_s=>?_⟩<;>(cbv;(try simp only [nc] at *);try simp (disch:=(first|omega|(simp only [lnS];omega))) only [rdT,rdS,tn1,last_w,last_wi,reduceCtorEq,trT] at h_s))
    |(refine hF ?_;intro _;clear hF)
    |(refine hF ?_;cbv;clear hF)
    |(refine ⟨fun _=>?_,?_⟩;(· ((try simp only [nc] at *);first|done|omega|exact ⟨by omega,rfl⟩|(simp (disch:=(first|omega|(simp only [lnS];omega))) only [rdT,rdS,tn1,last_w,last_wi];first|done|omega|rfl|exact ⟨by omega,rfl⟩|(simp;done)|(simp;omega))|(intros;trivial)));(try (simp only [nc] at *));(try simp (disch:=(first|omega|(simp only [lnS];omega))) only [rdT,rdS,tn1,last_w,last_wi]);(try cbv))
    |(refine E.d 9 (by decide +kernel) ?_;cbv;(fail_if_success guard_target =~ False))
    |(refine E.d 20 (by decide +kernel) ?_;cbv;(fail_if_success guard_target =~ False))
    | fail
   )
   all_goals first
    | rfl
    | (simp;done)
    | (exfalso;revert h_s;simp;done)
    | (exfalso;clear hI;((try simp only [nc] at *);omega))
    | (exfalso;rw [←hN] at h_s;exact h_s (by omega))
  ·refine E.cut 6 (told 286 [(1,.i fun _=>m),(21,.ptr 1 0),(22,.ptr 9 0)] [.any,.box (aId (lastI g t)),.any,.any,.run 0 1 fun _=>is g.init,.any,.run n1 1 fun _=>evss (dropG g t).th,.run n2 1 fun _=>idss (dropG g t).fr,.run n3 1 fun _=>idss g.ord,.box (.agg [.sl 4 0 1 (fun _=>0) fun _=>g.init.length,.sl 6 n1 1 (fun _=>0) fun _=>g.th.length,.sl 7 n2 1 (fun _=>0) fun _=>g.fr.length,.sl 8 n3 1 (fun _=>0) fun _=>g.ord.length])]) (by kernel_rfl) (Nat.zero_le _) (fun I hI=>?_) ?_
   ·cbv
    have q1:=evs_len (g.th.getD t [])
    have q2:=ids_len (g.fr.getD t [])
    rw [←hN] at q1
    rw [hft] at q2
    have hLe:=evL_len g.th
    have hLi:=idL_len g.fr
    have z1:(0:Int)≤0∧(0:Int)≤((g.th.getD t []).length:Int)-1∧((g.th.getD t []).length:Int)-1≤(N:Int):=by omega
    have z2:(0:Int)≤(t:Int)+1-1∧(t:Int)+1-1<(g.fr.length:Int):=by omega
    have z3:(0:Int)≤(t:Int)+1-1∧(t:Int)+1-1<(g.th.length:Int):=by omega
    have y1:True∧0+t=t∧t<(evL g.th).length:=⟨trivial,by omega,by rw [hLe];exact ht⟩
    have y2:True∧0+t=t∧t<(idL g.fr).length:=⟨trivial,by omega,by rw [hLi];omega⟩
    repeat' (first
     |(refine ⟨fun _ h_s=>?_,fun _ h_s=>?_⟩<;>(cbv;(try simp only [nc] at *);try simp (disch:=(first|omega|(simp only [lnS];omega))) only [rdT,rdS,tn1,last_w,last_wi,reduceCtorEq,trT] at h_s))
     |(refine hF ?_;intro _;clear hF)
     |(refine hF ?_;cbv;clear hF)
     |(refine ⟨fun _=>?_,?_⟩;(· ((try simp only [nc] at *);first|done|omega|exact ⟨by omega,rfl⟩|(simp (disch:=(first|omega|(simp only [lnS];omega))) only [rdT,rdS,tn1,last_w,last_wi];first|done|omega|rfl|exact ⟨by omega,rfl⟩|(simp;done)|(simp;omega))|(intros;trivial)));(try (simp only [nc] at *));(try simp (disch:=(first|omega|(simp only [lnS];omega))) only [rdT,rdS,tn1,last_w,last_wi]);(try cbv))
     |(refine E.d 9 (by decide +kernel) ?_;cbv;(fail_if_success guard_target =~ False))
     |(refine E.d 20 (by decide +kernel) ?_;cbv;(fail_if_success guard_target =~ False))
     | fail
    )
    ·rfl
    refine E.c (SCalls.of_owns (ko) ?_ ?_)
    ·cbv;all_goals simp
    cbv
    refine E.sb (Step.takeE 6 rfl (fun _=>t) (fun _=>evs (g.th.getD t [])) (fun _=>N) (fun _=>by rw [evL_len];exact ht) fun _=>⟨evL_get _ _,q1⟩) ?_
    refine E.sb (Step.takeE 7 rfl (fun _=>t) (fun _=>ids (g.fr.getD t [])) (fun _=>N) (fun _=>by rw [idL_len];omega) fun _=>⟨idL_get _ _,q2⟩) ?_
    refine E.st fun J hJ=>E.de 28 [6] [] (by decide +kernel) ?_
    cbv
    repeat' (first
     |(refine ⟨fun _ h_s=>?_,fun _ h_s=>?_⟩<;>(cbv;(try simp only [nc] at *);try simp (disch:=(first|omega|(simp only [lnS];omega))) only [rdT,rdS,tn1,last_w,last_wi,reduceCtorEq,trT] at h_s))
     |(refine hF ?_;intro _;clear hF)
     |(refine hF ?_;cbv;clear hF)
     |(refine ⟨fun _=>?_,?_⟩;(· ((try simp only [nc] at *);first|done|omega|exact ⟨by omega,rfl⟩|(simp (disch:=(first|omega|(simp only [lnS];omega))) only [rdT,rdS,tn1,last_w,last_wi];first|done|omega|rfl|exact ⟨by omega,rfl⟩|(simp;done)|(simp;omega))|(intros;trivial)));(try (simp only [nc] at *));(try simp (disch:=(first|omega|(simp only [lnS];omega))) only [rdT,rdS,tn1,last_w,last_wi]);(try cbv))
     |(refine E.d 9 (by decide +kernel) ?_;cbv;(fail_if_success guard_target =~ False))
     |(refine E.d 20 (by decide +kernel) ?_;cbv;(fail_if_success guard_target =~ False))
     | fail
    )
    refine st_J hJ ?_
    refine st_go (Step.short 10 (fun _=>N-1) rfl) ?_
    refine st_go (Step.putE 6 10 (fun _=>evL (dropG g t).th) rfl rfl fun _=>⟨⟨rfl,rfl,?_⟩,?_⟩) ?_
    ·show ((((g.th.getD t []).length:Int)-1).toNat-0)=_
     rw [LV.l_of,List.length_take,q1,Nat.min_eq_left (by omega)]
     omega
    ·show (evL g.th).set t _=evL (g.th.set t _)
     rw [←evL_set,←hN]
     congr 1
     simp [evs,List.map_take]
    refine st_go (Step.short 11 (fun _=>N-1) rfl) ?_
    refine st_go (Step.putE 7 11 (fun _=>idL (dropG g t).fr) rfl rfl fun _=>⟨⟨rfl,rfl,?_⟩,?_⟩) ?_
    ·show ((((g.th.getD t []).length:Int)-1).toNat-0)=_
     rw [LV.l_of,List.length_take,q2,Nat.min_eq_left (by omega)]
     omega
    ·show (idL g.fr).set t _=idL (g.fr.set t _)
     rw [←idL_set,←hN]
     congr 1
     simp [ids,List.map_take]
    refine st_go (Step.fzin 6 rfl) ?_
    refine st_go (Step.fzin 7 rfl) ?_
    refine st_last (Step.fzin 8 rfl) ?_
    have o1:LV.of (List.map (fun x=>AV.vs 2 fun _=>x) (idL g.ord))=idss g.ord:=by unfold idss idL;rw [List.map_map];rfl
    have o2:LV.of (List.map (fun x=>AV.vs 2 fun _=>x) (idL (dropG g t).fr))=idss (dropG g t).fr:=by unfold idss idL;rw [List.map_map];rfl
    have o3:LV.of (List.map (fun x=>AV.vs 5 fun _=>x) (evL (dropG g t).th))=evss (dropG g t).th:=by unfold evss evL;rw [List.map_map];rfl
    have o4:((g.th.getD t []).length:Int)-1=(((g.th.getD t []).length-1:Nat):Int):=by omega
    cbv
    refine hI ?_
    cbv
    rw [List.getD_eq_getElem?_getD] at o4
    simp [o1,o2,o3,o4]
   ·have hr0:∀ s<g.th.length,((dropG g t).fr.getD s []).length=dropN g t s:=fun s hs=>by
     have h4:(dropG g t).fr.getD s []=if s=t then (g.fr.getD t []).take ((g.th.getD t []).length-1) else g.fr.getD s []:=getD_set' _ _ _ _ _ (by omega)
     have h5:=(hg.events s hs).1
     rw [h4]
     unfold dropN
     split
     ·rw [List.length_take,hft,←hN];omega
     ·exact h5
    have hr1:∀ s<g.th.length,∀ i<dropN g t s,(g.fr.getD s []).getD i id0=((dropG g t).fr.getD s []).getD i id0:=fun s hs i hi=>by
     have h4:(dropG g t).fr.getD s []=if s=t then (g.fr.getD t []).take ((g.th.getD t []).length-1) else g.fr.getD s []:=getD_set' _ _ _ _ _ (by omega)
     rw [h4]
     unfold dropN at hi
     split at hi
     ·rename_i e
      rw [if_pos e,take_getD _ _ hi,e]
     ·rename_i e
      rw [if_neg e]
    have hFl:(dropG g t).fr.length=g.fr.length:=by show (g.fr.set t _).length=_;simp
    have hF14:∀ s,((dropG g t).fr.getD s []).length≤14:=fun s=>by
     rcases Nat.lt_or_ge s g.th.length with h1 | h1
     ·rw [hr0 s h1]
      have:=hs.at s
      have:=hs.at t
      unfold dropN
      split<;>omega
     ·rw [List.getD_eq_getElem?_getD,List.getElem?_eq_none (by omega)];simp
    obtain ⟨FR,hFR⟩:∃ FR,FR=(dropG g t).fr:=⟨_,rfl⟩
    rw [←hFR] at hr0 hr1 hFl hF14
    rw [←hFR]
    refine E.bl ?_
    cbv
    skip
    skip
    repeat' (first
     |(refine ⟨fun _ h_s=>?_,fun _ h_s=>?_⟩<;>(cbv;(try simp only [nc] at *);try simp (disch:=(first|omega|(simp only [lnS];omega))) only [rdT,rdS,tn1,last_w,last_wi,reduceCtorEq,trT] at h_s))
     |(refine hF ?_;intro _;clear hF)
     |(refine hF ?_;cbv;clear hF)
     |(refine ⟨fun _=>?_,?_⟩;(· ((try simp only [nc] at *);first|done|omega|exact ⟨by omega,rfl⟩|(simp (disch:=(first|omega|(simp only [lnS];omega))) only [rdT,rdS,tn1,last_w,last_wi];first|done|omega|rfl|exact ⟨by omega,rfl⟩|(simp;done)|(simp;omega))|(intros;trivial)|exact ⟨trivial,by omega⟩|rfl));(try (simp only [nc] at *));(try simp (disch:=(first|omega|(simp only [lnS];omega))) only [rdT,rdS,tn1,last_w,last_wi]);(try cbv))
     |(refine E.d 9 (by decide +kernel) ?_;cbv;(fail_if_success guard_target =~ False))
     |(refine E.d 20 (by decide +kernel) ?_;cbv;(fail_if_success guard_target =~ False))
     | fail
    )
    refine E.loopS (ι:=Nat) (fun s=>s≤FR.length∧(∀ s'<s,∀ i<(FR.getD s' []).length,(FR.getD s' []).getD i id0≠lastI g t)) (fun s=>FR.length-s) (fun s=>[(23,.i fun _=>((s:Nat):Int))]) (fun s h=>h) 0 (fun _=>by first|rfl|simp) ⟨Nat.zero_le _,?_⟩ ?_ fun s hs I1 hI1=>?_
    ·intro s' h;omega
    ·cbv;simp
    cbv
    obtain ⟨hs1,hs2⟩:=hs
    repeat' (first
     |(refine ⟨fun _ h_s=>?_,fun _ h_s=>?_⟩<;>(cbv;(try simp only [nc] at *);try simp (disch:=(first|omega|(simp only [lnS];omega))) only [rdT,rdS,tn1,last_w,last_wi,reduceCtorEq,trT] at h_s))
     |(refine hF ?_;intro _;clear hF)
     |(refine hF ?_;cbv;clear hF)
     |(refine ⟨fun _=>?_,?_⟩;(· ((try simp only [nc] at *);first|done|omega|exact ⟨by omega,rfl⟩|(simp (disch:=(first|omega|(simp only [lnS];omega))) only [rdT,rdS,tn1,last_w,last_wi];first|done|omega|rfl|exact ⟨by omega,rfl⟩|(simp;done)|(simp;omega))|(intros;trivial)|exact ⟨trivial,by omega⟩|rfl));(try (simp only [nc] at *));(try simp (disch:=(first|omega|(simp only [lnS];omega))) only [rdT,rdS,tn1,last_w,last_wi]);(try cbv))
     |(refine E.d 9 (by decide +kernel) ?_;cbv;(fail_if_success guard_target =~ False))
     |(refine E.d 20 (by decide +kernel) ?_;cbv;(fail_if_success guard_target =~ False))
     | fail
    )
    ·have hsl:s<FR.length:=by ((try simp only [nc] at *);omega)
     have hl:=hF14 s
     refine E.loopS (ι:=Nat) (fun i=>i≤(FR.getD s []).length∧(∀ i'<i,(FR.getD s []).getD i' id0≠lastI g t)) (fun i=>(FR.getD s []).length-i) (fun i=>[(24,.i fun _=>((i:Nat):Int))]) (fun i h=>h) 0 (fun _=>by first|rfl|simp) ⟨Nat.zero_le _,?_⟩ ?_ fun i hi I2 hI2=>?_
     ·intro i' h;omega
     ·cbv;simp
     cbv
     obtain ⟨hi1,hi2⟩:=hi
     repeat' (first
      |(refine ⟨fun _ h_s=>?_,fun _ h_s=>?_⟩<;>(cbv;(try simp only [nc] at *);try simp (disch:=(first|omega|(simp only [lnS];omega))) only [rdT,rdS,tn1,last_w,last_wi,reduceCtorEq,trT] at h_s))
      |(refine hF ?_;intro _;clear hF)
      |(refine hF ?_;cbv;clear hF)
      |(refine ⟨fun _=>?_,?_⟩;(· ((try simp only [nc] at *);first|done|omega|exact ⟨by omega,rfl⟩|(simp (disch:=(first|omega|(simp only [lnS];omega))) only [rdT,rdS,tn1,last_w,last_wi];first|done|omega|rfl|exact ⟨by omega,rfl⟩|(simp;done)|(simp;omega))|(intros;trivial)|exact ⟨trivial,by omega⟩|rfl));(try (simp only [nc] at *));(try simp (disch:=(first|omega|(simp only [lnS];omega))) only [rdT,rdS,tn1,last_w,last_wi]);(try cbv))
      |(refine E.d 9 (by decide +kernel) ?_;cbv;(fail_if_success guard_target =~ False))
      |(refine E.d 20 (by decide +kernel) ?_;cbv;(fail_if_success guard_target =~ False))
      | fail
     )
     ·rfl
     ·have hne:(FR.getD s []).getD i id0≠lastI g t:=fun e=>by
       rw [Nat.zero_add,show (FR.getD s []).getD i (⟨0,0⟩:EId)=lastI g t from e] at h_s
       simp at h_s
      have hil:i<(FR.getD s []).length:=by rw [Nat.zero_add] at *;((try simp only [nc] at *);omega)
      refine hI2 (i+1) ⟨by omega,fun i' h'=>?_⟩ (by omega) ?_
      ·rcases Nat.lt_or_ge i' i with h4 | h4
       ·exact hi2 i' h4
       ·rw [show i'=i by omega];exact hne
      cbv
      clear hI2 hI1 hF
      (try simp only [nc] at *)
      (try simp (disch:=(first|omega|(simp only [lnS];omega))) only [rdT,rdS,tn1,last_w,last_wi,anT])
      push_cast;rfl
     ·have hil:i=(FR.getD s []).length:=by rw [Nat.zero_add] at *;((try simp only [nc] at *);omega)
      refine hI1 (s+1) ⟨by omega,fun s' h'=>?_⟩ (by omega) ?_
      ·rcases Nat.lt_or_ge s' s with h4 | h4
       ·exact hs2 s' h4
       ·rw [show s'=s by omega]
        intro i' h5
        exact hi2 i' (by omega)
      cbv
      clear hI2 hI1 hF
      (try simp only [nc] at *)
      (try simp (disch:=(first|omega|(simp only [lnS];omega))) only [rdT,rdS,tn1,last_w,last_wi,anT])
      push_cast;rfl
    ·skip
     have hsf:s=FR.length:=by ((try simp only [nc] at *);omega)
     have hrr:∀ s<g.th.length,∀ i<dropN g t s,(g.fr.getD s []).getD i id0≠lastI g t:=fun s' h' i h2=>by
      rw [hr1 s' h' i h2]
      exact hs2 s' (by omega) i (by rw [hr0 s' h'];exact h2)
     have hd:=drop_okM ht (by omega) hrr hb
     have kb:=mcheckA (γ:=γ) m (dropG g t) (rd_short (okM_gok hd))
     rw [hd] at kb
     have hoe:okE m=0:=by
      unfold okE
      unfold okM at hb
      simp only [Bool.and_eq_true,decide_eq_true_eq] at hb
      rw [if_pos hb.1]
     rw [hoe] at kb
     obtain ⟨OD,hOD⟩:∃ OD:Nat→List (List EId),∀ x,OD x=(g.ord.take x).map (fun o=>o.filter fun d=>decide (d≠lastI g t))++g.ord.drop x:=⟨_,fun _=>rfl⟩
     obtain ⟨OE,hOE⟩:∃ OE:Nat→Nat→List EId,∀ x i,OE x i=(((OD x).getD x []).take i).filter fun d=>decide (d≠lastI g t):=⟨_,fun _ _=>rfl⟩
     have hOD0:OD 0=g.ord:=by rw [hOD];simp
     have hODe:OD g.ord.length=(dropG g t).ord:=by rw [hOD];simp [dropG]
     have hODl:∀ x,x≤g.ord.length→(OD x).length=g.ord.length:=fun x h=>by rw [hOD];simp;omega
     have hODx:∀ x,x<g.ord.length→(OD x).getD x []=g.ord.getD x []:=fun x h=>by
      rw [hOD,List.getD_eq_getElem?_getD,List.getElem?_append_right (by simp;omega)]
      simp [show x-min x g.ord.length=0 by omega]
     have hODS:∀ x,x<g.ord.length→OD (x+1)=(OD x).set x (OE x ((OD x).getD x []).length):=fun x h=>by
      rw [hOE,List.take_length,hODx x h,hOD,hOD,take_succ' _ x [] h,List.map_append,List.set_append_right _ _ (by simp;omega)]
      have e1:x-(List.map (fun o=>List.filter (fun d=>decide (d≠lastI g t)) o) (List.take x g.ord)).length=0:=by simp;omega
      have e2:g.ord.drop x=g.ord.getD x [] :: g.ord.drop (x+1):=by rw [List.drop_eq_getElem_cons h,gD' h]
      rw [e1,e2,List.set_cons_zero,List.append_assoc]
      rfl
     have hol:∀ x,x<g.ord.length→((OD x).getD x []).length≤56:=fun x h=>by rw [hODx x h];exact ord56 hg x
     have hOE0:∀ x,OE x 0=[]:=fun x=>by rw [hOE];rfl
     have hOES:∀ x i,i<((OD x).getD x []).length→OE x (i+1)=OE x i++if ((OD x).getD x []).getD i id0≠lastI g t then [((OD x).getD x []).getD i id0] else []:=fun x i h=>by
      rw [hOE,hOE,take_succ' _ i id0 h,List.filter_append]
      congr 1
      split
      ·rename_i hc;rw [List.filter_cons_of_pos (by rw [decide_eq_true_eq];exact hc),List.filter_nil]
      ·rename_i hc;rw [List.filter_cons_of_neg (by rw [decide_eq_true_eq];exact hc),List.filter_nil]
     have hOEl:∀ x i,(OE x i).length≤i:=fun x i=>by rw [hOE];exact Nat.le_trans (List.length_filter_le _ _) (by simp;omega)
     clear hOD hOE
     obtain ⟨G,hG⟩:∃ G:Nat→Nat,∀ x,G x=x:=⟨_,fun _=>rfl⟩
     have hG0:G 0=0:=hG 0
     refine E.w (AWP.step (Step.forget (A':=told 286 [(1,.i fun _=>m),(21,.ptr 1 0),(22,.ptr 9 0),(25,.i fun _=>0)] [.any,.box (aId (lastI g t)),.any,.any,.run 0 1 fun _=>is g.init,.any,.run n1 1 fun _=>evss (dropG g t).th,.run n2 1 fun _=>idss FR,.run n3 1 fun _=>idss g.ord,.box (.agg [.sl 4 0 1 (fun _=>0) fun _=>g.init.length,.sl 6 n1 1 (fun _=>0) fun _=>g.th.length,.sl 7 n2 1 (fun _=>0) fun _=>g.fr.length,.sl 8 n3 1 (fun _=>0) fun _=>g.ord.length])]) ?_ rfl) ?_)
     ·cbv;simp
     refine E.loopCA (ι:=Nat) (fun x=>x≤g.ord.length) (fun x=>g.ord.length-x) (fun x=>[(25,.i fun _=>((x:Nat):Int))]) (fun x=>[.any,.box (aId (lastI g t)),.any,.any,.run 0 1 fun _=>is g.init,.any,.run n1 1 fun _=>evss (dropG g t).th,.run n2 1 fun _=>idss FR,.run n3 1 fun _=>idss (OD x),.box (.agg [.sl 4 0 1 (fun _=>0) fun _=>g.init.length,.sl 6 n1 1 (fun _=>0) fun _=>g.th.length,.sl 7 n2 1 (fun _=>0) fun _=>g.fr.length,.sl 8 n3 1 (fun _=>0) fun _=>g.ord.length])]) 0 rfl (fun _=>rfl) (Nat.zero_le _) ?_ fun x hx1 I2 hI2=>?_
     ·cbv;simp [hOD0]
     refine E.cutI (ι:=Unit) 2 (fun _=>x<g.ord.length) (fun _=>told 286 [(1,.i fun _=>m),(21,.ptr 1 0),(22,.ptr 9 0),(25,.i fun _=>((x:Nat):Int))] [.any,.box (aId (lastI g t)),.any,.any,.run 0 1 fun _=>is g.init,.any,.run n1 1 fun _=>evss (dropG g t).th,.run n2 1 fun _=>idss FR,.run n3 1 fun _=>idss (OD x),.box (.agg [.sl 4 0 1 (fun _=>0) fun _=>g.init.length,.sl 6 n1 1 (fun _=>0) fun _=>g.th.length,.sl 7 n2 1 (fun _=>0) fun _=>g.fr.length,.sl 8 n3 1 (fun _=>0) fun _=>g.ord.length])]) (by kernel_rfl) (fun _=>Nat.le_refl _) (fun I3 hI3=>?_) fun _ hx2=>?_
     ·cbv
      repeat' (first
       |(refine ⟨fun _ h_s=>?_,fun _ h_s=>?_⟩<;>(cbv;(try simp only [nc] at *);try simp (disch:=(first|omega|(simp only [lnS];omega))) only [rdT,rdS,tn1,last_w,last_wi,Nat.zero_add,reduceCtorEq,trT] at h_s))
       |(refine hF ?_;intro _;clear hF)
       |(refine hF ?_;cbv;clear hF)
       |(refine ⟨fun _=>?_,?_⟩;(· ((try simp only [nc] at *);first|done|omega|exact ⟨by omega,rfl⟩|(simp (disch:=(first|omega|(simp only [lnS];omega))) only [rdT,rdS,tn1,last_w,last_wi,Nat.zero_add];first|done|omega|rfl|exact ⟨by omega,rfl⟩|(simp;done)|(simp;omega))|(intros;trivial)|exact ⟨trivial,by omega⟩|rfl));(try (simp only [nc] at *));(try simp (disch:=(first|omega|(simp only [lnS];omega))) only [rdT,rdS,tn1,last_w,last_wi,Nat.zero_add]);(try cbv))
       |(refine E.d 9 (by decide +kernel) ?_;cbv;(fail_if_success guard_target =~ False))
       |(refine E.d 20 (by decide +kernel) ?_;cbv;(fail_if_success guard_target =~ False))
       | fail
      )
      ·refine hI3 () (by ((try simp only [nc] at *);omega)) ?_
       cbv;simp
      ·have hxe:x=g.ord.length:=by ((try simp only [nc] at *);omega)
       subst hxe
       have p1:(dropG g t).th.length=g.th.length:=by show (g.th.set t _).length=_;simp
       have p2:List.take g.init.length (is g.init).l=(is g.init).l:=List.take_of_length_le (by simp)
       have p3:List.take g.th.length (evss (dropG g t).th).l=(evss (dropG g t).th).l:=List.take_of_length_le (by rw [evss_len,p1];exact Nat.le_refl _)
       have p4:List.take g.fr.length (idss FR).l=(idss FR).l:=List.take_of_length_le (by rw [idss_len,hFl];exact Nat.le_refl _)
       have p5:List.take g.ord.length (idss (dropG g t).ord).l=(idss (dropG g t).ord).l:=List.take_of_length_le (by rw [idss_len];simp [dropG])
       have p6:(dropG g t).ord.length=g.ord.length:=by simp [dropG]
       have p7:(dropG g t).init=g.init:=rfl
       refine E.c (SCalls.of_bare kb rfl ?_ ?_)
       ·cbv;simp [hODe,p1,p2,p3,p4,p5,p6,p7,←hFR,hFl]
       cbv
       repeat' (first
        |(refine ⟨fun _ h_s=>?_,fun _ h_s=>?_⟩<;>(cbv;(try simp only [nc] at *);try simp (disch:=(first|omega|(simp only [lnS];omega))) only [rdT,rdS,tn1,last_w,last_wi,Nat.zero_add,reduceCtorEq,trT] at h_s))
        |(refine hF ?_;intro _;clear hF)
        |(refine hF ?_;cbv;clear hF)
        |(refine ⟨fun _=>?_,?_⟩;(· ((try simp only [nc] at *);first|done|omega|exact ⟨by omega,rfl⟩|(simp (disch:=(first|omega|(simp only [lnS];omega))) only [rdT,rdS,tn1,last_w,last_wi,Nat.zero_add];first|done|omega|rfl|exact ⟨by omega,rfl⟩|(simp;done)|(simp;omega))|(intros;trivial)|exact ⟨trivial,by omega⟩|rfl));(try (simp only [nc] at *));(try simp (disch:=(first|omega|(simp only [lnS];omega))) only [rdT,rdS,tn1,last_w,last_wi,Nat.zero_add]);(try cbv))
        |(refine E.d 9 (by decide +kernel) ?_;cbv;(fail_if_success guard_target =~ False))
        |(refine E.d 20 (by decide +kernel) ?_;cbv;(fail_if_success guard_target =~ False))
        | fail
       )
       all_goals first
        | rfl
        | (exfalso;revert h_s;simp;done)
     have hODl:=hODl x hx1
     have hol:=hol x hx2
     have hODS:=hODS x hx2
     have hOE0:=hOE0 x
     have hOES:=hOES x
     have hOEl:=hOEl x
     refine AWPl.block ?_
     refine E.cut 3 (told 286 [(1,.i fun _=>m),(21,.ptr 1 0),(22,.ptr 9 0),(25,.i fun _=>((x:Nat):Int)),(26,.vs 2 fun _=>ids (OE x ((OD x).getD x []).length))] [.any,.box (aId (lastI g t)),.any,.any,.run 0 1 fun _=>is g.init,.any,.run n1 1 fun _=>evss (dropG g t).th,.run n2 1 fun _=>idss FR,.run n3 1 fun _=>idss (OD x),.box (.agg [.sl 4 0 1 (fun _=>0) fun _=>g.init.length,.sl 6 n1 1 (fun _=>0) fun _=>g.th.length,.sl 7 n2 1 (fun _=>0) fun _=>g.fr.length,.sl 8 n3 1 (fun _=>0) fun _=>g.ord.length])]) (by kernel_rfl) (Nat.le_refl _) (fun I3 hI3=>?_) (E.blk ?_)
     ·cbv
      repeat' (first
       |(refine ⟨fun _ h_s=>?_,fun _ h_s=>?_⟩<;>(cbv;(try simp only [nc] at *);try simp (disch:=(first|omega|(simp only [lnS];omega))) only [rdT,rdS,tn1,last_w,last_wi,Nat.zero_add,reduceCtorEq,trT] at h_s))
       |(refine hF ?_;intro _;clear hF)
       |(refine hF ?_;cbv;clear hF)
       |(refine ⟨fun _=>?_,?_⟩;(· ((try simp only [nc] at *);first|done|omega|exact ⟨by omega,rfl⟩|(simp (disch:=(first|omega|(simp only [lnS];omega))) only [rdT,rdS,tn1,last_w,last_wi,Nat.zero_add];first|done|omega|rfl|exact ⟨by omega,rfl⟩|(simp;done)|(simp;omega))|(intros;trivial)|exact ⟨trivial,by omega⟩|rfl));(try (simp only [nc] at *));(try simp (disch:=(first|omega|(simp only [lnS];omega))) only [rdT,rdS,tn1,last_w,last_wi,Nat.zero_add]);(try cbv))
       |(refine E.d 9 (by decide +kernel) ?_;cbv;(fail_if_success guard_target =~ False))
       |(refine E.d 20 (by decide +kernel) ?_;cbv;(fail_if_success guard_target =~ False))
       | fail
      )
      refine E.w (AWP.ghostSlot 26 2 rfl (by omega) ?_)
      refine E.loopSA (ι:=Nat) (fun i=>i≤((OD x).getD x []).length) (fun i=>((OD x).getD x []).length-i) (fun i=>[(26,.sl 10 (G (OE x i).length) 2 (fun _=>0) fun _=>(OE x i).length),(27,.i fun _=>((i:Nat):Int))]) (fun i h=>h.set 10 (.run (G (OE x i).length) 2 fun _=>ids (OE x i))) 0 (fun _=>by first|rfl|simp) (Nat.zero_le _) ?_ fun i hi I4 hI4=>?_
      ·cbv;simp [hG0,hOE0,ids,LV.of]
      cbv
      have f1:=hOES i
      have f2:=hOEl i
      have i56:i≤56:=by omega
      have o56:(OE x i).length≤56:=by omega
      skip
      repeat' (first
       |(refine hI4 (i+1) ?_ ?_ ?_;rotate_left 1;(· ((try simp only [nc] at *);omega));(cbv;clear hI4;(try clear hF);(try simp only [nc] at *);(try simp (disch:=(first|omega|(simp only [lnS];omega))) only [rdT,rdS,tn1,last_w,last_wi,Nat.zero_add,anT]));rotate_left 1;(try ((try simp only [nc] at *);omega)))
       |(refine ⟨fun _ h_s=>?_,fun _ h_s=>?_⟩<;>(cbv;(try simp only [nc] at *);try simp (disch:=(first|omega|(simp only [lnS];omega))) only [rdT,rdS,tn1,last_w,last_wi,Nat.zero_add,reduceCtorEq,trT] at h_s))
       |(refine hF ?_;intro _;clear hF)
       |(refine hF ?_;cbv;clear hF)
       |(refine ⟨fun _=>?_,?_⟩;(· ((try simp only [nc] at *);first|done|omega|exact ⟨by omega,rfl⟩|(simp (disch:=(first|omega|(simp only [lnS];omega))) only [rdT,rdS,tn1,last_w,last_wi,Nat.zero_add];first|done|omega|rfl|exact ⟨by omega,rfl⟩|(simp;done)|(simp;omega))|(intros;trivial)|exact ⟨trivial,by omega⟩|rfl|exact ⟨trivial,trivial,trivial,by simp [setAll];omega,by simp [setAll];omega,by simp [setAll,AV.nrm,nrms,nrm1,AV.flat,AV.cells,AV.one]⟩));(try (simp only [nc] at *));(try simp (disch:=(first|omega|(simp only [lnS];omega))) only [rdT,rdS,tn1,last_w,last_wi,Nat.zero_add]);(try cbv))
       |(refine E.d 9 (by decide +kernel) ?_;cbv;(fail_if_success guard_target =~ False))
       |(refine E.d 20 (by decide +kernel) ?_;cbv;(fail_if_success guard_target =~ False))
       | fail
      )
      ·have hil:i<((OD x).getD x []).length:=by ((try simp only [nc] at *);omega)
       have hm:((OD x).getD x []).getD i id0≠lastI g t:=fun e=>by
        rw [show ((OD x).getD x []).getD i (⟨0,0⟩:EId)=lastI g t from e] at h_s
        simp at h_s
       have f1:=f1 hil
       rw [if_pos hm] at f1
       simp [hG,f1,ids,setAll,AV.nrm,nrms,nrm1]
      ·have hil:i<((OD x).getD x []).length:=by ((try simp only [nc] at *);omega)
       have hm:¬ ((OD x).getD x []).getD i id0≠lastI g t:=fun e=>by
        apply e
        simp only [Bool.and_true,Bool.and_eq_true,decide_eq_true_eq] at h_s
        exact EId.ext' h_s.1 h_s.2
       have f1:=f1 hil
       rw [if_neg hm,List.append_nil] at f1
       simp [f1]
      ·have hie:i=((OD x).getD x []).length:=by ((try simp only [nc] at *);omega)
       subst hie
       clear hI4
       refine hI3 ?_
       cbv
       have q2:List.take (OE x ((OD x).getD x []).length).length (ids (OE x ((OD x).getD x []).length)).l=(ids (OE x ((OD x).getD x []).length)).l:=List.take_of_length_le (by rw [ids_len];exact Nat.le_refl _)
       simp only [ids_len,List.drop_zero,q2,and_self,implies_true,Nat.zero_add,Nat.le_refl]
     ·cbv
      skip
      repeat' (first
       |(refine ⟨fun _ h_s=>?_,fun _ h_s=>?_⟩<;>(cbv;(try simp only [nc] at *);try simp (disch:=(first|omega|(simp only [lnS];omega))) only [rdT,rdS,tn1,last_w,last_wi,Nat.zero_add,reduceCtorEq,trT] at h_s))
       |(refine hF ?_;intro _;clear hF)
       |(refine hF ?_;cbv;clear hF)
       |(refine ⟨fun _=>?_,?_⟩;(· ((try simp only [nc] at *);first|done|omega|exact ⟨by omega,rfl⟩|(simp (disch:=(first|omega|(simp only [lnS];omega))) only [rdT,rdS,tn1,last_w,last_wi,Nat.zero_add];first|done|omega|rfl|exact ⟨by omega,rfl⟩|(simp;done)|(simp;omega))|(intros;trivial)|exact ⟨trivial,by omega⟩|rfl|exact ⟨trivial,trivial,trivial,by simp [setAll];omega,by simp [setAll];omega,by simp [setAll,AV.nrm,nrms,nrm1,AV.flat,AV.cells,AV.one]⟩|exact ⟨trivial,by omega,rfl⟩));(try (simp only [nc] at *));(try simp (disch:=(first|omega|(simp only [lnS];omega))) only [rdT,rdS,tn1,last_w,last_wi,Nat.zero_add]);(try cbv))
       |(refine E.d 9 (by decide +kernel) ?_;cbv;(fail_if_success guard_target =~ False))
       |(refine E.d 20 (by decide +kernel) ?_;cbv;(fail_if_success guard_target =~ False))
       | fail
      )
      refine hI2 (x+1) (by omega) (by omega) ?_
      have o5:LV.of ((idss (OD x)).l.set x ((AV.vs 2 fun _=>ids ((OD x).getD x [])).upd 0 (AV.vs 2 fun _=>ids (OE x ((OD x).getD x []).length))))=idss (OD (x+1)):=by
       rw [hODS]
       show LV.of ((idss (OD x)).l.set x (AV.vs 2 fun _=>ids (OE x ((OD x).getD x []).length)))=_
       unfold idss
       rw [LV.l_of,List.map_set]
      cbv
      exact ⟨⟨⟨fun _=>rfl,⟨fun _=>by push_cast;rfl,trivial⟩,trivial⟩,trivial⟩,⟨⟨fun _=>rfl,fun _=>rfl,trivial⟩,trivial⟩,fun _=>⟨rfl,rfl⟩,fun _=>⟨rfl,rfl⟩,fun _=>⟨rfl,rfl⟩,fun _=>⟨rfl,o5⟩,⟨⟨fun _=>⟨rfl,rfl,rfl⟩,fun _=>⟨rfl,rfl,rfl⟩,fun _=>⟨rfl,rfl,rfl⟩,fun _=>⟨rfl,rfl,rfl⟩,trivial⟩,trivial⟩,trivial⟩
theorem modelGoesOn_ok (g:Gr) (hR:Rd g) (m t:Int) (a:Ak) (v:Int)
  (hA:∀ e d p,Pure Try.prog γ false 37 [aGr g,.i fun _=>t,aEv e,aId d,.i fun _=>p] (.tup [aGr (addR g t e d p),.i fun _=>addE g t e d p])) :
  Pure Try.prog γ false 4 [aGr g,.i fun _=>m,.i fun _=>t,aAsk a,.i fun _=>v] (.b fun _=>true):=by
 cases hb:okM m g with
 | false=>exact goes_bad g hR m t a v hb
 | true=>
  by_cases hn:1≤t∧t≤(g.th.length:Nat)∧0≤a.loc∧a.loc<(g.init.length:Nat)∧1≤a.order∧a.order≤6
  ·obtain ⟨k,rfl⟩:∃ k:Nat,t=(k:Int)+1:=⟨(t-1).toNat,by omega⟩
   exact goes_main g hR m k a v hb (by omega) ⟨hn.2.2.1,hn.2.2.2.1⟩ hn.2.2.2.2 hA
  ·exact goes_no g hR m t a v hb hn
end Go.AL.Rl
namespace Go.AL.Rl
open Go Go.AL Go.Proofs
set_option maxRecDepth 100000
set_option maxHeartbeats 3200000
variable {γ:Nat→Option AV}
theorem cloneId_own (l:List EId) (hl:l.length * 16≤140737488351232):Owns Try.prog γ 96 [.vs 2 fun _=>ids l] (.sl 0 0 2 (fun _=>0) fun _=>l.length) [.run 0 2 fun _=>ids l]:=by
 refine SCalls.nilrun 2 ?_
 refine SCalls.go (ty:=ty) ty_eq mo Try.func96 rfl Try.ntmps96 Try.results96 Try.call96 (by simp) fun P C CQ D W F E hF=>?_
 cbv
 repeat' (first
  |(refine ⟨fun _ h_s=>?_,fun _ h_s=>?_⟩<;>(cbv;(try simp only [nc] at *);try simp (disch:=(first|omega|(simp only [lnS];omega))) only [rdT,rdS,reduceCtorEq,trT] at h_s))
  |(refine hF ?_;intro _;clear hF)
  |(refine hF ?_;cbv;clear hF)
  |(refine ⟨fun _=>?_,?_⟩;(· ((try simp only [nc] at *);first|done|omega|exact ⟨by omega,rfl⟩|(simp (disch:=(first|omega|(simp only [lnS];omega))) only [rdT,rdS];first|done|omega|rfl|exact ⟨by omega,rfl⟩|(simp;done)|(simp;omega))|(intros;trivial)));(try (simp only [nc] at *));(try simp (disch:=(first|omega|(simp only [lnS];omega))) only [rdT,rdS]);(try cbv))
  | fail
 )
 intro c hc
 cbv
 repeat' (first
  |(refine ⟨fun _ h_s=>?_,fun _ h_s=>?_⟩<;>(cbv;(try simp only [nc] at *);try simp (disch:=(first|omega|(simp only [lnS];omega))) only [rdT,rdS,reduceCtorEq,trT] at h_s))
  |(refine hF ?_;intro _;clear hF)
  |(refine hF ?_;cbv;clear hF)
  |(refine ⟨fun _=>?_,?_⟩;(· ((try simp only [nc] at *);first|done|omega|exact ⟨by omega,rfl⟩|(simp (disch:=(first|omega|(simp only [lnS];omega))) only [rdT,rdS];first|done|omega|rfl|exact ⟨by omega,rfl⟩|(simp;done)|(simp;omega))|(intros;trivial)));(try (simp only [nc] at *));(try simp (disch:=(first|omega|(simp only [lnS];omega))) only [rdT,rdS]);(try cbv))
  | fail
 )
 ·have e:l=[]:=by simpa [ids] using hc () h_s
  subst e
  exact ⟨fun _=>⟨rfl,rfl,rfl⟩,fun _=>⟨rfl,rfl⟩,trivial⟩
 ·refine ⟨fun _=>⟨by simp;omega,by simp;omega,id_flat l⟩,hF (.inl ?_)⟩
  cbv
  simp
theorem cloneEv_own (l:List Ev) (hl:l.length * 40≤140737488351232):Owns Try.prog γ 95 [.vs 5 fun _=>evs l] (.sl 0 0 5 (fun _=>0) fun _=>l.length) [.run 0 5 fun _=>evs l]:=by
 refine SCalls.nilrun 5 ?_
 refine SCalls.go (ty:=ty) ty_eq mo Try.func95 rfl Try.ntmps95 Try.results95 Try.call95 (by simp) fun P C CQ D W F E hF=>?_
 cbv
 repeat' (first
  |(refine ⟨fun _ h_s=>?_,fun _ h_s=>?_⟩<;>(cbv;(try simp only [nc] at *);try simp (disch:=(first|omega|(simp only [lnS];omega))) only [rdT,rdS,reduceCtorEq,trT] at h_s))
  |(refine hF ?_;intro _;clear hF)
  |(refine hF ?_;cbv;clear hF)
  |(refine ⟨fun _=>?_,?_⟩;(· ((try simp only [nc] at *);first|done|omega|exact ⟨by omega,rfl⟩|(simp (disch:=(first|omega|(simp only [lnS];omega))) only [rdT,rdS];first|done|omega|rfl|exact ⟨by omega,rfl⟩|(simp;done)|(simp;omega))|(intros;trivial)));(try (simp only [nc] at *));(try simp (disch:=(first|omega|(simp only [lnS];omega))) only [rdT,rdS]);(try cbv))
  | fail
 )
 intro c hc
 cbv
 repeat' (first
  |(refine ⟨fun _ h_s=>?_,fun _ h_s=>?_⟩<;>(cbv;(try simp only [nc] at *);try simp (disch:=(first|omega|(simp only [lnS];omega))) only [rdT,rdS,reduceCtorEq,trT] at h_s))
  |(refine hF ?_;intro _;clear hF)
  |(refine hF ?_;cbv;clear hF)
  |(refine ⟨fun _=>?_,?_⟩;(· ((try simp only [nc] at *);first|done|omega|exact ⟨by omega,rfl⟩|(simp (disch:=(first|omega|(simp only [lnS];omega))) only [rdT,rdS];first|done|omega|rfl|exact ⟨by omega,rfl⟩|(simp;done)|(simp;omega))|(intros;trivial)));(try (simp only [nc] at *));(try simp (disch:=(first|omega|(simp only [lnS];omega))) only [rdT,rdS]);(try cbv))
  | fail
 )
 ·have e:l=[]:=by simpa [evs] using hc () h_s
  subst e
  exact ⟨fun _=>⟨rfl,rfl,rfl⟩,fun _=>⟨rfl,rfl⟩,trivial⟩
 ·refine ⟨fun _=>⟨by simp;omega,by simp;omega,evs_flat l⟩,hF (.inl ?_)⟩
  cbv
  simp
theorem cloneI_ok (l:List Int) (hl:l.length * 8≤140737488351232):Pure Try.prog γ false 71 [.vs 1 fun _=>is l] (.vs 1 fun _=>is l):=by
 refine Pure.go (ty:=ty) ty_eq mo Try.func71 rfl Try.ntmps71 Try.results71 Try.call71 (by simp) fun P C CQ D W F E hF=>?_
 cbv
 repeat' (first
  |(refine ⟨fun _ h_s=>?_,fun _ h_s=>?_⟩<;>(cbv;(try simp only [nc] at *);try simp (disch:=(first|omega|(simp only [lnS];omega))) only [rdT,rdS,reduceCtorEq,trT] at h_s))
  |(refine hF ?_;intro _;clear hF)
  |(refine hF ?_;cbv;clear hF)
  |(refine ⟨fun _=>?_,?_⟩;(· ((try simp only [nc] at *);first|done|omega|exact ⟨by omega,rfl⟩|(simp (disch:=(first|omega|(simp only [lnS];omega))) only [rdT,rdS];first|done|omega|rfl|exact ⟨by omega,rfl⟩|(simp;done)|(simp;omega))|(intros;trivial)));(try (simp only [nc] at *));(try simp (disch:=(first|omega|(simp only [lnS];omega))) only [rdT,rdS]);(try cbv))
  | fail
 )
 intro c hc
 cbv
 repeat' (first
  |(refine ⟨fun _ h_s=>?_,fun _ h_s=>?_⟩<;>(cbv;(try simp only [nc] at *);try simp (disch:=(first|omega|(simp only [lnS];omega))) only [rdT,rdS,reduceCtorEq,trT] at h_s))
  |(refine hF ?_;intro _;clear hF)
  |(refine hF ?_;cbv;clear hF)
  |(refine ⟨fun _=>?_,?_⟩;(· ((try simp only [nc] at *);first|done|omega|exact ⟨by omega,rfl⟩|(simp (disch:=(first|omega|(simp only [lnS];omega))) only [rdT,rdS];first|done|omega|rfl|exact ⟨by omega,rfl⟩|(simp;done)|(simp;omega))|(intros;trivial)));(try (simp only [nc] at *));(try simp (disch:=(first|omega|(simp only [lnS];omega))) only [rdT,rdS]);(try cbv))
  | fail
 )
 ·exact hc () (by simpa using h_s)
 ·refine ⟨fun _=>⟨by simp;omega,by simp;omega,fun v hv=>?_⟩,?_⟩
  ·unfold is at hv
   rw [LV.l_of] at hv
   obtain ⟨x,_,rfl⟩:=List.mem_map.1 hv
   rfl
  ·refine hF ?_
   cbv
   intro _
   exact ⟨rfl,by simp,by rw [List.drop_zero,List.take_of_length_le (Nat.le_refl _)]⟩
def cpF (L:List LV) (i:Nat):List LV:=L.take i++List.replicate (L.length-i) .nil
theorem cpF_zero (L:List LV):cpF L 0=List.replicate L.length .nil:=by simp [cpF]
theorem cpF_full (L:List LV):cpF L L.length=L:=by simp [cpF]
theorem cpF_len (L:List LV) (i:Nat) (h:i≤L.length):(cpF L i).length=L.length:=by simp [cpF];omega
theorem cpF_set (L:List LV) (i:Nat) (h:i<L.length):(cpF L i).set i (L.getD i .nil)=cpF L (i+1):=by
 unfold cpF
 rw [List.set_append,if_neg (by simp;omega)]
 have e1:i-(List.take i L).length=0:=by simp;omega
 have e2:L.length-i=(L.length-(i+1))+1:=by omega
 rw [e1,e2,List.replicate_succ,List.set_cons_zero,take_succ' L i .nil h,List.append_assoc]
 rfl
theorem copiedId_own (l:List (List EId)) (hl:l.length * 24≤140737488351232) (hs:∀ x∈l,x.length * 16≤140737488351232):Owns Try.prog γ 73 [.vs 1 fun _=>idss l] (.sl 0 0 1 (fun _=>0) fun _=>l.length) [.nest 0 2 (fun _=>idL l) none]:=by
 have c1:∀ i,i<l.length→(l.getD i []).length * 16≤140737488351232:=fun i hi=>hs _ (getD_mem hi)
 have f0:=cpF_zero (idL l)
 have f1:=cpF_full (idL l)
 have f2:=fun i h=>cpF_len (idL l) i h
 have f3:=fun i h=>cpF_set (idL l) i h
 rw [idL_len] at f0 f1 f2 f3
 simp only [idL_get] at f3
 generalize cpF (idL l)=X at *
 refine Owns.go (ty:=ty) ty_eq mo Try.func73 rfl Try.ntmps73 Try.results73 Try.call73 (by simp) fun P C CQ D W F E hF=>?_
 cbv
 repeat' (first
  |(refine ⟨fun _ h_s=>?_,fun _ h_s=>?_⟩<;>(cbv;(try simp only [nc] at *);try simp (disch:=(first|omega|(simp only [lnS];omega))) only [rdT,rdS,reduceCtorEq,trT] at h_s))
  |(refine hF ?_;intro _;clear hF)
  |(refine hF ?_;cbv;clear hF)
  |(refine ⟨fun _=>?_,?_⟩;(· ((try simp only [nc] at *);first|done|omega|exact ⟨by omega,rfl⟩|(simp (disch:=(first|omega|(simp only [lnS];omega))) only [rdT,rdS];first|done|omega|rfl|exact ⟨by omega,rfl⟩|(simp;done)|(simp;omega))|(intros;trivial)));(try (simp only [nc] at *));(try simp (disch:=(first|omega|(simp only [lnS];omega))) only [rdT,rdS]);(try cbv))
  | fail
 )
 refine E.w (AWP.step (Step.nilsN 0 2 l.length rfl (by simp)) ?_)
 refine E.loopCA (ι:=Nat) (fun i=>i≤l.length) (fun i=>l.length-i) (fun i=>[(11,.i fun _=>((i:Nat):Int))]) (fun i=>[.nest 0 2 (fun _=>X i) none]) 0 rfl (fun _=>rfl) (Nat.zero_le _) ?_ fun i hi I hI=>?_
 ·cbv;simp [f0]
 refine E.at 2 fun J hJ=>?_
 cbv
 repeat' (first
  |(refine ⟨fun _ h_s=>?_,fun _ h_s=>?_⟩<;>(cbv;(try simp only [nc] at *);try simp (disch:=(first|omega|(simp only [lnS];omega))) only [rdT,rdS,reduceCtorEq,trT] at h_s))
  |(refine hF ?_;intro _;clear hF)
  |(refine hF ?_;cbv;clear hF)
  |(refine ⟨fun _=>?_,?_⟩;(· ((try simp only [nc] at *);first|done|omega|exact ⟨by omega,rfl⟩|(simp (disch:=(first|omega|(simp only [lnS];omega))) only [rdT,rdS];first|done|omega|rfl|exact ⟨by omega,rfl⟩|(simp;done)|(simp;omega))|(intros;trivial)));(try (simp only [nc] at *));(try simp (disch:=(first|omega|(simp only [lnS];omega))) only [rdT,rdS]);(try cbv))
  | fail
 )
 ·have hil:i<l.length:=by ((try simp only [nc] at *);omega)
  have k:=cloneId_own (γ:=γ) (l.getD i []) (c1 i hil)
  have f2:=f2 i hi
  have f3:=f3 i hil
  refine hJ (AWPl.blockS fun J2 hJ2=>AWPl.step (Step.drop 0 rfl (fun _=>i)) rfl (E.bl ?_))
  cbv
  repeat' (first
   |(refine E.c (SCalls.of_owns (k) ?_ ?_);(· (cbv;(try simp only [nc] at *);first|done|(simp;done)|(simp (disch:=(first|omega|(simp only [lnS];omega))) only [rdT,rdS,anT];first|done|omega|(refine ⟨?_,?_⟩<;>omega))|(simp (disch:=(first|omega|(simp only [lnS];omega))) [rdT,rdS];done)));cbv)
   |(refine ⟨fun _ h_s=>?_,fun _ h_s=>?_⟩<;>(cbv;(try simp only [nc] at *);try simp (disch:=(first|omega|(simp only [lnS];omega))) only [rdT,rdS,reduceCtorEq,trT] at h_s))
   |(refine hF ?_;intro _;clear hF)
   |(refine hF ?_;cbv;clear hF)
   |(refine ⟨fun _=>?_,?_⟩;(· ((try simp only [nc] at *);first|done|omega|exact ⟨by omega,rfl⟩|(simp (disch:=(first|omega|(simp only [lnS];omega))) only [rdT,rdS];first|done|omega|rfl|exact ⟨by omega,rfl⟩|(simp;done)|(simp;omega))|(intros;trivial)));(try (simp only [nc] at *));(try simp (disch:=(first|omega|(simp only [lnS];omega))) only [rdT,rdS]);(try cbv))
   | fail
  )
  refine ⟨fun _=>⟨trivial,by omega,by rw [f2];exact hil⟩,?_⟩
  refine hJ2 (AWPl.step (Step.put 0 1 rfl rfl fun _=>⟨rfl,rfl,by simp⟩) rfl (E.bl ?_))
  cbv
  repeat' (first
   |(refine hI (i+1) ?_ ?_ ?_;rotate_left 1;(· ((try simp only [nc] at *);omega));(cbv;clear hI;(try clear hF);(try simp only [nc] at *);(try simp (disch:=(first|omega|(simp only [lnS];omega))) only [rdT,rdS,anT]));rotate_left 1;(try ((try simp only [nc] at *);omega)))
   |(refine ⟨fun _ h_s=>?_,fun _ h_s=>?_⟩<;>(cbv;(try simp only [nc] at *);try simp (disch:=(first|omega|(simp only [lnS];omega))) only [rdT,rdS,reduceCtorEq,trT] at h_s))
   |(refine hF ?_;intro _;clear hF)
   |(refine hF ?_;cbv;clear hF)
   |(refine ⟨fun _=>?_,?_⟩;(· ((try simp only [nc] at *);first|done|omega|exact ⟨by omega,rfl⟩|(simp (disch:=(first|omega|(simp only [lnS];omega))) only [rdT,rdS];first|done|omega|rfl|exact ⟨by omega,rfl⟩|(simp;done)|(simp;omega))|(intros;trivial)));(try (simp only [nc] at *));(try simp (disch:=(first|omega|(simp only [lnS];omega))) only [rdT,rdS]);(try cbv))
   | fail
  )
  exact ⟨by push_cast;rfl,f3⟩
 ·obtain rfl:i=l.length:=by ((try simp only [nc] at *);omega)
  refine hF ?_ ?_
  ·cbv;simp
  ·simp [leH,leB,f1]
theorem copiedEv_own (l:List (List Ev)) (hl:l.length * 24≤140737488351232) (hs:∀ x∈l,x.length * 40≤140737488351232):Owns Try.prog γ 72 [.vs 1 fun _=>evss l] (.sl 0 0 1 (fun _=>0) fun _=>l.length) [.nest 0 5 (fun _=>evL l) none]:=by
 have c1:∀ i,i<l.length→(l.getD i []).length * 40≤140737488351232:=fun i hi=>hs _ (getD_mem hi)
 have f0:=cpF_zero (evL l)
 have f1:=cpF_full (evL l)
 have f2:=fun i h=>cpF_len (evL l) i h
 have f3:=fun i h=>cpF_set (evL l) i h
 rw [evL_len] at f0 f1 f2 f3
 simp only [evL_get] at f3
 generalize cpF (evL l)=X at *
 refine Owns.go (ty:=ty) ty_eq mo Try.func72 rfl Try.ntmps72 Try.results72 Try.call72 (by simp) fun P C CQ D W F E hF=>?_
 cbv
 repeat' (first
  |(refine ⟨fun _ h_s=>?_,fun _ h_s=>?_⟩<;>(cbv;(try simp only [nc] at *);try simp (disch:=(first|omega|(simp only [lnS];omega))) only [rdT,rdS,reduceCtorEq,trT] at h_s))
  |(refine hF ?_;intro _;clear hF)
  |(refine hF ?_;cbv;clear hF)
  |(refine ⟨fun _=>?_,?_⟩;(· ((try simp only [nc] at *);first|done|omega|exact ⟨by omega,rfl⟩|(simp (disch:=(first|omega|(simp only [lnS];omega))) only [rdT,rdS];first|done|omega|rfl|exact ⟨by omega,rfl⟩|(simp;done)|(simp;omega))|(intros;trivial)));(try (simp only [nc] at *));(try simp (disch:=(first|omega|(simp only [lnS];omega))) only [rdT,rdS]);(try cbv))
  | fail
 )
 refine E.w (AWP.step (Step.nilsN 0 5 l.length rfl (by simp)) ?_)
 refine E.loopCA (ι:=Nat) (fun i=>i≤l.length) (fun i=>l.length-i) (fun i=>[(11,.i fun _=>((i:Nat):Int))]) (fun i=>[.nest 0 5 (fun _=>X i) none]) 0 rfl (fun _=>rfl) (Nat.zero_le _) ?_ fun i hi I hI=>?_
 ·cbv;simp [f0]
 refine E.at 2 fun J hJ=>?_
 cbv
 repeat' (first
  |(refine ⟨fun _ h_s=>?_,fun _ h_s=>?_⟩<;>(cbv;(try simp only [nc] at *);try simp (disch:=(first|omega|(simp only [lnS];omega))) only [rdT,rdS,reduceCtorEq,trT] at h_s))
  |(refine hF ?_;intro _;clear hF)
  |(refine hF ?_;cbv;clear hF)
  |(refine ⟨fun _=>?_,?_⟩;(· ((try simp only [nc] at *);first|done|omega|exact ⟨by omega,rfl⟩|(simp (disch:=(first|omega|(simp only [lnS];omega))) only [rdT,rdS];first|done|omega|rfl|exact ⟨by omega,rfl⟩|(simp;done)|(simp;omega))|(intros;trivial)));(try (simp only [nc] at *));(try simp (disch:=(first|omega|(simp only [lnS];omega))) only [rdT,rdS]);(try cbv))
  | fail
 )
 ·have hil:i<l.length:=by ((try simp only [nc] at *);omega)
  have k:=cloneEv_own (γ:=γ) (l.getD i []) (c1 i hil)
  have f2:=f2 i hi
  have f3:=f3 i hil
  refine hJ (AWPl.blockS fun J2 hJ2=>AWPl.step (Step.drop 0 rfl (fun _=>i)) rfl (E.bl ?_))
  cbv
  repeat' (first
   |(refine E.c (SCalls.of_owns (k) ?_ ?_);(· (cbv;(try simp only [nc] at *);first|done|(simp;done)|(simp (disch:=(first|omega|(simp only [lnS];omega))) only [rdT,rdS,anT];first|done|omega|(refine ⟨?_,?_⟩<;>omega))|(simp (disch:=(first|omega|(simp only [lnS];omega))) [rdT,rdS];done)));cbv)
   |(refine ⟨fun _ h_s=>?_,fun _ h_s=>?_⟩<;>(cbv;(try simp only [nc] at *);try simp (disch:=(first|omega|(simp only [lnS];omega))) only [rdT,rdS,reduceCtorEq,trT] at h_s))
   |(refine hF ?_;intro _;clear hF)
   |(refine hF ?_;cbv;clear hF)
   |(refine ⟨fun _=>?_,?_⟩;(· ((try simp only [nc] at *);first|done|omega|exact ⟨by omega,rfl⟩|(simp (disch:=(first|omega|(simp only [lnS];omega))) only [rdT,rdS];first|done|omega|rfl|exact ⟨by omega,rfl⟩|(simp;done)|(simp;omega))|(intros;trivial)));(try (simp only [nc] at *));(try simp (disch:=(first|omega|(simp only [lnS];omega))) only [rdT,rdS]);(try cbv))
   | fail
  )
  refine ⟨fun _=>⟨trivial,by omega,by rw [f2];exact hil⟩,?_⟩
  refine hJ2 (AWPl.step (Step.put 0 1 rfl rfl fun _=>⟨rfl,rfl,by simp⟩) rfl (E.bl ?_))
  cbv
  repeat' (first
   |(refine hI (i+1) ?_ ?_ ?_;rotate_left 1;(· ((try simp only [nc] at *);omega));(cbv;clear hI;(try clear hF);(try simp only [nc] at *);(try simp (disch:=(first|omega|(simp only [lnS];omega))) only [rdT,rdS,anT]));rotate_left 1;(try ((try simp only [nc] at *);omega)))
   |(refine ⟨fun _ h_s=>?_,fun _ h_s=>?_⟩<;>(cbv;(try simp only [nc] at *);try simp (disch:=(first|omega|(simp only [lnS];omega))) only [rdT,rdS,reduceCtorEq,trT] at h_s))
   |(refine hF ?_;intro _;clear hF)
   |(refine hF ?_;cbv;clear hF)
   |(refine ⟨fun _=>?_,?_⟩;(· ((try simp only [nc] at *);first|done|omega|exact ⟨by omega,rfl⟩|(simp (disch:=(first|omega|(simp only [lnS];omega))) only [rdT,rdS];first|done|omega|rfl|exact ⟨by omega,rfl⟩|(simp;done)|(simp;omega))|(intros;trivial)));(try (simp only [nc] at *));(try simp (disch:=(first|omega|(simp only [lnS];omega))) only [rdT,rdS]);(try cbv))
   | fail
  )
  exact ⟨by push_cast;rfl,f3⟩
 ·obtain rfl:i=l.length:=by ((try simp only [nc] at *);omega)
  refine hF ?_ ?_
  ·cbv;simp
  ·simp [leH,leB,f1]
theorem copied_own (g:Gr) (hb:RdB g) (hR:Rd g):Owns Try.prog γ 53 [aGr g] (.agg [.vs 1 fun _=>is g.init,.sl 2 1 1 (fun _=>0) fun _=>g.th.length,.sl 3 1 1 (fun _=>0) fun _=>g.fr.length,.sl 4 1 1 (fun _=>0) fun _=>g.ord.length])
  [.any,.any,.nest 1 5 (fun _=>evL g.th) none,.nest 1 2 (fun _=>idL g.fr) none,.nest 1 2 (fun _=>idL g.ord) none]:=by
 have k1:=cloneI_ok (γ:=γ) g.init (by have:=hb.init;omega)
 have k2:=copiedEv_own (γ:=γ) g.th (by have:=hb.th;omega) hb.ths
 have k3:=copiedId_own (γ:=γ) g.fr (by have:=hb.fr;omega) hb.frs
 have k4:=copiedId_own (γ:=γ) g.ord (by have:=hb.ord;omega) hb.ords
 refine Owns.go (ty:=ty) ty_eq mo Try.func53 rfl Try.ntmps53 Try.results53 Try.call53 (by simp) fun P C CQ D W F E hF=>?_
 cbv
 repeat' (first
  |((first|refine E.c (SCalls.of_le (k1) ?_ ?_)|refine E.q (QCalls.of_le (k1) ?_ ?_));(· (cbv;(try simp only [nc] at *);first|done|(simp;done)|(simp (disch:=(first|omega|(simp only [lnS];omega))) only [rdT,rdS,anT];first|done|omega|(refine ⟨?_,?_⟩<;>omega))|(simp (disch:=(first|omega|(simp only [lnS];omega))) [rdT,rdS];done)));cbv)
  | ((refine E.dc 13 [] [some 1,some 1,some 1] [5,8,11] (by decide +kernel) ?_;cbv))
  |(refine ⟨fun _ h_s=>?_,fun _ h_s=>?_⟩<;>(cbv;(try simp only [nc] at *);try simp (disch:=(first|omega|(simp only [lnS];omega))) only [rdT,rdS,reduceCtorEq,trT] at h_s))
  |(refine hF ?_;intro _;clear hF)
  |(refine hF ?_;cbv;clear hF)
  |(refine ⟨fun _=>?_,?_⟩;(· ((try simp only [nc] at *);first|done|omega|exact ⟨by omega,rfl⟩|(simp (disch:=(first|omega|(simp only [lnS];omega))) only [rdT,rdS];first|done|omega|rfl|exact ⟨by omega,rfl⟩|(simp;done)|(simp;omega))|(intros;trivial)));(try (simp only [nc] at *));(try simp (disch:=(first|omega|(simp only [lnS];omega))) only [rdT,rdS]);(try cbv))
  |(refine E.d 11 (by decide +kernel) ?_;cbv;(fail_if_success guard_target =~ False))
  | fail
 )
 refine ⟨_,2,_,_,rfl,rfl,fun h' hs=>E.c (SCalls.ghostNest k2 ?_ (subH.at hs rfl (by simp))),?_⟩
 ·cbv;simp
 cbv
 repeat' (first
  |(refine ⟨fun _ h_s=>?_,fun _ h_s=>?_⟩<;>(cbv;(try simp only [nc] at *);try simp (disch:=(first|omega|(simp only [lnS];omega))) only [rdT,rdS,reduceCtorEq,trT] at h_s))
  |(refine hF ?_;intro _;clear hF)
  |(refine hF ?_;cbv;clear hF)
  |(refine ⟨fun _=>?_,?_⟩;(· ((try simp only [nc] at *);first|done|omega|exact ⟨by omega,rfl⟩|(simp (disch:=(first|omega|(simp only [lnS];omega))) only [rdT,rdS];first|done|omega|rfl|exact ⟨by omega,rfl⟩|(simp;done)|(simp;omega))|(intros;trivial)));(try (simp only [nc] at *));(try simp (disch:=(first|omega|(simp only [lnS];omega))) only [rdT,rdS]);(try cbv))
  |(refine E.d 11 (by decide +kernel) ?_;cbv;(fail_if_success guard_target =~ False))
  | fail
 )
 refine ⟨_,3,_,_,rfl,rfl,fun h' hs=>E.c (SCalls.ghostNest k3 ?_ (subH.at hs rfl (by simp))),?_⟩
 ·cbv;simp
 cbv
 repeat' (first
  |(refine ⟨fun _ h_s=>?_,fun _ h_s=>?_⟩<;>(cbv;(try simp only [nc] at *);try simp (disch:=(first|omega|(simp only [lnS];omega))) only [rdT,rdS,reduceCtorEq,trT] at h_s))
  |(refine hF ?_;intro _;clear hF)
  |(refine hF ?_;cbv;clear hF)
  |(refine ⟨fun _=>?_,?_⟩;(· ((try simp only [nc] at *);first|done|omega|exact ⟨by omega,rfl⟩|(simp (disch:=(first|omega|(simp only [lnS];omega))) only [rdT,rdS];first|done|omega|rfl|exact ⟨by omega,rfl⟩|(simp;done)|(simp;omega))|(intros;trivial)));(try (simp only [nc] at *));(try simp (disch:=(first|omega|(simp only [lnS];omega))) only [rdT,rdS]);(try cbv))
  |(refine E.d 11 (by decide +kernel) ?_;cbv;(fail_if_success guard_target =~ False))
  | fail
 )
 refine ⟨_,4,_,_,rfl,rfl,fun h' hs=>E.c (SCalls.ghostNest k4 ?_ (subH.at hs rfl (by simp))),?_⟩
 ·cbv;simp
 cbv
 repeat' (first
  |(refine ⟨fun _ h_s=>?_,fun _ h_s=>?_⟩<;>(cbv;(try simp only [nc] at *);try simp (disch:=(first|omega|(simp only [lnS];omega))) only [rdT,rdS,reduceCtorEq,trT] at h_s))
  |(refine hF ?_;intro _;clear hF)
  |(refine hF ?_;cbv;clear hF)
  |(refine ⟨fun _=>?_,?_⟩;(· ((try simp only [nc] at *);first|done|omega|exact ⟨by omega,rfl⟩|(simp (disch:=(first|omega|(simp only [lnS];omega))) only [rdT,rdS];first|done|omega|rfl|exact ⟨by omega,rfl⟩|(simp;done)|(simp;omega))|(intros;trivial)));(try (simp only [nc] at *));(try simp (disch:=(first|omega|(simp only [lnS];omega))) only [rdT,rdS]);(try cbv))
  |(refine E.d 11 (by decide +kernel) ?_;cbv;(fail_if_success guard_target =~ False))
  | fail
 )
 refine hF ?_ ?_
 all_goals simp [leV,leVs,leH,leB,vresult,AV.cells]
end Go.AL.Rl
namespace Go.AL.Rl
open Go Go.AL Go.Proofs Go.Shelf Go.RowKit Go.Lib
set_option maxRecDepth 100000
set_option maxHeartbeats 4000000
theorem idInfo:∃ i0,Try.prog.info? 35=some i0∧i0.zero=some (Value.agg #[.int .i64 0,.int .i64 0])∧i0.size=2∧i0.bytes=16:=by
 have h:(Try.prog.info? 35).map (fun i=>(i.zero,i.size,i.bytes))=some (some (Value.agg #[.int .i64 0,.int .i64 0]),2,16):=by kernel_rfl
 exact info_parts h
theorem overlaps_apart {P:Program} (w:World) (tS tR e:TypeId) (ht:P.underlying tS=some (.slice e)) (size:Nat) (hz:∀ w,(Go.sizeOf e).run P w=.ok size w)
  (a b:Addr) (la ca lb cb:Nat) (hne:a.block≠b.block) (tA tB:TypeId) (kA kB:Nat) (hsa:w.shape? a.block=some (tA,kA)) (hsb:w.shape? b.block=some (tB,kB)) (hkA:kA≠0) (hkB:kB≠0)
  (hfb:w.frozen? b=false) (hfe:w.frozen? { block:=b.block,off:=kB }=false) :
  (Extern.SlicesOverlaps.overlaps #[tS,tS] #[tR] #[.slice (some a) la ca,.slice (some b) lb cb]).run P w=.ok (.bool false) w:=by
 have hnb:(a.block != b.block)=true:=by simpa using hne
 have hnb':(a.block == b.block)=false:=by simpa using hne
 delta Extern.SlicesOverlaps.overlaps
 change Sem.run P (underlying tS >>= _) w=_
 by_cases h0:la=0∨lb=0∨size=0
 ·simp [run_underlying ht,hz,h0]
 ·obtain ⟨kB,rfl⟩:∃ k,kB=k+1:=⟨kB-1,by omega⟩
  obtain ⟨kA,rfl⟩:∃ k,kA=k+1:=⟨kA-1,by omega⟩
  cases ha:w.frozen? a with
  | true=>simp [run_underlying ht,hz,h0,hnb,hnb',frozen,noView,viewAt,mayBeOne,stringish,shape,Sem.run,hsa,hsb,hfb,hfe,ha]
  | false=>
   cases hae:w.frozen? { block:=a.block,off:=kA+1 } with
   | true=>simp [run_underlying ht,hz,h0,hnb,hnb',frozen,noView,viewAt,mayBeOne,stringish,shape,Sem.run,hsa,hsb,hfb,hfe,ha,hae]
   | false=>simp [run_underlying ht,hz,h0,hnb,hnb',frozen,noView,viewAt,mayBeOne,stringish,shape,Sem.run,hsa,hsb,hfb,hfe,ha,hae]
theorem insert_room (K n cap i Kv vo vc:Nat) (evs R:List Value) (ct:TypeId) (x:Value) (w:World)
  (hK:w.heap[K]?=some (.cells (flat evs++R).toArray ct (0,0))) (hne:Kv≠K) (hn:evs.length=n)
  (h2:∀ e∈evs,e.cells.size=2) (h1:∀ e∈evs,∀ u∈e.cells.toList,u.oneCell'=true) (hx2:x.cells.size=2) (hx1:∀ u∈x.cells.toList,u.oneCell'=true)
  (hxV:∀ (j:Nat) (c:Value),x.cells[j]?=some c→w.cell? ⟨Kv,vo+j,none⟩=some c) (hi:i<n) (hroom:n+1≤cap) (hR:2≤R.length) (hn63:n≤1000000) :
  ∃ w',(Fr w w'∧(∀ k,k≠K→w'.heap[k]?=w.heap[k]?)∧w'.heap[K]?=some (.cells (flat (evs.take i++[x]++evs.drop i)++R.drop 2).toArray ct (0,0))) ∧
  Calls Try.prog 54 #[.slice (some ⟨K,0,none⟩) n cap,.int .i64 i,.slice (some ⟨Kv,vo,none⟩) 1 vc] w fun e w1=>
   e=.returned (.slice (some ⟨K,0,none⟩) (n+1) cap)∧w1=w':=by
 subst hn
 obtain ⟨i0,hi0,hz0,hzs,hzb⟩:=idInfo
 have t0:=Try.underlying0;have a0:=Try.isAgg0;have z0:=Try.sizeOf0;have v0:=Try.zeroValue0
 have t3:=Try.underlying3;have a3:=Try.isAgg3;have z3:=Try.sizeOf3;have v3:=Try.zeroValue3
 have t4:=Try.underlying4;have a4:=Try.isAgg4;have z4:=Try.sizeOf4;have v4:=Try.zeroValue4
 have t9:=Try.underlying35;have a9:=Try.isAgg35;have z9:=Try.sizeOf35;have v9:=Try.zeroValue35
 have t24:=Try.underlying47;have a24:=Try.isAgg47;have z24:=Try.sizeOf47;have v24:=Try.zeroValue47
 have u0:=run_underlying t0;have u3:=run_underlying t3;have u4:=run_underlying t4;have u9:=run_underlying t9;have u24:=run_underlying t24
 have mixed:Try.prog.follows .mixedOrders=true:=by kernel_rfl
 have hw1:IntKind.i64.wrap ((i:Int)+1)=(i:Int)+1:=by rw [IntKind.wrap_i64];omega
 have hb1:(0:Int)≤(i:Int)+1:=by omega
 have hin:i≤evs.length:=by omega
 have htn:((i:Int)+1).toNat=i+1:=by omega
 have hb2:¬ (cap=i+1):=by omega
 have hb3:(i:Int)≤(evs.length:Int)+1:=by omega
 have hb4:¬ (cap=i):=by omega
 have hb5:(i:Int)≤(evs.length:Int):=by omega
 obtain ⟨C1,hC1⟩:∃ C1:List Value,C1=(flat evs++R).take ((i+1) * 2)++flat (evs.drop i)++(flat evs++R).drop ((i+1) * 2+(flat (evs.drop i)).length):=⟨_,rfl⟩
 have l0:=flat_length h2
 have l1:=flat_dropl h2 i
 have l2:=flat_one hx2
 have hrow:=row_shift (R:=R) h2 hx2 hi C1 hC1
 have hC1l:C1.length=(flat evs++R).length:=by rw [hC1];simp [l0,l1];omega
 have hmin:min (evs.length-i) (evs.length-i)=evs.length-i:=by omega
 have hcp1:∀ ty dn dc sn sc,(dn=evs.length-i∧evs.length-i≤sn)→(Builtin.copy_ #[47,47] ty #[.slice (some ⟨K,(i+1) * 2,none⟩) dn dc,.slice (some ⟨K,i * 2,none⟩) sn sc]).run Try.prog w.drew =
   .ok (.int .i64 ((evs.drop i).length:Nat)) (w.drew.setRow K C1.toArray):=fun ty dn dc sn sc ⟨hd1,hd2⟩=>by
  rw [hC1]
  refine run_copy_row (P:=Try.prog) t24 hi0 (w:=w.drew) hK _ _ _ _ _ _ _ _ (by rw [List.length_drop,hd1];exact Nat.min_eq_right hd2) (fun e he=>by rw [hzs];exact h2 e (List.mem_of_mem_drop he)) (fun e he=>h1 e (List.mem_of_mem_drop he)) (fun j c hj=>?_) (by rw [l1];simp [l0];omega)
  rw [cell_heap (w:=w.drew) hK,List.getElem?_toArray]
  have h3:=flat_drop h2 i (by omega)
  rw [←h3,List.getElem?_drop] at hj
  rw [List.getElem?_append_left (List.getElem?_eq_some_iff.1 hj).1];exact hj
 have hcp2:∀ ty dn dc,1≤dn→(Builtin.copy_ #[47,47] ty #[.slice (some ⟨K,i * 2,none⟩) dn dc,.slice (some ⟨Kv,vo,none⟩) 1 vc]).run Try.prog (w.drew.setRow K C1.toArray) =
   .ok (.int .i64 ([x].length:Nat)) ((w.drew.setRow K C1.toArray).setRow K (flat (evs.take i++[x]++evs.drop i)++R.drop 2).toArray):=fun ty dn dc hd=>by
  rw [←hrow]
  refine run_copy_row (P:=Try.prog) t24 hi0 (w:=w.drew.setRow K C1.toArray) (setRow_heap w.drew K _ _ ct _ hK) _ _ _ _ _ _ _ _ (by exact Nat.min_eq_left hd) (fun e he=>by rw [hzs];rw [List.mem_singleton.1 he];exact hx2) (fun e he=>by rw [List.mem_singleton.1 he];exact hx1) (fun j c hj=>?_) (by rw [l2,hC1l];simp [l0];omega)
  rw [World.cell?_of_block (w:=w) (a:=⟨Kv,vo+j,none⟩) (setRow_other w.drew K Kv _ hne)]
  exact hxV j c (by simpa [flat] using hj)
 have hov:∀ W:World,W.heap[K]?=w.heap[K]?→W.heap[Kv]?=w.heap[Kv]?→∀ lb cb,(callFunc 74 #[.slice (some ⟨Kv,vo,none⟩) 1 vc,.slice (some ⟨K,(i+1) * 2,none⟩) lb cb]).run Try.prog W=.ok (.value (.bool false)) W:=fun W hW1 hW2 lb cb=>by
  have hWK:=hW1.trans hK
  have hx0:=hxV 0 _ (Array.getElem?_eq_getElem (by omega))
  obtain ⟨V,vt,vf,hV⟩:∃ V vt vf,w.heap[Kv]?=some (.cells V vt vf)∧V.size≠0:=by
   cases hk:w.heap[Kv]? with
   | none=>simp [World.cell?,hk] at hx0
   | some o=>
    cases o with
    | cells V vt vf=>
     refine ⟨V,vt,vf,rfl,fun h0=>?_⟩
     have:V=#[]:=by simpa using h0
     simp [World.cell?,hk,this] at hx0
    | _=>simp [World.cell?,hk] at hx0
  have hWV:=hW2.trans hV.1
  rw [run_callFunc_extern Try.func74 (by kernel_rfl) (by kernel_rfl) (by kernel_rfl) (e:=Extern.SlicesOverlaps.overlaps #[47,47] #[4]) (by kernel_rfl),
   overlaps_apart W 47 4 35 t24 2 z9 ⟨Kv,vo,none⟩ ⟨K,(i+1) * 2,none⟩ 1 vc lb cb hne vt ct V.size (flat evs++R).toArray.size (by simp [World.shape?,hWV]) (by simp [World.shape?,hWK]) hV.2 (by simp only [List.size_toArray,List.length_append];omega) (by simp [World.frozen?,hWK]) (by simp [World.frozen?,hWK])]
  rfl
 refine ⟨(w.drew.setRow K C1.toArray).setRow K (flat (evs.take i++[x]++evs.drop i)++R.drop 2).toArray,?_,?_⟩
 rotate_left
 ·have hdn:1≤evs.length+1-i:=by omega
  clear hrow hC1l l0 l1 l2 hC1
  go_enter Try.func54,Try.ntmps54
  go_wp2_with (simp only [hov])
  go_region_law_o (refine step_copy_runI rfl _ _ 47 47 rfl (.slice (some ⟨K,(i+1) * 2,none⟩) (evs.length-i) (cap-(i+1))) (.slice (some ⟨K,i * 2,none⟩) (evs.length+1-i) (cap-i)) (by simp [Act.eval,Act.put]) (by simp [Act.eval,Act.put]) (hcp1 _ _ _ _ _ ⟨by first | rfl | omega,by omega⟩) ?_)
  go_wp2_with (at_builtin;refine wpList_copy_runI _ rfl _ _ 47 47 rfl _ _ rfl rfl (hcp2 _ _ _ hdn) ?_)
  go_ret
  exact ⟨rfl,by simp⟩
 ·have q1:=setRow_heap w.drew K (flat evs++R).toArray C1.toArray ct (0,0) hK
  refine ⟨((Fr.drew w).trans (Fr.setRow _ K _ _ ct hK)).trans (Fr.setRow _ K _ _ ct q1),fun k hk=>?_,setRow_heap _ K _ _ ct (0,0) q1⟩
  rw [setRow_other _ K k _ hk,setRow_other _ K k _ hk];rfl
theorem insert_grow (K n cap i Kv vo vc:Nat) (evs R:List Value) (ct:TypeId) (x:Value) (w:World)
  (hK:w.heap[K]?=some (.cells (flat evs++R).toArray ct (0,0))) (hne:Kv≠K) (hn:evs.length=n)
  (h2:∀ e∈evs,e.cells.size=2) (h1:∀ e∈evs,∀ u∈e.cells.toList,u.oneCell'=true) (hx2:x.cells.size=2) (hx1:∀ u∈x.cells.toList,u.oneCell'=true)
  (hxV:∀ (j:Nat) (c:Value),x.cells[j]?=some c→w.cell? ⟨Kv,vo+j,none⟩=some c) (hi:i<n) (hnc:n≤cap) (hroom:cap<n+1) (hn63:n≤1000000) :
  Calls Try.prog 54 #[.slice (some ⟨K,0,none⟩) n cap,.int .i64 i,.slice (some ⟨Kv,vo,none⟩) 1 vc] w fun e w1=>
   ∃ G R',n+1≤G∧R'.length=(G-(n+1)) * 2∧e=.returned (.slice (some ⟨w.heap.size,0,none⟩) (n+1) G)∧Fr w w1∧w.heap.size<w1.heap.size∧(∀ k,k<w.heap.size→w1.heap[k]?=w.heap[k]?) ∧
    w1.heap[w.heap.size]?=some (.cells (flat (evs.take i++[x]++evs.drop i)++R').toArray 35 (0,0)):=by
 subst hn
 obtain ⟨i0,hi0,hz0,hzs,hzb⟩:=idInfo
 have t0:=Try.underlying0;have a0:=Try.isAgg0;have z0:=Try.sizeOf0;have v0:=Try.zeroValue0
 have t3:=Try.underlying3;have a3:=Try.isAgg3;have z3:=Try.sizeOf3;have v3:=Try.zeroValue3
 have t4:=Try.underlying4;have a4:=Try.isAgg4;have z4:=Try.sizeOf4;have v4:=Try.zeroValue4
 have t9:=Try.underlying35;have a9:=Try.isAgg35;have z9:=Try.sizeOf35;have v9:=Try.zeroValue35
 have t24:=Try.underlying47;have a24:=Try.isAgg47;have z24:=Try.sizeOf47;have v24:=Try.zeroValue47
 have u0:=run_underlying t0;have u3:=run_underlying t3;have u4:=run_underlying t4;have u9:=run_underlying t9;have u24:=run_underlying t24
 have mixed:Try.prog.follows .mixedOrders=true:=by kernel_rfl
 have l0:(flat (evs.take i)).length=i * 2:=by rw [flat_length fun e he=>h2 e (List.mem_of_mem_take he),List.length_take];congr 1;omega
 have hbw:K<w.heap.size:=(Array.getElem?_eq_some_iff.1 hK).1
 have hvw:Kv<w.heap.size:=block_lt_of_cell (hxV 0 _ (Array.getElem?_eq_getElem (by omega)))
 have hfn:=run_firstCells' (P:=Try.prog) (sz:=2) (a:=some ⟨K,0,none⟩) (cap:=cap) (w:=w.drew) (evs:=evs.take i) (fun e he=>h2 e (List.mem_of_mem_take he)) (.inr ⟨K,0,rfl,fun j c hj=>by
  rw [cell_heap (w:=w.drew) hK,List.getElem?_toArray,Nat.zero_add]
  rw [←flat_take h2 i (by omega),List.getElem?_take] at hj
  split at hj
  ·rw [List.getElem?_append_left (List.getElem?_eq_some_iff.1 hj).1];exact hj
  ·cases hj⟩) (evs.take i).length (Nat.le_refl _)
 rw [List.take_length,List.length_take,Nat.min_eq_left (by omega)] at hfn
 obtain ⟨G,hG⟩:∃ G,G=grownCap w (evs.length+1) cap 35:=⟨_,rfl⟩
 have hGn:evs.length+1≤G:=by rw [hG];exact grownCap_ge w _ _ _
 obtain ⟨Z,hZ⟩:∃ Z:List Value,Z=(Builtin.zeroCells (Value.agg #[.int .i64 0,.int .i64 0]).cells (evs.length+1-i)).toList++(Builtin.zeroCells (Value.agg #[.int .i64 0,.int .i64 0]).cells (G-(evs.length+1))).toList:=⟨_,rfl⟩
 have hZl:Z.length=(evs.length+1-i) * 2+(G-(evs.length+1)) * 2:=by
  rw [hZ,List.length_append,zeroCells_len,zeroCells_len];rfl
 have hkk:(evs.length:Int)+1-(i:Int)=((evs.length+1-i:Nat):Int):=by omega
 have hik:i+(evs.length+1-i)=evs.length+1:=by omega
 have hrz:∀ ty,(Builtin.append_ #[47,3] ty #[.slice (some ⟨K,0,none⟩) i cap,.int .i64 ((evs.length:Int)+1-(i:Int))]).run Try.prog w =
   .ok (.slice (some ⟨w.heap.size,0,none⟩) (evs.length+1) G) (w.drew.alloc (.cells (flat (evs.take i)++Z).toArray 35)):=fun ty=>by
  have h:=Lib.run_append_grow_zeros w 47 3 ty 35 i0 _ .i64 .i64 t24 t3 hi0 hz0 (some ⟨K,0,none⟩) i cap (flat (evs.take i)) (by rw [hzs];exact hfn) (evs.length+1-i) (by omega) (by omega) (by omega) (by omega) (by rw [hzb];omega) (by rw [hzb,hik];exact growslice_fits hroom (by omega))
  rw [hik,←hG] at h
  have e:∀ (l:List Value) (a b:Array Value),l.toArray++a++b=(l++(a.toList++b.toList)).toArray:=fun l a b=>by apply Array.ext';simp
  rw [hkk,h,hZ,e]
 obtain ⟨W1,hW1⟩:∃ W1,W1=w.drew.alloc (.cells (flat (evs.take i)++Z).toArray 35):=⟨_,rfl⟩
 have hN:W1.heap[w.heap.size]?=some (.cells (flat (evs.take i)++Z).toArray 35 (0,0)):=by rw [hW1];exact heap_alloc_new w.drew _
 have hold:∀ k,k<w.heap.size→W1.heap[k]?=w.heap[k]?:=fun k hk=>by rw [hW1];exact Below.heap_alloc w.drew _ k hk
 obtain ⟨C1,hC1⟩:∃ C1:List Value,C1=(flat (evs.take i)++Z).take (i * 2)++flat [x]++(flat (evs.take i)++Z).drop (i * 2+(flat [x]).length):=⟨_,rfl⟩
 have l1:=flat_dropl h2 i
 have l2:=flat_one hx2
 have hrow:=row_anew (Z:=Z) h2 hx2 hi (by omega) C1 hC1
 have hC1l:C1.length=i * 2+Z.length:=by rw [hC1,l2];simp [l0,l2];omega
 have hcpA:∀ W:World,W.heap=W1.heap→∀ ty dn dc,1≤dn→(Builtin.copy_ #[47,47] ty #[.slice (some ⟨w.heap.size,i * 2,none⟩) dn dc,.slice (some ⟨Kv,vo,none⟩) 1 vc]).run Try.prog W =
   .ok (.int .i64 ([x].length:Nat)) (W.setRow w.heap.size C1.toArray):=fun W hW ty dn dc hd=>by
  rw [hC1]
  refine run_copy_row (P:=Try.prog) t24 hi0 (w:=W) (by rw [hW];exact hN) _ _ _ _ _ _ _ _ (by exact Nat.min_eq_left hd) (fun e he=>by rw [hzs];rw [List.mem_singleton.1 he];exact hx2) (fun e he=>by rw [List.mem_singleton.1 he];exact hx1) (fun j c hj=>?_) (by rw [l2];simp [l0];omega)
  rw [World.cell?_of_block (w:=w) (a:=⟨Kv,vo+j,none⟩) (by rw [hW];exact hold Kv hvw)]
  exact hxV j c (by simpa [flat] using hj)
 have hcpB:∀ W:World,W.heap=(W1.setRow w.heap.size C1.toArray).heap→∀ ty dn dc sn sc,(dn=evs.length-i∧evs.length-i≤sn)→(Builtin.copy_ #[47,47] ty #[.slice (some ⟨w.heap.size,(i+1) * 2,none⟩) dn dc,.slice (some ⟨K,i * 2,none⟩) sn sc]).run Try.prog W =
   .ok (.int .i64 ((evs.drop i).length:Nat)) (W.setRow w.heap.size (flat (evs.take i++[x]++evs.drop i)++Z.drop ((evs.length+1-i) * 2)).toArray):=fun W hW ty dn dc sn sc ⟨hd1,hd2⟩=>by
  rw [←hrow]
  refine run_copy_row (P:=Try.prog) t24 hi0 (w:=W) (by rw [hW];exact setRow_heap W1 _ _ _ _ _ hN) _ _ _ _ _ _ _ _ (by rw [List.length_drop,hd1];exact Nat.min_eq_right hd2) (fun e he=>by rw [hzs];exact h2 e (List.mem_of_mem_drop he)) (fun e he=>h1 e (List.mem_of_mem_drop he)) (fun j c hj=>?_) (by rw [l1,hC1l];omega)
  rw [cell_heap (w:=W) (by rw [hW,setRow_other W1 _ K _ (by omega),hold K hbw];exact hK),List.getElem?_toArray]
  have h3:=flat_drop h2 i (by omega)
  rw [←h3,List.getElem?_drop] at hj
  rw [List.getElem?_append_left (List.getElem?_eq_some_iff.1 hj).1];exact hj
 have hfin:∀ W:World,W.heap=(W1.setRow w.heap.size C1.toArray).heap→Fr w W→Fr w (W.setRow w.heap.size (flat (evs.take i++[x]++evs.drop i)++Z.drop ((evs.length+1-i) * 2)).toArray)∧w.heap.size<(W.setRow w.heap.size (flat (evs.take i++[x]++evs.drop i)++Z.drop ((evs.length+1-i) * 2)).toArray).heap.size ∧
   (∀ k,k<w.heap.size→(W.setRow w.heap.size (flat (evs.take i++[x]++evs.drop i)++Z.drop ((evs.length+1-i) * 2)).toArray).heap[k]?=w.heap[k]?)∧(W.setRow w.heap.size (flat (evs.take i++[x]++evs.drop i)++Z.drop ((evs.length+1-i) * 2)).toArray).heap[w.heap.size]?=some (.cells (flat (evs.take i++[x]++evs.drop i)++Z.drop ((evs.length+1-i) * 2)).toArray 35 (0,0)):=fun W hW hF=>by
  have q:W.heap[w.heap.size]?=some (.cells C1.toArray 35 (0,0)):=by rw [hW];exact setRow_heap W1 _ _ _ _ _ hN
  have q2:=setRow_heap W w.heap.size _ (flat (evs.take i++[x]++evs.drop i)++Z.drop ((evs.length+1-i) * 2)).toArray _ _ q
  refine ⟨hF.trans (Fr.setRow W _ _ _ _ q),(Array.getElem?_eq_some_iff.1 q2).1,fun k hk=>?_,q2⟩
  rw [setRow_other W _ k _ (by omega),hW,setRow_other W1 _ k _ (by omega)]
  exact hold k hk
 have hgo:∀ W:World,W.heap=(W1.setRow w.heap.size C1.toArray).heap→Fr w W→∃ G' R',evs.length+1≤G'∧R'.length=(G'-(evs.length+1)) * 2∧(Ending.returned (.slice (some ⟨w.heap.size,0,none⟩) (evs.length+1) G):Ending)=.returned (.slice (some ⟨w.heap.size,0,none⟩) (evs.length+1) G')∧Fr w (W.setRow w.heap.size (flat (evs.take i++[x]++evs.drop i)++Z.drop ((evs.length+1-i) * 2)).toArray)∧w.heap.size<(W.setRow w.heap.size (flat (evs.take i++[x]++evs.drop i)++Z.drop ((evs.length+1-i) * 2)).toArray).heap.size ∧
   (∀ k,k<w.heap.size→(W.setRow w.heap.size (flat (evs.take i++[x]++evs.drop i)++Z.drop ((evs.length+1-i) * 2)).toArray).heap[k]?=w.heap[k]?)∧(W.setRow w.heap.size (flat (evs.take i++[x]++evs.drop i)++Z.drop ((evs.length+1-i) * 2)).toArray).heap[w.heap.size]?=some (.cells (flat (evs.take i++[x]++evs.drop i)++R').toArray 35 (0,0)):=fun W hW hF=>
  ⟨G,_,hGn,by rw [List.length_drop,hZl];omega,rfl,hfin W hW hF⟩
 have hF1:Fr w W1:=by rw [hW1];exact Fr.drewAlloc w _ _
 have hF2:Fr w (W1.setRow w.heap.size C1.toArray):=hF1.trans (Fr.setRow W1 _ _ _ _ hN)
 rw [←hW1] at hrz
 have hw1:IntKind.i64.wrap ((i:Int)+1)=(i:Int)+1:=by rw [IntKind.wrap_i64];omega
 have hb1:(0:Int)≤(i:Int)+1:=by omega
 have hin:i≤evs.length:=by omega
 have htn:((i:Int)+1).toNat=i+1:=by omega
 have hb3:(i:Int)≤(evs.length:Int):=by omega
 have hci:¬ (cap=i):=by omega
 have hGi:¬ (G=i):=by omega
 have hGim:¬ (G=i+1):=by omega
 have hz3:(cap:Int)<(evs.length:Int)+1:=by omega
 have hdn:1≤evs.length+1-i:=by omega
 have hap:evs.take i++[x]++evs.drop i=evs.take i++x :: evs.drop i:=by simp
 rw [hap] at hgo hcpB ⊢
 clear hap
 clear hrow hC1l l0 l1 l2 hC1 hZl hfn hfin hkk hik hZ hG
 go_enter Try.func54,Try.ntmps54
 go_wp2_with (first
  | (at_builtin;refine Lib.wpList_append_run _ rfl _ _ _ _ rfl _ _ rfl rfl _ _ (hrz _) ?_)
  | (at_builtin;refine wpList_copy_runI _ rfl _ _ 47 47 rfl _ _ rfl rfl (hcpA _ rfl _ _ _ hdn) ?_))
 subst hW1
 have hcpC:=hcpB (((w.alloc (Obj.cells (flat (List.take i evs)++Z).toArray 35)).drew.setRow w.heap.size C1.toArray).drew) rfl
 go_region_law_o (refine step_copy_runI rfl _ _ 47 47 rfl (.slice (some ⟨w.heap.size,(i+1) * 2,none⟩) (evs.length-i) (G-(i+1))) (.slice (some ⟨K,i * 2,none⟩) (evs.length-i) (cap-i)) (by simp [Act.eval,Act.put]) (by simp [Act.eval,Act.put]) (hcpC _ _ _ _ _ ⟨by first | rfl | omega,by omega⟩) ?_)
 go_wp2
 go_ret
 exact hgo (((w.alloc (Obj.cells (flat (List.take i evs)++Z).toArray 35)).drew.setRow w.heap.size C1.toArray).drew) rfl ⟨hF2.os,hF2.tape,hF2.output,hF2.size,hF2.frozen⟩
variable {γ:Nat→Option AV}
theorem insert_end {h:List Blk} {b g n:Nat} {l:List AV} {x:AV} {es vs:Unit→LV} {j:Unit→Int} {m:Unit→Nat} (hb:h[b]?=some (.run g 2 es)) (hes:es ()=LV.of l) (hvs:vs ()=LV.of [x]) (hn:l.length=n) (hm:m ()=n)
  (hj:j ()=n) (hxf:x.flat=true) (hn6:n≤1000000) {Q:AV→List Blk→Prop} (hQ:Q (.sl b (g+1) 2 (fun _=>0) fun _=>n+1) (h.set b (.run (g+1) 2 fun _=>LV.of (l++[x])))) :
  SCalls Try.prog γ 54 [.sl b g 2 (fun _=>0) m,.i j,.vs 2 vs] h Q:=by
 have hT:∀ (P:Program),(ty P 47).k=.slice 35 2 16 (some (.agg [.lit 0,.lit 0])):=fun _=>rfl
 have hv:vappend (tiOf Try.prog 47).k (tiOf Try.prog 47).k h (.sl b g 2 (fun _=>0) m) (.vs 2 vs) fun v h'=>v=.sl b (g+1) 2 (fun _=>0) (fun _=>n+1)∧h'=h.set b (.run (g+1) 2 fun _=>LV.of (l++[x])):=by
  rw [←ty_eq,hT]
  simp only [vappend,vappend0,AV.cells,List.length_cons,List.length_nil,Nat.reduceAdd,BEq.rfl,if_true,shows,hb]
  refine ⟨fun _=>⟨trivial,trivial,?_,?_,?_,?_⟩,?_,?_⟩
  ·rw [hes,LV.l_of,hm,hn]
  ·rw [hvs,LV.l_of,hm];simp only [List.length_cons,List.length_nil];omega
  ·rw [hvs,LV.l_of,hm];simp only [List.length_cons,List.length_nil];omega
  ·rw [hvs,LV.l_of];intro v hv;rw [List.mem_singleton.1 hv];exact hxf
  ·rw [hvs,LV.l_of,hm];rfl
  ·rw [hes,hvs,LV.l_of,LV.l_of]
 obtain ⟨v,h',⟨rfl,rfl⟩,hrun⟩:=run_vappend (γ:=γ) (ty:=47) hv
 refine ⟨Try.call54,fun B S ρ w vals hh hargs=>?_⟩
 obtain ⟨v1,_,rfl,hv1,v2,_,rfl,hv2,v3,_,rfl,hv3,rfl⟩:=hargs
 have hv2:v2=.int .i64 n:=by rw [←hj];exact hv2
 subst hv2
 obtain ⟨v',ρ',w',h1,h2,h3,h4⟩:=hrun B S ρ w _ _ hh hv1 hv3
 obtain ⟨_,_,a,cap,_,_,_,_,_,rfl,q6,q7,_⟩:=hv1
 obtain ⟨av,cap',evs',rfl,_,b8,_⟩:=hv3
 rw [hvs] at b8
 have hl1:evs'.length=1:=Rs_len ((RL_iff _ _ _ _).1 b8)
 rw [hl1,hm] at h1 ⊢
 rw [hm] at q6
 have t0:=Try.underlying0;have a0:=Try.isAgg0;have z0:=Try.sizeOf0;have v0:=Try.zeroValue0
 have t3:=Try.underlying3;have a3:=Try.isAgg3;have z3:=Try.sizeOf3;have v3:=Try.zeroValue3
 have t4:=Try.underlying4;have a4:=Try.isAgg4;have z4:=Try.sizeOf4;have v4:=Try.zeroValue4
 have t9:=Try.underlying35;have a9:=Try.isAgg35;have z9:=Try.sizeOf35;have v9:=Try.zeroValue35
 have t24:=Try.underlying47;have a24:=Try.isAgg47;have z24:=Try.sizeOf47;have v24:=Try.zeroValue47
 have u0:=run_underlying t0;have u3:=run_underlying t3;have u4:=run_underlying t4;have u9:=run_underlying t9;have u24:=run_underlying t24
 have hfin:∃ v h' S' ρ'' v'',(Ending.returned v':Ending)=.returned v''∧Q v h'∧R S' w' (some ρ'') v v''∧HeapR B S' γ ρ'' h' w'∧Ext B S ρ w S' ρ'' w':=⟨_,_,S,ρ',v',rfl,hQ,h4,h3,h2⟩
 clear hrun hv hQ h2 h3 h4 hh b8 hvs hes hb
 show Calls Try.prog 54 #[.slice a n cap,.int .i64 n,.slice av 1 cap'] w _
 go_enter Try.func54,Try.ntmps54
 cases a with
 | none=>
  go_wp2_with (at_builtin;refine Lib.wpList_append_run _ rfl _ _ _ _ rfl _ _ rfl rfl _ _ h1 ?_)
  all_goals (go_ret;exact hfin)
 | some a=>
  obtain ⟨ab,ao,asp⟩:=a
  go_wp2_with (at_builtin;refine Lib.wpList_append_run _ rfl _ _ _ _ rfl _ _ rfl rfl _ _ h1 ?_)
  all_goals (go_ret;exact hfin)
theorem insert_ok {h:List Blk} {b g i n:Nat} {l:List AV} {x:AV} {es vs:Unit→LV} {j:Unit→Int} {m:Unit→Nat} (hb:h[b]?=some (.run g 2 es)) (hes:es ()=LV.of l) (hvs:vs ()=LV.of [x]) (hn:l.length=n) (hm:m ()=n)
  (hj:j ()=i) (hxf:x.flat=true) (hi:i≤n) (hn6:n≤1000000) {Q:AV→List Blk→Prop} (hQ:Q (.sl b (g+1) 2 (fun _=>0) fun _=>n+1) (h.set b (.run (g+1) 2 fun _=>LV.of (l.take i++x :: l.drop i)))) :
  SCalls Try.prog γ 54 [.sl b g 2 (fun _=>0) m,.i j,.vs 2 vs] h Q:=by
 rcases Nat.lt_or_eq_of_le hi with hi | rfl
 ·exact SCalls.insert (ty:=35) (by omega) Try.call54 insert_room insert_grow hb hes hvs hn hm hj hxf hi hn6 hQ
 ·refine insert_end hb hes hvs hn hm hj hxf hn6 ?_
  rw [←hn,List.take_length,List.drop_length] at hQ
  rw [←hn];exact hQ
end Go.AL.Rl
namespace Go.AL.Rl
open Go Go.AL Go.Proofs
set_option maxRecDepth 100000
set_option maxHeartbeats 3200000
variable {γ:Nat→Option AV}
theorem gok_fine {g:Gr} {t:Nat} {e:Ev} {d:EId} {p:Int} (h:GOk (addG g t e d p)) (ht:t<g.th.length):fineM g.init.length e=true:=by
 have h1:=(h.events t (by show t<(g.th.set t _).length;rw [List.length_set];exact ht)).2 (g.th.getD t []).length
 have e1:(addG g t e d p).th.getD t []=g.th.getD t []++[e]:=by
  show (g.th.set t (g.th.getD t []++[e])).getD t []=_
  rw [List.getD_eq_getElem?_getD,List.getElem?_set_self ht];rfl
 rw [e1] at h1
 have h2:=h1 (by simp)
 rw [List.getD_eq_getElem?_getD,List.getElem?_append_right (Nat.le_refl _)] at h2
 rw [Nat.sub_self] at h2
 exact h2
theorem gadd_main (g:Gr) (hg:GOk g) (t:Nat) (ht:t<g.th.length) (hl:(g.th.getD t []).length≠14) (e:Ev) (d:EId) (p:Int) :
  Pure Try.prog γ false 37 [aGr g,.i fun _=>(t:Int)+1,aEv e,aId d,.i fun _=>p] (.tup [aGr (if addC g t e d p then addG g t e d p else ⟨[],[],[],[]⟩),.i fun _=>if addC g t e d p then 0 else 2]):=by
 have hR:=rd_short hg
 have kc:=gcheck_ok (γ:=γ) g hR
 rw [gcheck0 hg] at kc
 have ko:=copied_own (γ:=γ) g (rdb_ok hg) hR
 have kw:=gwrites_ok (γ:=γ) e
 have kW:=gWrites_ok (γ:=γ) g hR hg e.loc
 have hs:=hg.short
 have hth:=hs.th
 have hle:=hs.at t
 have hlf:=hg.lfr
 have hlo:=hg.lord
 have hin:=hs.init
 have hol:=ord56 hg e.loc.toNat
 have hwl:=wrs_len hg e.loc
 obtain ⟨rG,hrG⟩:∃ r,r=if addC g t e d p then addG g t e d p else ⟨[],[],[],[]⟩:=⟨_,rfl⟩
 obtain ⟨rE,hrE⟩:∃ r:Int,r=if addC g t e d p then 0 else 2:=⟨_,rfl⟩
 rw [←hrG,←hrE]
 have hyes:addC g t e d p→rG=addG g t e d p∧rE=0:=fun h=>by rw [hrG,hrE,if_pos h,if_pos h];exact ⟨rfl,rfl⟩
 have hno:¬ addC g t e d p→rG=⟨[],[],[],[]⟩∧rE=2:=fun h=>by rw [hrG,hrE,if_neg h,if_neg h];exact ⟨rfl,rfl⟩
 clear hrG hrE
 have hwr:(wrsM g e.loc).length≤57:=hwl
 have hil:=ids_len (wrsM g e.loc)
 have hlw:∀ x:Nat,e.loc=(x:Int)→x<g.init.length→(wrsM g e.loc).length=(g.ord.getD e.loc.toNat []).length+1:=fun x hx hx2=>by
  unfold wrsM
  rw [if_pos ⟨by omega,by rw [hx];omega⟩,List.length_cons]
 have hwx:1≤(wrsM g e.loc).length→∃ x:Nat,e.loc=(x:Int)∧x<g.init.length:=fun h=>by
  unfold wrsM at h
  split at h
  ·rename_i hc;exact ⟨e.loc.toNat,by omega,by omega⟩
  ·simp at h
 obtain ⟨wl,hwl'⟩:∃ wl,wl=wrsM g e.loc:=⟨_,rfl⟩
 rw [←hwl'] at kW hwl hwr hil hlw hwx
 clear hwl'
 have q1:=evs_len (g.th.getD t [])
 have q2:=ids_len (g.fr.getD t [])
 have q3:(g.fr.getD t []).length≤14:=by have:=(hg.events t ht).1;omega
 by_cases hw:writesM e=true
 ·rw [hw] at kw
  by_cases hpc:1≤p∧p≤(wl.length:Nat)
  ·obtain ⟨x,hx,hx2⟩:=hwx (by omega)
   have hlx:=hlw x hx hx2
   have q4:=ids_len (g.ord.getD e.loc.toNat [])
   have hpi:(p-1).toNat≤(g.ord.getD e.loc.toNat []).length:=by omega
   have hpj:p-1=(((p-1).toNat:Nat):Int):=by omega
   have hxo:e.loc.toNat<g.ord.length:=by omega
   have hx0:0≤e.loc∧e.loc<(g.ord.length:Nat):=by omega
   have hpj:w64 (p-1)=(((p-1).toNat:Nat):Int):=by unfold w64;rw [IntKind.wrap_i64];omega
   clear hwx hlw
   refine Pure.goL (ty:=ty) ty_eq mo Try.func37 rfl Try.ntmps37 Try.results37 Try.call37 (by simp) fun P C CQ D W F E hF=>?_
   skip
   refine E.cut 10 (told 119 [(1,.i fun _=>(t:Int)+1),(4,.i fun _=>p),(5,.ptr 0 0),(7,.ptr 1 0),(8,.ptr 2 0),(10,.ptr 3 0),(11,.i fun _=>0),(12,.ptr 4 0)] [.box (aGr g),.box (aEv e),.box (aId d),.box (.agg [.nils,.nils,.nils,.nils]),.box (aId ⟨(t:Int)+1,((g.th.getD t []).length:Int)⟩)]) (by kernel_rfl) (Nat.zero_le _) (fun I hI=>?_) (E.bl ?_)
   ·cbv
    repeat' (first
     |((first|refine E.c (SCalls.of_le (kW) ?_ ?_)|refine E.q (QCalls.of_le (kW) ?_ ?_));(· (cbv;(try simp only [nc] at *);first|done|(simp;done)|(simp (disch:=(first|omega|(simp only [lnS];omega))) only [rdT,rdS,tn1,anT];first|done|omega|(refine ⟨?_,?_⟩<;>omega))|(simp (disch:=(first|omega|(simp only [lnS];omega))) [rdT,rdS,tn1];done)));cbv)
     |((first|refine E.c (SCalls.of_le (kw) ?_ ?_)|refine E.q (QCalls.of_le (kw) ?_ ?_));(· (cbv;(try simp only [nc] at *);first|done|(simp;done)|(simp (disch:=(first|omega|(simp only [lnS];omega))) only [rdT,rdS,tn1,anT];first|done|omega|(refine ⟨?_,?_⟩<;>omega))|(simp (disch:=(first|omega|(simp only [lnS];omega))) [rdT,rdS,tn1];done)));cbv)
     |((first|refine E.c (SCalls.of_le (kc) ?_ ?_)|refine E.q (QCalls.of_le (kc) ?_ ?_));(· (cbv;(try simp only [nc] at *);first|done|(simp;done)|(simp (disch:=(first|omega|(simp only [lnS];omega))) only [rdT,rdS,tn1,anT];first|done|omega|(refine ⟨?_,?_⟩<;>omega))|(simp (disch:=(first|omega|(simp only [lnS];omega))) [rdT,rdS,tn1];done)));cbv)
     |(refine ⟨fun _ h_s=>?_,fun _ h_s=>?_⟩<;>(cbv;(try simp only [nc] at *);try simp (disch:=(first|omega|(simp only [lnS];omega))) only [rdT,rdS,tn1,reduceCtorEq,trT] at h_s))
     |(refine hF ?_;intro _;clear hF)
     |(refine hF ?_;cbv;clear hF)
     |(refine ⟨fun _=>?_,?_⟩;(· ((try simp only [nc] at *);first|done|omega|exact ⟨by omega,rfl⟩|(simp (disch:=(first|omega|(simp only [lnS];omega))) only [rdT,rdS,tn1];first|done|omega|rfl|exact ⟨by omega,rfl⟩|(simp;done)|(simp;omega))|(intros;trivial)));(try (simp only [nc] at *));(try simp (disch:=(first|omega|(simp only [lnS];omega))) only [rdT,rdS,tn1]);(try cbv))
     |(refine E.d 15 (by decide +kernel) ?_;cbv;(fail_if_success guard_target =~ False))
     | fail
    )
    all_goals first
     | (refine hI ?_;cbv;simp;done)
     | (exfalso;revert h_s;simp;done)
     | (exfalso;clear hI;((try simp only [nc] at *);omega))
     | skip
   ·cbv
    refine E.c (SCalls.of_owns (ko) ?_ ?_)
    ·cbv;all_goals simp
    cbv
    refine E.sb (Step.takeE 7 rfl (fun _=>t) (fun _=>evs (g.th.getD t [])) (fun _=>(g.th.getD t []).length) (fun _=>by rw [evL_len];exact ht) fun _=>⟨evL_get _ _,q1⟩) ?_
    refine E.st fun J hJ=>E.de 13 [11] [] (by decide +kernel) ?_
    cbv
    skip
    skip
    repeat' (first
     |(refine ⟨fun _ h_s=>?_,fun _ h_s=>?_⟩<;>(cbv;(try simp only [nc] at *);try simp (disch:=(first|omega|(simp only [lnS];omega))) only [rdT,rdS,tn1,reduceCtorEq,trT] at h_s))
     |(refine hF ?_;intro _;clear hF)
     |(refine hF ?_;cbv;clear hF)
     |(refine ⟨fun _=>?_,?_⟩;(· ((try simp only [nc] at *);first|done|omega|exact ⟨by omega,rfl⟩|(simp (disch:=(first|omega|(simp only [lnS];omega))) only [rdT,rdS,tn1];first|done|omega|rfl|exact ⟨by omega,rfl⟩|(simp;done)|(simp;omega))|(intros;trivial)|exact ⟨by first|trivial|rfl,by omega,by first|(rw [evL_len];omega)|(rw [idL_len];omega)⟩|exact ⟨by first|trivial|rfl,by first|trivial|rfl,by first|trivial|rfl|(simp;done),by (simp only [one_len];omega),by (simp only [one_len];omega),by simp [setAll,AV.nrm,nrms,nrm1,AV.flat,AV.cells,AV.one]⟩));(try (simp only [nc] at *));(try simp (disch:=(first|omega|(simp only [lnS];omega))) only [rdT,rdS,tn1]);(try cbv))
     |(refine E.d 15 (by decide +kernel) ?_;cbv;(fail_if_success guard_target =~ False))
     | fail
    )
    refine hJ (Step.putE 7 11 (fun _=>evL (addS g t e d).th) rfl rfl fun _=>⟨⟨rfl,rfl,?_⟩,?_⟩) ?_
    ·simp [LV.l_of]
    ·show (evL g.th).set t _=evL (g.th.set t _)
     rw [←evL_set]
     congr 1
     simp [evs,setAll,AV.nrm,nrms,nrm1]
    cbv
    refine E.sb (Step.takeE 8 rfl (fun _=>t) (fun _=>ids (g.fr.getD t [])) (fun _=>(g.fr.getD t []).length) (fun _=>by rw [idL_len];omega) fun _=>⟨idL_get _ _,q2⟩) ?_
    refine E.st fun J2 hJ2=>E.de 13 [12] [] (by decide +kernel) ?_
    cbv
    repeat' (first
     |(refine ⟨fun _ h_s=>?_,fun _ h_s=>?_⟩<;>(cbv;(try simp only [nc] at *);try simp (disch:=(first|omega|(simp only [lnS];omega))) only [rdT,rdS,tn1,reduceCtorEq,trT] at h_s))
     |(refine hF ?_;intro _;clear hF)
     |(refine hF ?_;cbv;clear hF)
     |(refine ⟨fun _=>?_,?_⟩;(· ((try simp only [nc] at *);first|done|omega|exact ⟨by omega,rfl⟩|(simp (disch:=(first|omega|(simp only [lnS];omega))) only [rdT,rdS,tn1];first|done|omega|rfl|exact ⟨by omega,rfl⟩|(simp;done)|(simp;omega))|(intros;trivial)|exact ⟨by first|trivial|rfl,by omega,by first|(rw [evL_len];omega)|(rw [idL_len];omega)⟩|exact ⟨by first|trivial|rfl,by first|trivial|rfl,by first|trivial|rfl|(simp;done),by (simp only [one_len];omega),by (simp only [one_len];omega),by simp [setAll,AV.nrm,nrms,nrm1,AV.flat,AV.cells,AV.one]⟩));(try (simp only [nc] at *));(try simp (disch:=(first|omega|(simp only [lnS];omega))) only [rdT,rdS,tn1]);(try cbv))
     |(refine E.d 15 (by decide +kernel) ?_;cbv;(fail_if_success guard_target =~ False))
     | fail
    )
    refine hJ2 (Step.putE 8 12 (fun _=>idL (addS g t e d).fr) rfl rfl fun _=>⟨⟨rfl,rfl,?_⟩,?_⟩) ?_
    ·simp [LV.l_of]
    ·show (idL g.fr).set t _=idL (g.fr.set t _)
     rw [←idL_set]
     congr 1
     simp [ids,setAll,AV.nrm,nrms,nrm1]
    cbv
    refine E.c (SCalls.of_le (kw) ?_ ?_)
    ·(cbv;(try simp only [nc] at *);first|done|(simp;done)|(simp (disch:=(first|omega|(simp only [lnS];omega))) only [rdT,rdS,tn1,anT];first|done|omega|(refine ⟨?_,?_⟩<;>omega))|(simp (disch:=(first|omega|(simp only [lnS];omega))) [rdT,rdS,tn1];done))
    cbv
    refine br_t (rfl) ?_
    cbv
    obtain ⟨H,hH⟩:∃ H,H=addG g t e d p:=⟨_,rfl⟩
    have hHi:H.init=g.init:=by rw [hH];rfl
    have hHt:H.th=(addS g t e d).th:=by rw [hH];rfl
    have hHf:H.fr=(addS g t e d).fr:=by rw [hH];rfl
    have hS1:(evss (addS g t e d).th).l=(evL (addS g t e d).th).map fun x=>.vs 5 fun _=>x:=evss_L _
    have hS2:(idss (addS g t e d).fr).l=(idL (addS g t e d).fr).map fun x=>.vs 2 fun _=>x:=idss_L _
    have hS3:(idss g.ord).l=(idL g.ord).map fun x=>.vs 2 fun _=>x:=idss_L _
    have hS5:(evL (addS g t e d).th).length=g.th.length:=by rw [evL_len];simp [addS]
    have hS6:(idL (addS g t e d).fr).length=g.fr.length:=by rw [idL_len];simp [addS]
    have hS7:(idL g.ord).length=g.ord.length:=idL_len _
    have hS8:List.take g.init.length (is g.init).l=(is g.init).l:=List.take_of_length_le (by simp)
    have kb:=gcheck_ok (γ:=γ) H (by rw [hH];exact rd_add hg t e d p)
    have hHo:H.ord=g.ord.set e.loc.toNat (addO g t e p):=by rw [hH];exact if_pos hw
    have hS9:(idss H.ord).l=(idL H.ord).map fun x=>.vs 2 fun _=>x:=idss_L _
    have hS10:(idL H.ord).length=g.ord.length:=by rw [idL_len,hHo,List.length_set]
    refine E.sb (Step.takeE 9 rfl (fun _=>e.loc.toNat) (fun _=>ids (g.ord.getD e.loc.toNat [])) (fun _=>(g.ord.getD e.loc.toNat []).length) (fun _=>by rw [idL_len];exact hxo) fun _=>⟨idL_get _ _,q4⟩) ?_
    refine E.st fun J3 hJ3=>E.dc 15 [13] [] [14] (by decide +kernel) ?_
    cbv
    refine ⟨fun _=>hx0,fun _=>⟨rfl,by simp,by rw [hS7];exact hxo⟩,?_⟩
    refine ⟨_,13,_,_,rfl,rfl,fun h' hs=>E.c (insert_ok (l:=(g.ord.getD e.loc.toNat []).map aId) (x:=aId ⟨(t:Int)+1,((g.th.getD t []).length:Int)⟩) (i:=(p-1).toNat) (n:=(g.ord.getD e.loc.toNat []).length) (subH.at hs rfl (by simp)) rfl ?_ (by simp) rfl hpj rfl hpi (by omega) ⟨rfl,rfl⟩),?_⟩
    ·simp [setAll,AV.nrm,nrms,nrm1]
    cbv
    repeat' (first
     |(refine ⟨fun _ h_s=>?_,fun _ h_s=>?_⟩<;>(cbv;(try simp only [nc] at *);try simp (disch:=(first|omega|(simp only [lnS];omega))) only [rdT,rdS,tn1,reduceCtorEq,trT] at h_s))
     |(refine hF ?_;intro _;clear hF)
     |(refine hF ?_;cbv;clear hF)
     |(refine ⟨fun _=>?_,?_⟩;(· ((try simp only [nc] at *);first|done|omega|exact ⟨by omega,rfl⟩|(simp (disch:=(first|omega|(simp only [lnS];omega))) only [rdT,rdS,tn1];first|done|omega|rfl|exact ⟨by omega,rfl⟩|(simp;done)|(simp;omega))|(intros;trivial)|exact ⟨by first|trivial|rfl,by omega,by first|(rw [evL_len];omega)|(rw [idL_len];omega)⟩|exact ⟨by first|trivial|rfl,by first|trivial|rfl,by first|trivial|rfl|(simp;done),by (simp only [one_len];omega),by (simp only [one_len];omega),by simp [setAll,AV.nrm,nrms,nrm1,AV.flat,AV.cells,AV.one]⟩));(try (simp only [nc] at *));(try simp (disch:=(first|omega|(simp only [lnS];omega))) only [rdT,rdS,tn1]);(try cbv))
     |(refine E.d 15 (by decide +kernel) ?_;cbv;(fail_if_success guard_target =~ False))
     | fail
    )
    refine hJ3 (Step.putE 9 13 (fun _=>idL H.ord) rfl rfl fun _=>⟨⟨rfl,rfl,?_⟩,?_⟩) ?_
    ·simp only [LV.l_of,List.length_append,List.length_take,List.length_drop,List.length_cons,List.length_map];omega
    ·show (idL g.ord).set e.loc.toNat _=idL H.ord
     rw [hHo,←idL_set]
     congr 1
     unfold addO
     simp [ids,List.map_take,List.map_drop]
    cbv
    refine E.c (SCalls.of_bare kb rfl ?_ ?_)
    ·cbv;simp [hHi,hHt,hHf,hS1,hS2,hS5,hS6,hS8,hS9,hS10]
    cbv
    repeat' (first
     |(refine ⟨fun _ h_s=>?_,fun _ h_s=>?_⟩<;>(cbv;(try simp only [nc] at *);try simp (disch:=(first|omega|(simp only [lnS];omega))) only [rdT,rdS,tn1,reduceCtorEq,trT] at h_s))
     |(refine hF ?_;intro _;clear hF)
     |(refine hF ?_;cbv;clear hF)
     |(refine ⟨fun _=>?_,?_⟩;(· ((try simp only [nc] at *);first|done|omega|exact ⟨by omega,rfl⟩|(simp (disch:=(first|omega|(simp only [lnS];omega))) only [rdT,rdS,tn1];first|done|omega|rfl|exact ⟨by omega,rfl⟩|(simp;done)|(simp;omega))|(intros;trivial)|exact ⟨by first|trivial|rfl,by omega,by first|(rw [evL_len];omega)|(rw [idL_len];omega)⟩|exact ⟨by first|trivial|rfl,by first|trivial|rfl,by first|trivial|rfl|(simp;done),by (simp only [one_len];omega),by (simp only [one_len];omega),by simp [setAll,AV.nrm,nrms,nrm1,AV.flat,AV.cells,AV.one]⟩));(try (simp only [nc] at *));(try simp (disch:=(first|omega|(simp only [lnS];omega))) only [rdT,rdS,tn1]);(try cbv))
     |(refine E.d 15 (by decide +kernel) ?_;cbv;(fail_if_success guard_target =~ False))
     | fail
    )
    ·obtain ⟨z1,z2⟩:=hno fun h=>by (have h3:GOk H:=(by rw [hH];exact h.2.2);exact h_s (gcheck0 h3))
     rw [z1,z2]
     simp [is,evss,idss,LV.of,LV.l]
    ·obtain ⟨z1,z2⟩:=hyes ⟨gok_fine (hH ▸ gcheck_iff.1 h_s) ht,by rw [if_pos hw];omega,by rw [←hH];exact gcheck_iff.1 h_s⟩
     rw [z1,z2,←hH]
     simp [hHi,hHt,hHf,hS1,hS2,hS5,hS6,hS8,hS9,hS10]
  ·obtain ⟨z1,z2⟩:rG=⟨[],[],[],[]⟩∧rE=2:=hno fun h=>hpc (by
    have h2:=h.2.1
    rw [if_pos hw] at h2
    obtain ⟨x,hx,hx2⟩:=fine_nat h.1 hw
    have:=hlw x hx hx2
    omega)
   clear hwx hlw
   rw [z1,z2]
   refine Pure.go (ty:=ty) ty_eq mo Try.func37 rfl Try.ntmps37 Try.results37 Try.call37 (by simp) fun P C CQ D W F E hF=>?_
   cbv
   skip
   repeat' (first
    |((first|refine E.c (SCalls.of_le (kW) ?_ ?_)|refine E.q (QCalls.of_le (kW) ?_ ?_));(· (cbv;(try simp only [nc] at *);first|done|(simp;done)|(simp (disch:=(first|omega|(simp only [lnS];omega))) only [rdT,rdS,tn1,tn1,anT];first|done|omega|(refine ⟨?_,?_⟩<;>omega))|(simp (disch:=(first|omega|(simp only [lnS];omega))) [rdT,rdS,tn1,tn1];done)));cbv)
    |((first|refine E.c (SCalls.of_le (kw) ?_ ?_)|refine E.q (QCalls.of_le (kw) ?_ ?_));(· (cbv;(try simp only [nc] at *);first|done|(simp;done)|(simp (disch:=(first|omega|(simp only [lnS];omega))) only [rdT,rdS,tn1,tn1,anT];first|done|omega|(refine ⟨?_,?_⟩<;>omega))|(simp (disch:=(first|omega|(simp only [lnS];omega))) [rdT,rdS,tn1,tn1];done)));cbv)
    |((first|refine E.c (SCalls.of_le (kc) ?_ ?_)|refine E.q (QCalls.of_le (kc) ?_ ?_));(· (cbv;(try simp only [nc] at *);first|done|(simp;done)|(simp (disch:=(first|omega|(simp only [lnS];omega))) only [rdT,rdS,tn1,tn1,anT];first|done|omega|(refine ⟨?_,?_⟩<;>omega))|(simp (disch:=(first|omega|(simp only [lnS];omega))) [rdT,rdS,tn1,tn1];done)));cbv)
    |(refine ⟨fun _ h_s=>?_,fun _ h_s=>?_⟩<;>(cbv;(try simp only [nc] at *);try simp (disch:=(first|omega|(simp only [lnS];omega))) only [rdT,rdS,tn1,tn1,reduceCtorEq,trT] at h_s))
    |(refine hF ?_;intro _;clear hF)
    |(refine hF ?_;cbv;clear hF)
    |(refine ⟨fun _=>?_,?_⟩;(· ((try simp only [nc] at *);first|done|omega|exact ⟨by omega,rfl⟩|(simp (disch:=(first|omega|(simp only [lnS];omega))) only [rdT,rdS,tn1,tn1];first|done|omega|rfl|exact ⟨by omega,rfl⟩|(simp;done)|(simp;omega))|(intros;trivial)|exact ⟨by first|trivial|rfl,by omega,by first|(rw [evL_len];omega)|(rw [idL_len];omega)⟩|exact ⟨by first|trivial|rfl,by first|trivial|rfl,by first|trivial|rfl|(simp;done),by (simp only [one_len];omega),by (simp only [one_len];omega),by simp [setAll,AV.nrm,nrms,nrm1,AV.flat,AV.cells,AV.one]⟩));(try (simp only [nc] at *));(try simp (disch:=(first|omega|(simp only [lnS];omega))) only [rdT,rdS,tn1,tn1]);(try cbv))
    |(refine E.d 15 (by decide +kernel) ?_;cbv;(fail_if_success guard_target =~ False))
    | fail
   )
   all_goals first
    | (simp [is,evss,idss,LV.of,LV.l];done)
    | (exfalso;revert h_s;simp;done)
    | (exfalso;((try simp only [nc] at *);omega))
    | skip
 ·rw [show writesM e=false by simpa using hw] at kw
  clear hwx hlw
  by_cases hpc:p=0
  ·subst hpc
   refine Pure.goL (ty:=ty) ty_eq mo Try.func37 rfl Try.ntmps37 Try.results37 Try.call37 (by simp) fun P C CQ D W F E hF=>?_
   skip
   refine E.cut 10 (told 119 [(1,.i fun _=>(t:Int)+1),(4,.i fun _=>0),(5,.ptr 0 0),(7,.ptr 1 0),(8,.ptr 2 0),(10,.ptr 3 0),(11,.i fun _=>0),(12,.ptr 4 0)] [.box (aGr g),.box (aEv e),.box (aId d),.box (.agg [.nils,.nils,.nils,.nils]),.box (aId ⟨(t:Int)+1,((g.th.getD t []).length:Int)⟩)]) (by kernel_rfl) (Nat.zero_le _) (fun I hI=>?_) (E.bl ?_)
   ·cbv
    repeat' (first
     |((first|refine E.c (SCalls.of_le (kW) ?_ ?_)|refine E.q (QCalls.of_le (kW) ?_ ?_));(· (cbv;(try simp only [nc] at *);first|done|(simp;done)|(simp (disch:=(first|omega|(simp only [lnS];omega))) only [rdT,rdS,tn1,tn1,tn1,anT];first|done|omega|(refine ⟨?_,?_⟩<;>omega))|(simp (disch:=(first|omega|(simp only [lnS];omega))) [rdT,rdS,tn1,tn1,tn1];done)));cbv)
     |((first|refine E.c (SCalls.of_le (kw) ?_ ?_)|refine E.q (QCalls.of_le (kw) ?_ ?_));(· (cbv;(try simp only [nc] at *);first|done|(simp;done)|(simp (disch:=(first|omega|(simp only [lnS];omega))) only [rdT,rdS,tn1,tn1,tn1,anT];first|done|omega|(refine ⟨?_,?_⟩<;>omega))|(simp (disch:=(first|omega|(simp only [lnS];omega))) [rdT,rdS,tn1,tn1,tn1];done)));cbv)
     |((first|refine E.c (SCalls.of_le (kc) ?_ ?_)|refine E.q (QCalls.of_le (kc) ?_ ?_));(· (cbv;(try simp only [nc] at *);first|done|(simp;done)|(simp (disch:=(first|omega|(simp only [lnS];omega))) only [rdT,rdS,tn1,tn1,tn1,anT];first|done|omega|(refine ⟨?_,?_⟩<;>omega))|(simp (disch:=(first|omega|(simp only [lnS];omega))) [rdT,rdS,tn1,tn1,tn1];done)));cbv)
     |(refine ⟨fun _ h_s=>?_,fun _ h_s=>?_⟩<;>(cbv;(try simp only [nc] at *);try simp (disch:=(first|omega|(simp only [lnS];omega))) only [rdT,rdS,tn1,tn1,tn1,reduceCtorEq,trT] at h_s))
     |(refine hF ?_;intro _;clear hF)
     |(refine hF ?_;cbv;clear hF)
     |(refine ⟨fun _=>?_,?_⟩;(· ((try simp only [nc] at *);first|done|omega|exact ⟨by omega,rfl⟩|(simp (disch:=(first|omega|(simp only [lnS];omega))) only [rdT,rdS,tn1,tn1,tn1];first|done|omega|rfl|exact ⟨by omega,rfl⟩|(simp;done)|(simp;omega))|(intros;trivial)|exact ⟨by first|trivial|rfl,by omega,by first|(rw [evL_len];omega)|(rw [idL_len];omega)⟩|exact ⟨by first|trivial|rfl,by first|trivial|rfl,by first|trivial|rfl|(simp;done),by (simp only [one_len];omega),by (simp only [one_len];omega),by simp [setAll,AV.nrm,nrms,nrm1,AV.flat,AV.cells,AV.one]⟩));(try (simp only [nc] at *));(try simp (disch:=(first|omega|(simp only [lnS];omega))) only [rdT,rdS,tn1,tn1,tn1]);(try cbv))
     |(refine E.d 15 (by decide +kernel) ?_;cbv;(fail_if_success guard_target =~ False))
     | fail
    )
    all_goals first
     | (refine hI ?_;cbv;simp;done)
     | (exfalso;revert h_s;simp;done)
     | (exfalso;clear hI;((try simp only [nc] at *);omega))
     | skip
   ·cbv
    refine E.c (SCalls.of_owns (ko) ?_ ?_)
    ·cbv;all_goals simp
    cbv
    refine E.sb (Step.takeE 7 rfl (fun _=>t) (fun _=>evs (g.th.getD t [])) (fun _=>(g.th.getD t []).length) (fun _=>by rw [evL_len];exact ht) fun _=>⟨evL_get _ _,q1⟩) ?_
    refine E.st fun J hJ=>E.de 13 [11] [] (by decide +kernel) ?_
    cbv
    skip
    skip
    repeat' (first
     |(refine ⟨fun _ h_s=>?_,fun _ h_s=>?_⟩<;>(cbv;(try simp only [nc] at *);try simp (disch:=(first|omega|(simp only [lnS];omega))) only [rdT,rdS,tn1,tn1,tn1,reduceCtorEq,trT] at h_s))
     |(refine hF ?_;intro _;clear hF)
     |(refine hF ?_;cbv;clear hF)
     |(refine ⟨fun _=>?_,?_⟩;(· ((try simp only [nc] at *);first|done|omega|exact ⟨by omega,rfl⟩|(simp (disch:=(first|omega|(simp only [lnS];omega))) only [rdT,rdS,tn1,tn1,tn1];first|done|omega|rfl|exact ⟨by omega,rfl⟩|(simp;done)|(simp;omega))|(intros;trivial)|exact ⟨by first|trivial|rfl,by omega,by first|(rw [evL_len];omega)|(rw [idL_len];omega)⟩|exact ⟨by first|trivial|rfl,by first|trivial|rfl,by first|trivial|rfl|(simp;done),by (simp only [one_len];omega),by (simp only [one_len];omega),by simp [setAll,AV.nrm,nrms,nrm1,AV.flat,AV.cells,AV.one]⟩|exact ⟨by first|trivial|rfl,by omega,by first|(rw [evL_len];omega)|(rw [idL_len];omega)⟩|exact ⟨by first|trivial|rfl,by first|trivial|rfl,by first|trivial|rfl|(simp;done),by (simp only [one_len];omega),by (simp only [one_len];omega),by simp [setAll,AV.nrm,nrms,nrm1,AV.flat,AV.cells,AV.one]⟩));(try (simp only [nc] at *));(try simp (disch:=(first|omega|(simp only [lnS];omega))) only [rdT,rdS,tn1,tn1,tn1]);(try cbv))
     |(refine E.d 15 (by decide +kernel) ?_;cbv;(fail_if_success guard_target =~ False))
     | fail
    )
    refine hJ (Step.putE 7 11 (fun _=>evL (addS g t e d).th) rfl rfl fun _=>⟨⟨rfl,rfl,?_⟩,?_⟩) ?_
    ·simp [LV.l_of]
    ·show (evL g.th).set t _=evL (g.th.set t _)
     rw [←evL_set]
     congr 1
     simp [evs,setAll,AV.nrm,nrms,nrm1]
    cbv
    refine E.sb (Step.takeE 8 rfl (fun _=>t) (fun _=>ids (g.fr.getD t [])) (fun _=>(g.fr.getD t []).length) (fun _=>by rw [idL_len];omega) fun _=>⟨idL_get _ _,q2⟩) ?_
    refine E.st fun J2 hJ2=>E.de 13 [12] [] (by decide +kernel) ?_
    cbv
    repeat' (first
     |(refine ⟨fun _ h_s=>?_,fun _ h_s=>?_⟩<;>(cbv;(try simp only [nc] at *);try simp (disch:=(first|omega|(simp only [lnS];omega))) only [rdT,rdS,tn1,tn1,tn1,reduceCtorEq,trT] at h_s))
     |(refine hF ?_;intro _;clear hF)
     |(refine hF ?_;cbv;clear hF)
     |(refine ⟨fun _=>?_,?_⟩;(· ((try simp only [nc] at *);first|done|omega|exact ⟨by omega,rfl⟩|(simp (disch:=(first|omega|(simp only [lnS];omega))) only [rdT,rdS,tn1,tn1,tn1];first|done|omega|rfl|exact ⟨by omega,rfl⟩|(simp;done)|(simp;omega))|(intros;trivial)|exact ⟨by first|trivial|rfl,by omega,by first|(rw [evL_len];omega)|(rw [idL_len];omega)⟩|exact ⟨by first|trivial|rfl,by first|trivial|rfl,by first|trivial|rfl|(simp;done),by (simp only [one_len];omega),by (simp only [one_len];omega),by simp [setAll,AV.nrm,nrms,nrm1,AV.flat,AV.cells,AV.one]⟩|exact ⟨by first|trivial|rfl,by omega,by first|(rw [evL_len];omega)|(rw [idL_len];omega)⟩|exact ⟨by first|trivial|rfl,by first|trivial|rfl,by first|trivial|rfl|(simp;done),by (simp only [one_len];omega),by (simp only [one_len];omega),by simp [setAll,AV.nrm,nrms,nrm1,AV.flat,AV.cells,AV.one]⟩));(try (simp only [nc] at *));(try simp (disch:=(first|omega|(simp only [lnS];omega))) only [rdT,rdS,tn1,tn1,tn1]);(try cbv))
     |(refine E.d 15 (by decide +kernel) ?_;cbv;(fail_if_success guard_target =~ False))
     | fail
    )
    refine hJ2 (Step.putE 8 12 (fun _=>idL (addS g t e d).fr) rfl rfl fun _=>⟨⟨rfl,rfl,?_⟩,?_⟩) ?_
    ·simp [LV.l_of]
    ·show (idL g.fr).set t _=idL (g.fr.set t _)
     rw [←idL_set]
     congr 1
     simp [ids,setAll,AV.nrm,nrms,nrm1]
    cbv
    refine E.c (SCalls.of_le (kw) ?_ ?_)
    ·(cbv;(try simp only [nc] at *);first|done|(simp;done)|(simp (disch:=(first|omega|(simp only [lnS];omega))) only [rdT,rdS,tn1,tn1,tn1,anT];first|done|omega|(refine ⟨?_,?_⟩<;>omega))|(simp (disch:=(first|omega|(simp only [lnS];omega))) [rdT,rdS,tn1,tn1,tn1];done))
    cbv
    refine br_f ((by simp)) ?_
    cbv
    obtain ⟨H,hH⟩:∃ H,H=addG g t e d 0:=⟨_,rfl⟩
    have hHi:H.init=g.init:=by rw [hH];rfl
    have hHt:H.th=(addS g t e d).th:=by rw [hH];rfl
    have hHf:H.fr=(addS g t e d).fr:=by rw [hH];rfl
    have hS1:(evss (addS g t e d).th).l=(evL (addS g t e d).th).map fun x=>.vs 5 fun _=>x:=evss_L _
    have hS2:(idss (addS g t e d).fr).l=(idL (addS g t e d).fr).map fun x=>.vs 2 fun _=>x:=idss_L _
    have hS3:(idss g.ord).l=(idL g.ord).map fun x=>.vs 2 fun _=>x:=idss_L _
    have hS5:(evL (addS g t e d).th).length=g.th.length:=by rw [evL_len];simp [addS]
    have hS6:(idL (addS g t e d).fr).length=g.fr.length:=by rw [idL_len];simp [addS]
    have hS7:(idL g.ord).length=g.ord.length:=idL_len _
    have hS8:List.take g.init.length (is g.init).l=(is g.init).l:=List.take_of_length_le (by simp)
    have kb:=gcheck_ok (γ:=γ) H (by rw [hH];exact rd_add hg t e d 0)
    have hHo:H.ord=g.ord:=by rw [hH];exact if_neg hw
    refine E.c (SCalls.of_bare kb rfl ?_ ?_)
    ·cbv;simp [hHi,hHt,hHf,hHo,hS1,hS2,hS3,hS5,hS6,hS7,hS8]
    cbv
    repeat' (first
     |(refine ⟨fun _ h_s=>?_,fun _ h_s=>?_⟩<;>(cbv;(try simp only [nc] at *);try simp (disch:=(first|omega|(simp only [lnS];omega))) only [rdT,rdS,tn1,tn1,tn1,reduceCtorEq,trT] at h_s))
     |(refine hF ?_;intro _;clear hF)
     |(refine hF ?_;cbv;clear hF)
     |(refine ⟨fun _=>?_,?_⟩;(· ((try simp only [nc] at *);first|done|omega|exact ⟨by omega,rfl⟩|(simp (disch:=(first|omega|(simp only [lnS];omega))) only [rdT,rdS,tn1,tn1,tn1];first|done|omega|rfl|exact ⟨by omega,rfl⟩|(simp;done)|(simp;omega))|(intros;trivial)|exact ⟨by first|trivial|rfl,by omega,by first|(rw [evL_len];omega)|(rw [idL_len];omega)⟩|exact ⟨by first|trivial|rfl,by first|trivial|rfl,by first|trivial|rfl|(simp;done),by (simp only [one_len];omega),by (simp only [one_len];omega),by simp [setAll,AV.nrm,nrms,nrm1,AV.flat,AV.cells,AV.one]⟩|exact ⟨by first|trivial|rfl,by omega,by first|(rw [evL_len];omega)|(rw [idL_len];omega)⟩|exact ⟨by first|trivial|rfl,by first|trivial|rfl,by first|trivial|rfl|(simp;done),by (simp only [one_len];omega),by (simp only [one_len];omega),by simp [setAll,AV.nrm,nrms,nrm1,AV.flat,AV.cells,AV.one]⟩));(try (simp only [nc] at *));(try simp (disch:=(first|omega|(simp only [lnS];omega))) only [rdT,rdS,tn1,tn1,tn1]);(try cbv))
     |(refine E.d 15 (by decide +kernel) ?_;cbv;(fail_if_success guard_target =~ False))
     | fail
    )
    ·obtain ⟨z1,z2⟩:=hno fun h=>by (have h3:GOk H:=(by rw [hH];exact h.2.2);exact h_s (gcheck0 h3))
     rw [z1,z2]
     simp [is,evss,idss,LV.of,LV.l]
    ·obtain ⟨z1,z2⟩:=hyes ⟨(gok_fine (hH ▸ gcheck_iff.1 h_s) ht),by rw [if_neg hw],by rw [←hH];exact gcheck_iff.1 h_s⟩
     rw [z1,z2,←hH]
     simp [hHi,hHt,hHf,hHo,hS1,hS2,hS3,hS5,hS6,hS7,hS8]
  ·obtain ⟨z1,z2⟩:rG=⟨[],[],[],[]⟩∧rE=2:=hno fun h=>hpc (by
    have h2:=h.2.1
    rw [if_neg hw] at h2
    exact h2)
   rw [z1,z2]
   refine Pure.go (ty:=ty) ty_eq mo Try.func37 rfl Try.ntmps37 Try.results37 Try.call37 (by simp) fun P C CQ D W F E hF=>?_
   cbv
   skip
   repeat' (first
    |((first|refine E.c (SCalls.of_le (kW) ?_ ?_)|refine E.q (QCalls.of_le (kW) ?_ ?_));(· (cbv;(try simp only [nc] at *);first|done|(simp;done)|(simp (disch:=(first|omega|(simp only [lnS];omega))) only [rdT,rdS,tn1,tn1,tn1,tn1,anT];first|done|omega|(refine ⟨?_,?_⟩<;>omega))|(simp (disch:=(first|omega|(simp only [lnS];omega))) [rdT,rdS,tn1,tn1,tn1,tn1];done)));cbv)
    |((first|refine E.c (SCalls.of_le (kw) ?_ ?_)|refine E.q (QCalls.of_le (kw) ?_ ?_));(· (cbv;(try simp only [nc] at *);first|done|(simp;done)|(simp (disch:=(first|omega|(simp only [lnS];omega))) only [rdT,rdS,tn1,tn1,tn1,tn1,anT];first|done|omega|(refine ⟨?_,?_⟩<;>omega))|(simp (disch:=(first|omega|(simp only [lnS];omega))) [rdT,rdS,tn1,tn1,tn1,tn1];done)));cbv)
    |((first|refine E.c (SCalls.of_le (kc) ?_ ?_)|refine E.q (QCalls.of_le (kc) ?_ ?_));(· (cbv;(try simp only [nc] at *);first|done|(simp;done)|(simp (disch:=(first|omega|(simp only [lnS];omega))) only [rdT,rdS,tn1,tn1,tn1,tn1,anT];first|done|omega|(refine ⟨?_,?_⟩<;>omega))|(simp (disch:=(first|omega|(simp only [lnS];omega))) [rdT,rdS,tn1,tn1,tn1,tn1];done)));cbv)
    |(refine ⟨fun _ h_s=>?_,fun _ h_s=>?_⟩<;>(cbv;(try simp only [nc] at *);try simp (disch:=(first|omega|(simp only [lnS];omega))) only [rdT,rdS,tn1,tn1,tn1,tn1,reduceCtorEq,trT] at h_s))
    |(refine hF ?_;intro _;clear hF)
    |(refine hF ?_;cbv;clear hF)
    |(refine ⟨fun _=>?_,?_⟩;(· ((try simp only [nc] at *);first|done|omega|exact ⟨by omega,rfl⟩|(simp (disch:=(first|omega|(simp only [lnS];omega))) only [rdT,rdS,tn1,tn1,tn1,tn1];first|done|omega|rfl|exact ⟨by omega,rfl⟩|(simp;done)|(simp;omega))|(intros;trivial)|exact ⟨by first|trivial|rfl,by omega,by first|(rw [evL_len];omega)|(rw [idL_len];omega)⟩|exact ⟨by first|trivial|rfl,by first|trivial|rfl,by first|trivial|rfl|(simp;done),by (simp only [one_len];omega),by (simp only [one_len];omega),by simp [setAll,AV.nrm,nrms,nrm1,AV.flat,AV.cells,AV.one]⟩|exact ⟨by first|trivial|rfl,by omega,by first|(rw [evL_len];omega)|(rw [idL_len];omega)⟩|exact ⟨by first|trivial|rfl,by first|trivial|rfl,by first|trivial|rfl|(simp;done),by (simp only [one_len];omega),by (simp only [one_len];omega),by simp [setAll,AV.nrm,nrms,nrm1,AV.flat,AV.cells,AV.one]⟩));(try (simp only [nc] at *));(try simp (disch:=(first|omega|(simp only [lnS];omega))) only [rdT,rdS,tn1,tn1,tn1,tn1]);(try cbv))
    |(refine E.d 15 (by decide +kernel) ?_;cbv;(fail_if_success guard_target =~ False))
    | fail
   )
   all_goals first
    | (simp [is,evss,idss,LV.of,LV.l];done)
    | (exfalso;revert h_s;simp;done)
    | (exfalso;((try simp only [nc] at *);omega))
    | skip
theorem gadd_ok (g:Gr) (hR:Rd g) (thread:Int) (e:Ev) (d:EId) (p:Int) :
  Pure Try.prog γ false 37 [aGr g,.i fun _=>thread,aEv e,aId d,.i fun _=>p] (.tup [aGr (addR g thread e d p),.i fun _=>addE g thread e d p]):=by
 have kc:=gcheck_ok (γ:=γ) g hR
 by_cases hg:GOk g
 ·have hs:=hg.short
  have hth:=hs.th
  by_cases h1:1≤thread∧thread≤(g.th.length:Nat)
  ·obtain ⟨t,ht⟩:∃ t:Nat,thread=(t:Int)+1:=⟨(thread-1).toNat,by omega⟩
   subst ht
   have ht:t<g.th.length:=by omega
   have e1:((t:Int)+1-1).toNat=t:=by omega
   by_cases hl:(g.th.getD t []).length=14
   ·have ee:addE g ((t:Int)+1) e d p=3:=by unfold addE;rw [if_pos hg,if_pos h1,e1,if_pos hl]
    have er:addR g ((t:Int)+1) e d p=⟨[],[],[],[]⟩:=by unfold addR;rw [ee];rfl
    rw [ee,er]
    rw [gcheck0 hg] at kc
    refine Pure.go (ty:=ty) ty_eq mo Try.func37 rfl Try.ntmps37 Try.results37 Try.call37 (by simp) fun P C CQ D W F E hF=>?_
    cbv
    repeat' (first
     |((first|refine E.c (SCalls.of_le (kc) ?_ ?_)|refine E.q (QCalls.of_le (kc) ?_ ?_));(· (cbv;(try simp only [nc] at *);first|done|(simp;done)|(simp (disch:=(first|omega|(simp only [lnS];omega))) only [rdT,rdS,tn1,tn1,tn1,tn1,anT];first|done|omega|(refine ⟨?_,?_⟩<;>omega))|(simp (disch:=(first|omega|(simp only [lnS];omega))) [rdT,rdS,tn1,tn1,tn1,tn1];done)));cbv)
     |(refine ⟨fun _ h_s=>?_,fun _ h_s=>?_⟩<;>(cbv;(try simp only [nc] at *);try simp (disch:=(first|omega|(simp only [lnS];omega))) only [rdT,rdS,tn1,tn1,tn1,tn1,reduceCtorEq,trT] at h_s))
     |(refine hF ?_;intro _;clear hF)
     |(refine hF ?_;cbv;clear hF)
     |(refine ⟨fun _=>?_,?_⟩;(· ((try simp only [nc] at *);first|done|omega|exact ⟨by omega,rfl⟩|(simp (disch:=(first|omega|(simp only [lnS];omega))) only [rdT,rdS,tn1,tn1,tn1,tn1];first|done|omega|rfl|exact ⟨by omega,rfl⟩|(simp;done)|(simp;omega))|(intros;trivial)|exact ⟨by first|trivial|rfl,by omega,by first|(rw [evL_len];omega)|(rw [idL_len];omega)⟩|exact ⟨by first|trivial|rfl,by first|trivial|rfl,by first|trivial|rfl|(simp;done),by (simp only [one_len];omega),by (simp only [one_len];omega),by simp [setAll,AV.nrm,nrms,nrm1,AV.flat,AV.cells,AV.one]⟩|exact ⟨by first|trivial|rfl,by omega,by first|(rw [evL_len];omega)|(rw [idL_len];omega)⟩|exact ⟨by first|trivial|rfl,by first|trivial|rfl,by first|trivial|rfl|(simp;done),by (simp only [one_len];omega),by (simp only [one_len];omega),by simp [setAll,AV.nrm,nrms,nrm1,AV.flat,AV.cells,AV.one]⟩));(try (simp only [nc] at *));(try simp (disch:=(first|omega|(simp only [lnS];omega))) only [rdT,rdS,tn1,tn1,tn1,tn1]);(try cbv))
     |(refine E.d 15 (by decide +kernel) ?_;cbv;(fail_if_success guard_target =~ False))
     | fail
    )
    all_goals first
     | (exfalso;revert h_s;simp;done)
     | (exfalso;((try simp only [nc] at *);omega))
     | (simp [is,evss,idss,LV.of,LV.l];done)
     | (exfalso;rw [hl] at h_s;simp at h_s;done)
   ·have ee:addE g ((t:Int)+1) e d p=if addC g t e d p then 0 else 2:=by unfold addE;rw [if_pos hg,if_pos h1,e1,if_neg hl]
    have er:addR g ((t:Int)+1) e d p=if addC g t e d p then addG g t e d p else ⟨[],[],[],[]⟩:=by
     unfold addR;rw [ee,e1]
     by_cases hc:addC g t e d p
     ·rw [if_pos hc,if_pos hc,if_pos rfl]
     ·rw [if_neg hc,if_neg hc,if_neg (by omega)]
    rw [ee,er]
    exact gadd_main g hg t ht hl e d p
  ·have ee:addE g thread e d p=9:=by unfold addE;rw [if_pos hg,if_neg h1]
   have er:addR g thread e d p=⟨[],[],[],[]⟩:=by unfold addR;rw [ee];rfl
   rw [ee,er]
   rw [gcheck0 hg] at kc
   refine Pure.go (ty:=ty) ty_eq mo Try.func37 rfl Try.ntmps37 Try.results37 Try.call37 (by simp) fun P C CQ D W F E hF=>?_
   cbv
   repeat' (first
    |((first|refine E.c (SCalls.of_le (kc) ?_ ?_)|refine E.q (QCalls.of_le (kc) ?_ ?_));(· (cbv;(try simp only [nc] at *);first|done|(simp;done)|(simp (disch:=(first|omega|(simp only [lnS];omega))) only [rdT,rdS,tn1,tn1,tn1,tn1,anT];first|done|omega|(refine ⟨?_,?_⟩<;>omega))|(simp (disch:=(first|omega|(simp only [lnS];omega))) [rdT,rdS,tn1,tn1,tn1,tn1];done)));cbv)
    |(refine ⟨fun _ h_s=>?_,fun _ h_s=>?_⟩<;>(cbv;(try simp only [nc] at *);try simp (disch:=(first|omega|(simp only [lnS];omega))) only [rdT,rdS,tn1,tn1,tn1,tn1,reduceCtorEq,trT] at h_s))
    |(refine hF ?_;intro _;clear hF)
    |(refine hF ?_;cbv;clear hF)
    |(refine ⟨fun _=>?_,?_⟩;(· ((try simp only [nc] at *);first|done|omega|exact ⟨by omega,rfl⟩|(simp (disch:=(first|omega|(simp only [lnS];omega))) only [rdT,rdS,tn1,tn1,tn1,tn1];first|done|omega|rfl|exact ⟨by omega,rfl⟩|(simp;done)|(simp;omega))|(intros;trivial)|exact ⟨by first|trivial|rfl,by omega,by first|(rw [evL_len];omega)|(rw [idL_len];omega)⟩|exact ⟨by first|trivial|rfl,by first|trivial|rfl,by first|trivial|rfl|(simp;done),by (simp only [one_len];omega),by (simp only [one_len];omega),by simp [setAll,AV.nrm,nrms,nrm1,AV.flat,AV.cells,AV.one]⟩|exact ⟨by first|trivial|rfl,by omega,by first|(rw [evL_len];omega)|(rw [idL_len];omega)⟩|exact ⟨by first|trivial|rfl,by first|trivial|rfl,by first|trivial|rfl|(simp;done),by (simp only [one_len];omega),by (simp only [one_len];omega),by simp [setAll,AV.nrm,nrms,nrm1,AV.flat,AV.cells,AV.one]⟩));(try (simp only [nc] at *));(try simp (disch:=(first|omega|(simp only [lnS];omega))) only [rdT,rdS,tn1,tn1,tn1,tn1]);(try cbv))
    |(refine E.d 15 (by decide +kernel) ?_;cbv;(fail_if_success guard_target =~ False))
    | fail
   )
   all_goals first
    | (exfalso;revert h_s;simp;done)
    | (simp [is,evss,idss,LV.of,LV.l];done)
    | (exfalso;((try simp only [nc] at *);omega))
    | (exfalso;exact h1 (by ((try simp only [nc] at *);omega)))
 ·have ee:addE g thread e d p=2:=by unfold addE;rw [if_neg hg]
  have er:addR g thread e d p=⟨[],[],[],[]⟩:=by unfold addR;rw [ee];rfl
  rw [ee,er]
  have hc:gcheckM g≠0:=fun h=>hg (gcheck_iff.1 h)
  refine Pure.go (ty:=ty) ty_eq mo Try.func37 rfl Try.ntmps37 Try.results37 Try.call37 (by simp) fun P C CQ D W F E hF=>?_
  cbv
  repeat' (first
   |((first|refine E.c (SCalls.of_le (kc) ?_ ?_)|refine E.q (QCalls.of_le (kc) ?_ ?_));(· (cbv;(try simp only [nc] at *);first|done|(simp;done)|(simp (disch:=(first|omega|(simp only [lnS];omega))) only [rdT,rdS,tn1,tn1,tn1,tn1,anT];first|done|omega|(refine ⟨?_,?_⟩<;>omega))|(simp (disch:=(first|omega|(simp only [lnS];omega))) [rdT,rdS,tn1,tn1,tn1,tn1];done)));cbv)
   |(refine ⟨fun _ h_s=>?_,fun _ h_s=>?_⟩<;>(cbv;(try simp only [nc] at *);try simp (disch:=(first|omega|(simp only [lnS];omega))) only [rdT,rdS,tn1,tn1,tn1,tn1,reduceCtorEq,trT] at h_s))
   |(refine hF ?_;intro _;clear hF)
   |(refine hF ?_;cbv;clear hF)
   |(refine ⟨fun _=>?_,?_⟩;(· ((try simp only [nc] at *);first|done|omega|exact ⟨by omega,rfl⟩|(simp (disch:=(first|omega|(simp only [lnS];omega))) only [rdT,rdS,tn1,tn1,tn1,tn1];first|done|omega|rfl|exact ⟨by omega,rfl⟩|(simp;done)|(simp;omega))|(intros;trivial)|exact ⟨by first|trivial|rfl,by omega,by first|(rw [evL_len];omega)|(rw [idL_len];omega)⟩|exact ⟨by first|trivial|rfl,by first|trivial|rfl,by first|trivial|rfl|(simp;done),by (simp only [one_len];omega),by (simp only [one_len];omega),by simp [setAll,AV.nrm,nrms,nrm1,AV.flat,AV.cells,AV.one]⟩|exact ⟨by first|trivial|rfl,by omega,by first|(rw [evL_len];omega)|(rw [idL_len];omega)⟩|exact ⟨by first|trivial|rfl,by first|trivial|rfl,by first|trivial|rfl|(simp;done),by (simp only [one_len];omega),by (simp only [one_len];omega),by simp [setAll,AV.nrm,nrms,nrm1,AV.flat,AV.cells,AV.one]⟩));(try (simp only [nc] at *));(try simp (disch:=(first|omega|(simp only [lnS];omega))) only [rdT,rdS,tn1,tn1,tn1,tn1]);(try cbv))
   |(refine E.d 15 (by decide +kernel) ?_;cbv;(fail_if_success guard_target =~ False))
   | fail
  )
  all_goals first
   | (simp [is,evss,idss,LV.of,LV.l];done)
   | (exfalso;exact hc h_s)
   | (exfalso;((try simp only [nc] at *);omega))
end Go.AL.Rl
namespace Go.AL
open Go Go.RowKit Go.ChangeShapes Go.WideShapes
section
variable {H:Type} {enc:TypeId × Value→H} {P:Program} {w:World} {spare:Nat→Bool} {held:Bool}
abbrev Old (w:World):Nat→Prop:=fun k=>k<w.heap.size
def Dec (P:Program) (t:TypeId) (α:Type) (en:α→List AV) (ok:α→Prop):Prop:=
 ∀ {H:Type} (enc:TypeId × Value→H) (w:World) (spare:Nat→Bool) (held:Bool) (fuel:Nat) (cs:List Value) (x:DataW H × List MemPlace),
  DataW.trod enc P w 0 spare held fuel t cs=some x→∃ a,ok a∧Rs (Old w) w none (en a) cs
theorem Dec.int {t:TypeId} (ht:P.underlying t=some (.int .i64)):Dec P t Int (fun n=>[.i fun _=>n]) fun n=>-9223372036854775808≤n∧n≤9223372036854775807:=by
 intro H enc w spare held fuel cs x h
 obtain ⟨n,rfl,_,h2⟩:=DataW.trod_int ht h
 exact ⟨n,bounds_i64 h2,_,_,rfl,rfl,rfl⟩
theorem cells?_get {w:World} {a:Addr} {n:Nat} {cs:List Value} (h:w.cells? 0 a n=some cs):cs.length=n∧∀ (i:Nat) (c:Value),cs[i]?=some c→w.cell? (a.add i)=some c:=by
 simp only [World.cells?,Nat.zero_le,if_true] at h
 have hl:cs.length=n:=by have:=mapM_some_length h;simpa using this
 refine ⟨hl,fun i c hc=>?_⟩
 have hi:i<n:=by have:=(List.getElem?_eq_some_iff.1 hc).1;omega
 rw [mapM_some_get h i i (by simp [hi])];exact hc
theorem list_of_all {α β:Type} {R':α→β→Prop}:∀ (l:List β),(∀ b∈l,∃ a,R' a b)→∃ r:List α,r.length=l.length∧∀ (i:Nat) (a:α) (b:β),r[i]?=some a→l[i]?=some b→R' a b
 | [],_=>⟨[],rfl,fun i a b h=>by simp at h⟩
 | b :: l,h=>by
  obtain ⟨a,ha⟩:=h b (by simp)
  obtain ⟨r,h1,h2⟩:=list_of_all l fun b hb=>h b (by simp [hb])
  refine ⟨a :: r,by simp [h1],fun i a' b' ha' hb'=>?_⟩
  cases i with
  | zero=>simp at ha' hb';subst ha';subst hb';exact ha
  | succ i=>exact h2 i a' b' (by simpa using ha') (by simpa using hb')
structure Elem (mk:List AV→AV) (k:Nat):Prop where
 val:∀ {S:Nat→Prop} {w:World} {l:List AV} {cs:List Value},cs.length=k→l.all AV.one=true→Rs S w none l cs→∃ v,v.cells.toList=cs∧R S w none (mk l) v
theorem Elem.agg (k:Nat):Elem .agg k:=⟨fun {S w l cs} _ _ h=>⟨.agg cs.toArray,by simp [Value.cells],cs,rfl,h⟩⟩
theorem Elem.one:Elem (fun l=>l.headD .any) 1:=⟨fun {S w l cs} hl h1 h=>by
 match cs,hl with
 | [c],_=>
  match l,h with
  | x :: _,⟨v,_,e,hx,hr⟩=>
   cases e
   simp only [List.all_cons,Bool.and_eq_true] at h1
   exact ⟨c,by rw [cells_of_one (R_one hx h1.1)],hx⟩⟩
theorem Dec.slice {t e:TypeId} (ht:P.underlying t=some (.slice e)) {k:Nat} (hk:P.cellsOf e=k) (hk0:0<k) {α:Type} {en:α→List AV} {ok:α→Prop} {mk:List AV→AV} (he:Dec P e α en ok) (hone:∀ a,(en a).all AV.one=true) (hm:Elem mk k) :
  Dec P t (List α) (fun l=>[.vs k fun _=>LV.of (l.map fun a=>mk (en a))]) fun l=>l.length≤maxLen∧∀ a∈l,ok a:=by
 subst hk
 intro H enc w spare held fuel cs x h
 rcases DataW.trod_slice ht h with ⟨rfl,_⟩ | ⟨a,len,cap,elems,rest,n,rfl,rfl,rfl,_,h2,h3,h4,h5,_⟩
 ·exact ⟨[],⟨by simp,by simp⟩,_,_,rfl,⟨none,0,[],rfl,Nat.le_refl _,rfl,.inl rfl⟩,rfl⟩
 ·have key:∀ i:Nat,i<len→∃ (c:List Value) (a':α),w.cells? 0 (a.add (i * P.cellsOf e)) (P.cellsOf e)=some c∧ok a'∧Rs (Old w) w none (en a') c:=by
   intro i hi
   have:=h5 i hi
   rw [List.getElem?_eq_getElem (by omega)] at this
   simp only [Option.bind_eq_some_iff] at this
   obtain ⟨c,hc,hd⟩:=this
   obtain ⟨a',ha,hr⟩:=he _ _ _ _ _ _ _ hd
   exact ⟨c,a',hc,ha,hr⟩
  have hlist:=list_of_all (R':=fun (q:α × Value) (i:Nat)=>ok q.1∧q.2.cells.size=P.cellsOf e∧(∀ (j:Nat) (c:Value),q.2.cells[j]?=some c→w.cell? ((a.add (i * P.cellsOf e)).add j)=some c)∧R (Old w) w none (mk (en q.1)) q.2) (List.range len) fun i hi=>by
   obtain ⟨c,a',hc,ha,hr⟩:=key i (by simpa using hi)
   obtain ⟨hl,hg⟩:=cells?_get hc
   obtain ⟨v,hv,hr'⟩:=hm.val hl (hone a') hr
   refine ⟨(a',v),ha,by rw [←Array.length_toList,hv];exact hl,fun j c' hj=>hg j c' ?_,hr'⟩
   rw [←hv];simpa using hj
  obtain ⟨qs,hq1,hq2⟩:=hlist
  rw [List.length_range] at hq1
  have hq:∀ (i:Nat) (q:α × Value),qs[i]?=some q→ok q.1∧q.2.cells.size=P.cellsOf e∧(∀ (j:Nat) (c:Value),q.2.cells[j]?=some c→w.cell? ((a.add (i * P.cellsOf e)).add j)=some c)∧R (Old w) w none (mk (en q.1)) q.2:=fun i q hi=>
   hq2 i q i hi (by
    have:=(List.getElem?_eq_some_iff.1 hi).1
    rw [List.getElem?_range (by omega)])
  refine ⟨qs.map (·.1),⟨by simp;omega,fun a' ha'=>?_⟩,_,_,rfl,⟨some a,cap,qs.map (·.2),by simp [hq1],by simp;omega,?_,?_⟩,rfl⟩
  ·obtain ⟨q,hqm,rfl⟩:=List.mem_map.1 ha'
   obtain ⟨i,hi,rfl⟩:=List.mem_iff_getElem.1 hqm
   exact (hq i _ (List.getElem?_eq_getElem hi)).1
  ·rw [RL_iff,LV.l_of,Rs_iff]
   refine ⟨by simp,fun i c v hc hv=>?_⟩
   simp only [List.map_map,List.getElem?_map,Option.map_eq_some_iff] at hc hv
   obtain ⟨q,hq',rfl⟩:=hc
   obtain ⟨q',hq'',rfl⟩:=hv
   rw [hq'] at hq'';cases hq''
   exact (hq i q hq').2.2.2
  ·cases hqs:qs with
   | nil=>exact .inl rfl
   | cons q0 qr=>
    right
    have hlen:0<len:=by rw [←hq1,hqs];simp
    obtain ⟨_,hsz,hcell,_⟩:=hq 0 q0 (by rw [hqs];rfl)
    have hc0:∃ c,q0.2.cells[0]?=some c:=⟨_,Array.getElem?_eq_getElem (by omega)⟩
    obtain ⟨c,hc⟩:=hc0
    have hw:=hcell 0 c hc
    have ha0:a.spot=none∧a.block<w.heap.size:=by
     simp only [Nat.zero_mul,Addr.add,if_true] at hw
     unfold World.cell? at hw
     split at hw
     ·rename_i hb
      split at hw
      ·cases hw
      ·rename_i hs
       exact ⟨by simpa using hs,(Array.getElem?_eq_some_iff.1 hb).1⟩
     ·cases hw
    refine ⟨a,rfl,ha0.1,ha0.2,fun i ev hi=>?_⟩
    rw [←hqs] at hi
    simp only [List.getElem?_map,Option.map_eq_some_iff] at hi
    obtain ⟨q,hq',rfl⟩:=hi
    obtain ⟨_,h1,h2,_⟩:=hq i q hq'
    refine ⟨h1,fun j c hj=>?_⟩
    have:=h2 j c hj
    have ea:(a.add (i * P.cellsOf e)).add j=⟨a.block,a.off+(i * P.cellsOf e+j),none⟩:=by
     obtain ⟨b,o,s⟩:=a
     simp only at ha0
     obtain ⟨rfl,_⟩:=ha0
     simp only [Addr.add]
     by_cases h0:i * P.cellsOf e=0<;>by_cases h1:j=0<;>simp [h0,h1]<;>omega
    rw [←ea];exact this
theorem Dec.fields {t:TypeId} {fs:List Field} {a:Array Field} (ht:P.underlying t=some (.struct a)) (hfs:a.toList=fs) {α:Type} {en:α→List AV} {ok:α→Prop}
  (h:∀ {H:Type} (enc:TypeId × Value→H) (w:World) (spare:Nat→Bool) (held:Bool) (n:Nat) (cs:List Value),cs.length=P.cellsOf t →
   (∀ f∈fs,∃ x,DataW.trod enc P w 0 spare held n f.type ((cs.drop f.offset).take (P.cellsOf f.type))=some x)→∃ a,ok a∧Rs (Old w) w none (en a) cs):Dec P t α en ok:=by
 intro H enc w spare held fuel cs x hx
 obtain ⟨xs,n,rfl,rfl,h1,h2,h3⟩:=DataW.trod_struct ht hx
 refine h enc w spare held n cs h1 fun f hf=>?_
 rw [←hfs] at hf
 obtain ⟨i,hi,rfl⟩:=List.mem_iff_getElem.1 hf
 have hi':i<a.size:=by simpa using hi
 have:=h3 i a[i] (Array.getElem?_eq_getElem hi')
 rw [List.getElem?_eq_getElem (by omega)] at this
 exact ⟨_,by simpa using this⟩
theorem cut3 (cs:List Value) (o s n:Nat) (h:cs.length=n) (ho:o+s=n):cs=cs.take o++(cs.drop o).take s:=by
 have:(cs.drop o).take s=cs.drop o:=List.take_of_length_le (by simp;omega)
 rw [this,List.take_append_drop]
theorem Dec.struct2 {t:TypeId} {a:Array Field} (ht:P.underlying t=some (.struct a)) {t0 t1:TypeId} {s0 s1:Nat} (hfs:a.toList.map (fun f=>(f.type,f.offset))=[(t0,0),(t1,s0)]) (h0:P.cellsOf t0=s0) (h1:P.cellsOf t1=s1) (hs:P.cellsOf t=s0+s1)
  {α β:Type} {e0:α→List AV} {e1:β→List AV} {k0:α→Prop} {k1:β→Prop} (d0:Dec P t0 α e0 k0) (d1:Dec P t1 β e1 k1):Dec P t (α × β) (fun p=>e0 p.1++e1 p.2) fun p=>k0 p.1∧k1 p.2:=by
 refine Dec.fields ht rfl fun {H} enc w spare held n cs hl hf=>?_
 have get:∀ t o,(t,o)∈a.toList.map (fun f=>(f.type,f.offset))→∃ x,DataW.trod enc P w 0 spare held n t ((cs.drop o).take (P.cellsOf t))=some x:=fun t o hm=>by
  obtain ⟨f,hf1,hf2⟩:=List.mem_map.1 hm
  cases hf2
  exact hf f hf1
 rw [hfs] at get
 obtain ⟨x0,g0⟩:=get t0 0 (by simp)
 obtain ⟨x1,g1⟩:=get t1 s0 (by simp)
 obtain ⟨a0,o0,r0⟩:=d0 _ _ _ _ _ _ _ g0
 obtain ⟨a1,o1,r1⟩:=d1 _ _ _ _ _ _ _ g1
 refine ⟨(a0,a1),⟨o0,o1⟩,?_⟩
 rw [cut3 cs s0 s1 _ (hl.trans hs) rfl]
 rw [h0] at r0;rw [h1] at r1
 exact Rs_append (by simpa using r0) r1
theorem trodAll_len {W:World} {b:Nat}:∀ {ts:List TypeId} {vs:List Value} {ds:List (DataW H)} {p:List MemPlace},DataW.TrodAll enc P W b spare held ts vs ds p→ds.length=ts.length
 | [],[],[],_,_=>rfl
 | _ :: _,_ :: _,_ :: _,_,⟨_,_,_,h,_⟩=>by simp [trodAll_len h]
 | [],[],_ :: _,_,h=>h.elim
 | [],_ :: _,_,_,h=>h.elim
 | _ :: _,[],_,_,h=>h.elim
 | _ :: _,_ :: _,[],_,h=>h.elim
theorem trodAll_carry {W W':World} (hq:∀ k,k<W.heap.size→W'.heap[k]?=W.heap[k]?):∀ {ts:List TypeId} {vs:List Value} {ds:List (DataW H)} {p:List MemPlace},
  DataW.TrodAll enc P W 0 spare held ts vs ds p→(∀ p'∈p,p'.block<W.heap.size)→DataW.TrodAll enc P W' 0 spare held ts vs ds p
 | [],[],[],_,h,_=>h
 | _ :: _,_ :: _,_ :: _,_,⟨p0,q0,⟨n,h1⟩,h2,e⟩,lt=>by
  subst e
  refine ⟨p0,q0,⟨n,DataW.trod_carry _ _ _ _ h1 fun pl hpl=>?_⟩,trodAll_carry hq h2 fun p' hp=>lt p' (List.mem_append_right _ hp),rfl⟩
  have hlt:=lt pl (List.mem_append_left _ hpl)
  cases pl with
  | cell b off=>exact World.cell?_of_block (hq b hlt)
  | map b=>exact hq b hlt
 | [],[],_ :: _,_,h,_=>h.elim
 | [],_ :: _,_,_,h,_=>h.elim
 | _ :: _,[],_,_,h,_=>h.elim
 | _ :: _,_ :: _,[],_,h,_=>h.elim
theorem post_true {H:Type} {enc:TypeId × Value→H} {f:Func} {s:ChangeSpec} {W W':World} {args:Array Value} {ds gs:List (DataW H)} {before:List MemPlace} {tb:TypeId}
  (hW:DataW.Whole enc P f.params.toList s.vars false W args.toList ds gs before) (hv:s.vars=[]) (hres:f.resultTypes=#[tb]) (htb:P.underlying tb=some .bool)
  (hs:∀ ds':List (DataW H),ds'.length=f.params.size→s.fn H ds'={ results:=[.lit (.bool true)],args:=ds' })
  (hl:laidOutB P=true) (hm:mapsRowed P=true) (hz:((List.range P.types.size).all fun t=>match P.underlying t with | some (.slice e)=>decide (0<P.cellsOf e) | _=>true)=true) (hT:∀ t∈f.params.toList,t<P.types.size)
  (hq:∀ k,k<W.heap.size→W'.heap[k]?=W.heap[k]?) (fr:Fr W W'):s.post enc P f false true false false W args (.bool true) W':=by
 have hW':=hW
 obtain ⟨p,q,hA,hV,rfl,hfz,hnd⟩:=hW
 rw [hv] at hV
 obtain ⟨rfl,rfl⟩:=trodVars_none hV
 have hlen:ds.length=f.params.size:=by have:=trodAll_len hA;simpa using this
 have hsd:=hs (ds++[]) (by simpa using hlen)
 have hall:∀ (b:Nat) (sp:Nat→Bool) (hd:Bool),DataW.TrodAll enc P W' b sp hd [tb] [.bool true] [.lit (.bool true)] []:=fun b sp hd=>⟨[],[],⟨1,by simp [DataW.trod,htb,Value.cells]⟩,rfl,rfl⟩
 have carry:DataW.TrodAll enc P W' 0 (fun _=>true) true f.params.toList args.toList ds p:=trodAll_carry hq hA fun p' hp=>hW'.lt p' (by simpa using hp)
 have hargs:∀ sp:Nat→Bool,(∀ x∈p,sp x.block=true)→DataW.TrodAll enc P W' 0 sp true f.params.toList args.toList (s.fn H (ds++[])).args p:=fun sp hsp=>by
  rw [hsd]
  simp only [List.append_nil]
  exact carry.respare (kids_rows hl hm) (fun t e ht hu=>slices_full_of P hz t e ht hu) hT hsp
 have hvars:∀ sp:Nat→Bool,DataW.TrodVars enc P W' sp s.vars (s.fn H (ds++[])).vars []:=fun sp=>by rw [hsd,hv];rfl
 have hlt:∀ x∈p,x.block<W.heap.size:=fun x hx=>hW'.lt x (by simpa using hx)
 have hkept:W.keptBut W' (·∈p):=by
  refine ⟨fr.os,fr.output,fun i hi=>?_⟩
  rw [hq i hi]
  cases h:W.heap[i]? with
  | none=>trivial
  | some o=>cases o<;>simp
 have hres':∀ (b:Nat) (sp:Nat→Bool) (hd:Bool),DataW.TrodAll enc P W' b sp hd f.resultTypes.toList ((Value.bool true).resultList f.resultTypes.size) (s.fn H (ds++[])).results []:=fun b sp hd=>by rw [hsd,hres];exact hall b sp hd
 have h2:=hargs (fun _=>true) fun _ _=>rfl
 have hW3:DataW.Whole enc P f.params.toList s.vars false W args.toList ds [] p:=by simpa using hW'
 refine ⟨ds,[],p,[],p,[],hW3,hres' _ _ _,hargs (fun b=>decide (b<W.heap.size)) fun x hx=>decide_eq_true (hlt x hx),hvars _,World.keptBut_mono (fun x hx=>⟨hx,.inr (.inl hx)⟩) hkept,fun _=>?_⟩
 obtain ⟨_,_,_,_,_,z,n⟩:=hW3
 refine ⟨ok_one hres rfl (okWide_bool_mk htb _),_,_,p,⟨p,[],trodAll_append h2 (hres' _ _ _),hvars (fun _=>true),(List.append_nil p).symm,fun b off hp=>(fr.frozen ⟨b,off,none⟩ (hlt _ hp)).trans (z b off hp),fun h=>absurd h (by simp)⟩,fun x hx _=>by simpa using hx⟩
def Arg (P:Program) (t:TypeId) (α:Type) (en:α→AV) (ok:α→Prop):Prop:=
 ∀ {H:Type} (enc:TypeId × Value→H) (W:World) (base:Nat) (v:Value) (d:DataW H) (p:List MemPlace),Value.okWide P W .any base t v→DataW.Trod enc P W 0 (fun _=>true) true t v d p→∃ a,ok a∧R (Old W) W none (en a) v
theorem Arg.agg {t:TypeId} {a:Array Field} (ht:P.underlying t=some (.struct a)) {α:Type} {en:α→List AV} {ok:α→Prop} (h:Dec P t α en ok):Arg P t α (fun a=>.agg (en a)) ok:=by
 intro H enc W base v d p hok ⟨n,hn⟩
 simp only [Value.okWide,ht] at hok
 obtain ⟨cs,rfl,_⟩:=hok
 obtain ⟨x,h1,h2⟩:=h _ _ _ _ _ _ _ hn
 exact ⟨x,h1,cs.toList,by simp,by simpa [Value.cells] using h2⟩
theorem Arg.one {t:TypeId} {k:TypeDesc} (ht:P.underlying t=some k) (hk:match k with | .int _ | .bool | .slice _=>True | _=>False) {α:Type} {en:α→AV} {ok:α→Prop} (h:Dec P t α (fun a=>[en a]) ok):Arg P t α en ok:=by
 intro H enc W base v d p hok ⟨n,hn⟩
 obtain ⟨x,h1,y,ys,h2,h3,h4⟩:=h _ _ _ _ _ _ _ hn
 have h4:ys=[]:=h4
 subst h4
 have hv:v=y:=by
  cases v
  case agg cs=>cases k<;>first | exact hk.elim | simp [Value.okWide,ht,Cell.okWide,Cell.ok] at hok
  all_goals (simp [Value.cells] at h2;exact h2)
 subst hv
 exact ⟨x,h1,h3⟩
theorem law_true {γ:Nat→Option AV} {f:FuncId} {fn:Func} {s:ChangeSpec} {W:World} {args:Array Value} {ds gs:List (DataW H)} {before:List MemPlace} {tb:TypeId} {avs:List AV} (hp:Pure P γ false f avs (.b fun _=>true)) (hr:Rs (Old W) W none avs args.toList)
  (hγ:∀ g x,γ g=some x→R (Old W) W none (.vp (fun _=>x) 0) (.pointer (some ⟨g,0,none⟩)))
  (hW:DataW.Whole enc P fn.params.toList s.vars false W args.toList ds gs before) (hv:s.vars=[]) (hres:fn.resultTypes=#[tb]) (htb:P.underlying tb=some .bool)
  (hs:∀ ds':List (DataW H),ds'.length=fn.params.size→s.fn H ds'={ results:=[.lit (.bool true)],args:=ds' })
  (hl:laidOutB P=true) (hm:mapsRowed P=true) (hz:((List.range P.types.size).all fun t=>match P.underlying t with | some (.slice e)=>decide (0<P.cellsOf e) | _=>true)=true) (hT:∀ t∈fn.params.toList,t<P.types.size) :
  Calls P f args W fun e W'=>∃ v,e=.returned v∧s.post enc P fn false true false false W args v W':=by
 have:=hp.2 (Old W) W args.toList (fun k hk=>hk) hγ hr
 refine (this.mono fun e w' ⟨v',S',h1,h2,h3⟩=>?_)
 have h2:v'=.bool true:=h2
 subst h2
 exact ⟨_,h1,post_true hW hv hres htb hs hl hm hz hT h3.same h3.fr⟩
end
end Go.AL
namespace Go.AL
open Go Go.RowKit Go.ChangeShapes Go.WideShapes
section
variable {P:Program}
theorem Dec.imap {t:TypeId} {α β:Type} {en:α→List AV} {ok:α→Prop} {en':β→List AV} {ok':β→Prop} (d:Dec P t α en ok) (f:α→β) (he:∀ a,en a=en' (f a)) (hk:∀ a,ok a→ok' (f a)):Dec P t β en' ok':=by
 intro H enc w spare held fuel cs x h
 obtain ⟨a,h1,h2⟩:=d _ _ _ _ _ _ _ h
 exact ⟨f a,hk a h1,by rw [←he];exact h2⟩
theorem Dec.struct4 {t:TypeId} {a:Array Field} (ht:P.underlying t=some (.struct a)) {t0 t1 t2 t3:TypeId} (hfs:a.toList.map (fun f=>(f.type,f.offset))=[(t0,0),(t1,1),(t2,2),(t3,3)])
  (h0:P.cellsOf t0=1) (h1:P.cellsOf t1=1) (h2:P.cellsOf t2=1) (h3:P.cellsOf t3=1) (hs:P.cellsOf t=4)
  {A0 A1 A2 A3:Type} {e0:A0→List AV} {e1:A1→List AV} {e2:A2→List AV} {e3:A3→List AV} {k0:A0→Prop} {k1:A1→Prop} {k2:A2→Prop} {k3:A3→Prop}
  (d0:Dec P t0 A0 e0 k0) (d1:Dec P t1 A1 e1 k1) (d2:Dec P t2 A2 e2 k2) (d3:Dec P t3 A3 e3 k3) :
  Dec P t (A0 × A1 × A2 × A3) (fun p=>e0 p.1++(e1 p.2.1++(e2 p.2.2.1++e3 p.2.2.2))) fun p=>k0 p.1∧k1 p.2.1∧k2 p.2.2.1∧k3 p.2.2.2:=by
 refine Dec.fields ht rfl fun {H} enc w spare held n cs hl hf=>?_
 have get:∀ t o,(t,o)∈a.toList.map (fun f=>(f.type,f.offset))→∃ x,DataW.trod enc P w 0 spare held n t ((cs.drop o).take (P.cellsOf t))=some x:=fun t o hm=>by
  obtain ⟨f,hf1,hf2⟩:=List.mem_map.1 hm
  cases hf2
  exact hf f hf1
 rw [hfs] at get
 rw [hs] at hl
 match cs,hl with
 | [c0,c1,c2,c3],_=>
  obtain ⟨x0,g0⟩:=get t0 0 (by simp)
  obtain ⟨x1,g1⟩:=get t1 1 (by simp)
  obtain ⟨x2,g2⟩:=get t2 2 (by simp)
  obtain ⟨x3,g3⟩:=get t3 3 (by simp)
  obtain ⟨a0,o0,r0⟩:=d0 _ _ _ _ _ _ _ g0
  obtain ⟨a1,o1,r1⟩:=d1 _ _ _ _ _ _ _ g1
  obtain ⟨a2,o2,r2⟩:=d2 _ _ _ _ _ _ _ g2
  obtain ⟨a3,o3,r3⟩:=d3 _ _ _ _ _ _ _ g3
  rw [h0] at r0;rw [h1] at r1;rw [h2] at r2;rw [h3] at r3
  exact ⟨(a0,a1,a2,a3),⟨o0,o1,o2,o3⟩,Rs_append (vals:=[c0]) r0 (Rs_append (vals:=[c1]) r1 (Rs_append (vals:=[c2]) r2 r3))⟩
theorem Dec.struct5 {t:TypeId} {a:Array Field} (ht:P.underlying t=some (.struct a)) {e f:TypeId} (hfs:a.toList.map (fun f=>(f.type,f.offset))=[(e,0),(e,1),(e,2),(f,3),(f,4)])
  (h0:P.cellsOf e=1) (h1:P.cellsOf f=1) (hs:P.cellsOf t=5) {A0:Type} {e0:A0→List AV} {k0:A0→Prop} (d0:Dec P e A0 e0 k0) (d1:Dec P f A0 e0 k0) :
  Dec P t (A0 × A0 × A0 × A0 × A0) (fun p=>e0 p.1++(e0 p.2.1++(e0 p.2.2.1++(e0 p.2.2.2.1++e0 p.2.2.2.2)))) fun p=>k0 p.1∧k0 p.2.1∧k0 p.2.2.1∧k0 p.2.2.2.1∧k0 p.2.2.2.2:=by
 refine Dec.fields ht rfl fun {H} enc w spare held n cs hl hf=>?_
 have get:∀ t o,(t,o)∈a.toList.map (fun f=>(f.type,f.offset))→∃ x,DataW.trod enc P w 0 spare held n t ((cs.drop o).take (P.cellsOf t))=some x:=fun t o hm=>by
  obtain ⟨f,hf1,hf2⟩:=List.mem_map.1 hm
  cases hf2
  exact hf f hf1
 rw [hfs] at get
 rw [hs] at hl
 match cs,hl with
 | [c0,c1,c2,c3,c4],_=>
  obtain ⟨x0,g0⟩:=get e 0 (by simp)
  obtain ⟨x1,g1⟩:=get e 1 (by simp)
  obtain ⟨x2,g2⟩:=get e 2 (by simp)
  obtain ⟨x3,g3⟩:=get f 3 (by simp)
  obtain ⟨x4,g4⟩:=get f 4 (by simp)
  obtain ⟨a0,o0,r0⟩:=d0 _ _ _ _ _ _ _ g0
  obtain ⟨a1,o1,r1⟩:=d0 _ _ _ _ _ _ _ g1
  obtain ⟨a2,o2,r2⟩:=d0 _ _ _ _ _ _ _ g2
  obtain ⟨a3,o3,r3⟩:=d1 _ _ _ _ _ _ _ g3
  obtain ⟨a4,o4,r4⟩:=d1 _ _ _ _ _ _ _ g4
  rw [h0] at r0 r1 r2;rw [h1] at r3 r4
  exact ⟨(a0,a1,a2,a3,a4),⟨o0,o1,o2,o3,o4⟩,Rs_append (vals:=[c0]) r0 (Rs_append (vals:=[c1]) r1 (Rs_append (vals:=[c2]) r2 (Rs_append (vals:=[c3]) r3 r4)))⟩
end
end Go.AL
namespace Go.AL.Rl
open Go Go.AL Go.Proofs Go.RowKit Go.ChangeShapes Go.WideShapes Go.ChangeAt Go.Proofs.Ytjcioienjlonmaa
set_option maxRecDepth 100000
theorem laidOut:laidOutB Try.prog=true:=by kernel_rfl
theorem mapsOk:mapsRowed Try.prog=true:=by kernel_rfl
theorem slicesOk:((List.range Try.prog.types.size).all fun t=>match Try.prog.underlying t with | some (.slice e)=>decide (0<Try.prog.cellsOf e) | _=>true)=true:=by kernel_rfl
theorem own:ownKnob Try.prog.godebug=none:=by kernel_rfl
def γ0:Nat→Option AV:=fun _=>none
theorem gok0 {W:World}:∀ g x,γ0 g=some x→R (Old W) W none (.vp (fun _=>x) 0) (.pointer (some ⟨g,0,none⟩)):=fun g x h=>by cases h
theorem aInt:Arg Try.prog 3 Int (fun n=>.i fun _=>n) (fun n=>-9223372036854775808≤n∧n≤9223372036854775807):=Arg.one Try.underlying3 trivial (Dec.int Try.underlying3)
theorem dInts:Dec Try.prog 22 (List Int) (fun l=>[.vs 1 fun _=>is l]) fun l=>l.length≤maxLen:=
 Dec.imap (Dec.slice Try.underlying22 (k:=1) (by kernel_rfl) (by omega) (Dec.int Try.underlying2) (fun _=>rfl) Elem.one) id (fun _=>rfl) fun _ h=>h.1
theorem dEv:Dec Try.prog 40 Ev (fun e=>[.i fun _=>e.kind,.i fun _=>e.loc,.i fun _=>e.order,.i fun _=>e.rd,.i fun _=>e.wr]) fun _=>True:=
 Dec.imap (Dec.struct5 Try.underlying40 (e:=3) (f:=2) (by kernel_rfl) (by kernel_rfl) (by kernel_rfl) (by kernel_rfl) (Dec.int Try.underlying3) (Dec.int Try.underlying2)) (fun p=>⟨p.1,p.2.1,p.2.2.1,p.2.2.2.1,p.2.2.2.2⟩) (fun _=>rfl) fun _ _=>trivial
theorem dId:Dec Try.prog 35 EId (fun e=>[.i fun _=>e.t,.i fun _=>e.i]) fun _=>True:=
 Dec.imap (Dec.struct2 Try.underlying35 (t0:=3) (t1:=3) (s0:=1) (s1:=1) (by kernel_rfl) (by kernel_rfl) (by kernel_rfl) (by kernel_rfl) (Dec.int Try.underlying3) (Dec.int Try.underlying3)) (fun p=>⟨p.1,p.2⟩) (fun _=>rfl) fun _ _=>trivial
theorem dEvs:Dec Try.prog 41 (List Ev) (fun l=>[.vs 5 fun _=>evs l]) fun l=>l.length≤maxLen:=
 Dec.imap (Dec.slice Try.underlying41 (k:=5) (by kernel_rfl) (by omega) dEv (fun _=>rfl) (Elem.agg 5)) id (fun _=>rfl) fun _ h=>h.1
theorem dIds:Dec Try.prog 47 (List EId) (fun l=>[.vs 2 fun _=>ids l]) fun l=>l.length≤maxLen:=
 Dec.imap (Dec.slice Try.underlying47 (k:=2) (by kernel_rfl) (by omega) dId (fun _=>rfl) (Elem.agg 2)) id (fun _=>rfl) fun _ h=>h.1
theorem dEvss:Dec Try.prog 23 (List (List Ev)) (fun l=>[.vs 1 fun _=>evss l]) fun l=>l.length≤maxLen∧∀ a∈l,a.length≤maxLen:=
 Dec.imap (Dec.slice Try.underlying23 (k:=1) (by kernel_rfl) (by omega) dEvs (fun _=>rfl) Elem.one) id (fun _=>rfl) fun _ h=>h
theorem dIdss:Dec Try.prog 24 (List (List EId)) (fun l=>[.vs 1 fun _=>idss l]) fun l=>l.length≤maxLen∧∀ a∈l,a.length≤maxLen:=
 Dec.imap (Dec.slice Try.underlying24 (k:=1) (by kernel_rfl) (by omega) dIds (fun _=>rfl) Elem.one) id (fun _=>rfl) fun _ h=>h
theorem dGr:Dec Try.prog 26 Gr (fun g=>[.vs 1 fun _=>is g.init,.vs 1 fun _=>evss g.th,.vs 1 fun _=>idss g.fr,.vs 1 fun _=>idss g.ord]) Rd:=
 Dec.imap (Dec.struct4 Try.underlying26 (t0:=22) (t1:=23) (t2:=24) (t3:=24) (by kernel_rfl) (by kernel_rfl) (by kernel_rfl) (by kernel_rfl) (by kernel_rfl) (by kernel_rfl) dInts dEvss dIdss dIdss)
  (fun p=>⟨p.1,p.2.1,p.2.2.1,p.2.2.2⟩) (fun _=>rfl) fun p h=>by
   have e:maxLen=9223372036854775807:=by decide +kernel
   obtain ⟨h0,⟨h1,h1'⟩,⟨h2,h2'⟩,h3,h3'⟩:=h
   rw [e] at *
   exact ⟨by dsimp only;omega,by dsimp only;omega,by dsimp only;omega,by dsimp only;omega,fun l hl=>by have:=h1' l hl;omega,fun l hl=>by have:=h2' l hl;omega,fun l hl=>by have:=h3' l hl;omega⟩
theorem aGraph:Arg Try.prog 26 Gr aGr Rd:=Arg.agg Try.underlying26 dGr
end Go.AL.Rl
namespace Go.AL.Rl
open Go Go.AL Go.Proofs Go.RowKit Go.ChangeShapes Go.WideShapes Go.ChangeAt Go.Proofs.Ytjcioienjlonmaa
set_option maxRecDepth 100000
theorem dAk:Dec Try.prog 46 Ak (fun a=>[.i fun _=>a.kind,.i fun _=>a.loc,.i fun _=>a.order,.i fun _=>a.a,.i fun _=>a.b]) fun _=>True:=
 Dec.imap (Dec.struct5 Try.underlying46 (e:=3) (f:=2) (by kernel_rfl) (by kernel_rfl) (by kernel_rfl) (by kernel_rfl) (Dec.int Try.underlying3) (Dec.int Try.underlying2)) (fun p=>⟨p.1,p.2.1,p.2.2.1,p.2.2.2.1,p.2.2.2.2⟩) (fun _=>rfl) fun _ _=>trivial
theorem aAskA:Arg Try.prog 46 Ak aAsk fun _=>True:=Arg.agg Try.underlying46 dAk
theorem aI64:Arg Try.prog 2 Int (fun n=>.i fun _=>n) (fun n=>-9223372036854775808≤n∧n≤9223372036854775807):=Arg.one Try.underlying2 trivial (Dec.int Try.underlying2)
end Go.AL.Rl
namespace Go.AL.Rl
open Go Go.AL Go.Proofs
set_option maxRecDepth 100000
open Go.RowKit Go.ChangeShapes Go.WideShapes Go.ChangeAt Go.Proofs.Ytjcioienjlonmaa
namespace ModelGoesOn
theorem contract (H:Type) (enc:TypeId × Value→H) (W:World) (base:Nat) (args:Array Value) (ds gs:List (DataW H)) (before:List MemPlace)
  (hval:∀ (j:Nat) t v,Try.f4.params[j]?=some t→args[j]?=some v→Value.okWide Try.prog W .any base t v)
  (hW:DataW.Whole enc Try.prog Try.f4.params.toList Rows.modelGoesOnSpec.vars false W args.toList ds gs before) (hL:laidMet Try.prog Rows.modelGoesOnRow.laid W) :
  Calls Try.prog 4 args W fun e W'=>∃ v,e=.returned v∧Rows.modelGoesOnSpec.post enc Try.prog Try.f4 false true false false W args v W':=by
 have hW':=hW
 obtain ⟨p,q,hA,hV,rfl,hfz,hnd⟩:=hW
 rw [Try.params4] at hA hval
 obtain ⟨v0,vs0,d0,ds0,p0,q0,hargs,rfl,rfl,h0,r0⟩:=trodAll_cons hA
 obtain ⟨v1,vs1,d1,ds1,p1,q1,rfl,rfl,rfl,h1,r1⟩:=trodAll_cons r0
 obtain ⟨v2,vs2,d2,ds2,p2,q2,rfl,rfl,rfl,h2,r2⟩:=trodAll_cons r1
 obtain ⟨v3,vs3,d3,ds3,p3,q3,rfl,rfl,rfl,h3,r3⟩:=trodAll_cons r2
 obtain ⟨v4,vs4,d4,ds4,p4,q4,rfl,rfl,rfl,h4,r4⟩:=trodAll_cons r3
 obtain ⟨rfl,rfl,rfl⟩:=trodAll_nil r4
 obtain rfl:args=#[v0,v1,v2,v3,v4]:=by cases args;simp_all
 obtain ⟨x0,k0,a0⟩:=aGraph enc W base v0 d0 p0 (hval 0 _ v0 rfl rfl) h0
 obtain ⟨x1,k1,a1⟩:=aInt enc W base v1 d1 p1 (hval 1 _ v1 rfl rfl) h1
 obtain ⟨x2,k2,a2⟩:=aInt enc W base v2 d2 p2 (hval 2 _ v2 rfl rfl) h2
 obtain ⟨x3,k3,a3⟩:=aAskA enc W base v3 d3 p3 (hval 3 _ v3 rfl rfl) h3
 obtain ⟨x4,k4,a4⟩:=aI64 enc W base v4 d4 p4 (hval 4 _ v4 rfl rfl) h4
 exact law_true (modelGoesOn_ok (γ:=γ0) x0 k0 x1 x2 x3 x4 fun e d p=>gadd_ok x0 k0 x2 e d p) ⟨_,_,rfl,a0,_,_,rfl,a1,_,_,rfl,a2,_,_,rfl,a3,_,_,rfl,a4,rfl⟩ gok0 hW' rfl (tb:=4) (by kernel_rfl) Try.underlying4
  (fun ds' h=>by match ds',h with | [a,b,c,d,e],_=>rfl) laidOut mapsOk slicesOk (by rw [Try.params4];decide +kernel)
theorem laid_met (os:Os):laidMet Try.prog Rows.modelGoesOnRow.laid ((World.holding Try.prog os ⟨#[],#[],[]⟩).forCall (fun _ _=>0) ⟨#[],#[.agg #[.slice none 0 0,.slice none 0 0,.slice none 0 0,.slice none 0 0],.int .i64 0,.int .i64 0,.agg #[.int .i64 0,.int .i64 0,.int .i64 0,.int .i64 0,.int .i64 0],.int .i64 0],[]⟩).memory:=
 laidMet_of_run' 8 (by kernel_rfl) (by kernel_rfl)
theorem reads (os:Os) {H:Type} (enc:TypeId × Value→H):∃ places,DataW.whole enc Try.prog ((World.holding Try.prog os ⟨#[],#[],[]⟩).forCall (fun _ _=>0) ⟨#[],#[.agg #[.slice none 0 0,.slice none 0 0,.slice none 0 0,.slice none 0 0],.int .i64 0,.int .i64 0,.agg #[.int .i64 0,.int .i64 0,.int .i64 0,.int .i64 0,.int .i64 0],.int .i64 0],[]⟩).memory Try.f4.params.toList Rows.modelGoesOnSpec.vars false (#[.agg #[.slice none 0 0,.slice none 0 0,.slice none 0 0,.slice none 0 0],.int .i64 0,.int .i64 0,.agg #[.int .i64 0,.int .i64 0,.int .i64 0,.int .i64 0,.int .i64 0],.int .i64 0]:Array Value).toList 8=some ([.agg [.nil,.nil,.nil,.nil],.lit (.int .i64 0),.lit (.int .i64 0),.agg [.lit (.int .i64 0),.lit (.int .i64 0),.lit (.int .i64 0),.lit (.int .i64 0),.lit (.int .i64 0)],.lit (.int .i64 0)],[],places):=
 ⟨[],by kernel_rfl⟩
theorem lifted (os:Os) (started:os.Started) (H:Type) (enc:TypeId × Value→H) (F:Stop.Interp) :
  ReturnsInHanded {} Try.checked os 4 .any ((OpenSpec.ofChange Rows.modelGoesOnSpec).preRow enc Try.prog Try.f4 Rows.modelGoesOnRow.domain false Rows.modelGoesOnRow.laid) (((OpenSpec.ofChange Rows.modelGoesOnSpec).at F).post enc Try.prog Try.f4 false true false false):=by
 obtain ⟨places,hx⟩:=reads os enc
 refine returnsInHanded_of_row (C:=Try.checked) (s:=OpenSpec.ofChange Rows.modelGoesOnSpec) own started (by kernel_rfl) Try.func4
  (witness_row_at (enc:=enc) (C:=Try.checked) false (World.holding Try.prog os ⟨#[],#[],[]⟩) #[.agg #[.slice none 0 0,.slice none 0 0,.slice none 0 0,.slice none 0 0],.int .i64 0,.int .i64 0,.agg #[.int .i64 0,.int .i64 0,.int .i64 0,.int .i64 0,.int .i64 0],.int .i64 0] rfl (by kernel_rfl) (by kernel_rfl) (by kernel_rfl)
   (OpenSpec.preRow_of_cond 8 hx (by kernel_rfl) (fun k hk=>by cases hk) (by kernel_rfl) (laid_met os))) ?_
 intro W base args ds gs before hval hW _ _ _ hL _ _
 exact contract H enc W base args ds gs before hval hW hL
theorem said:Rows.ModelGoesOnSaid:=
 OpenClaim.holds_of_cond 4 Try.f4 rfl rfl rfl rfl rfl rfl rfl ⟨rfl,rfl,rfl,rfl,rfl⟩ rfl rfl rfl rfl rfl (by kernel_rfl) Try.func4 (by kernel_rfl)
  (of_decide_eq_true (by kernel_rfl)) (by unfold Func.isWrapper;first | (rw [if_pos (by decide +kernel)];kernel_rfl) | (rw [if_neg (by decide +kernel)];exact ⟨rfl,rfl⟩))
  (fun os started H enc _ F=>by rw [OpenClaim.pre_eq_preRow];exact lifted os started H enc F)
end ModelGoesOn
end Go.AL.Rl
