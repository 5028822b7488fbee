import Derived.Test.YtjcioienjlonmaaGreatMa6
set_option linter.unusedVariables false
set_option linter.unusedSimpArgs false
namespace Go.AL.Rl
open Go Go.AL Go.Proofs
set_option maxRecDepth 100000
set_option maxHeartbeats 3200000
variable {γ:Nat→Option AV}
theorem evL_set (l:List (List Ev)) (t:Nat) (x:List Ev):(evL l).set t (evs x)=evL (l.set t x):=by simp [evL,List.map_set]
theorem idL_set (l:List (List EId)) (t:Nat) (x:List EId):(idL l).set t (ids x)=idL (l.set t x):=by simp [idL,List.map_set]
theorem evL_get (l:List (List Ev)) (t:Nat):(evL l).getD t .nil=evs (l.getD t []):=by
 unfold evL
 rcases Nat.lt_or_ge t l.length with h | h
 ·simp [h]
 ·simp [List.getElem?_eq_none h,evs,LV.of]
theorem idL_get (l:List (List EId)) (t:Nat):(idL l).getD t .nil=ids (l.getD t []):=by
 unfold idL
 rcases Nat.lt_or_ge t l.length with h | h
 ·simp [h]
 ·simp [List.getElem?_eq_none h,ids,LV.of]
theorem one_len (f:AV→AV) (z x:AV):(LV.of (List.map f (setAll (List.replicate (Nat.succ 0) z) [(0,x)]))).l.length=1:=by simp [setAll]
theorem tn1 (t:Nat):((t:Int)+1-1).toNat=t:=by omega
theorem fine_nat {n:Nat} {e:Ev} (h:fineM n e=true) (hw:writesM e=true):∃ x:Nat,e.loc=(x:Int)∧x<n:=by
 unfold fineM at h
 unfold writesM at hw
 simp only [Bool.and_eq_true,Bool.or_eq_true,decide_eq_true_eq] at h hw
 have hk:¬ e.kind=4:=by omega
 have h4:=h.2
 rw [if_neg hk,decide_eq_true_eq] at h4
 exact ⟨e.loc.toNat,by omega,by omega⟩
theorem rd_add {g:Gr} (hg:GOk g) (t:Nat) (e:Ev) (d:EId) (p:Int):Rd (addG g t e d p):=by
 have hb:=rd_short hg
 have h:=rdb_ok hg
 have hs:=hg.short
 have hm:∀ {α:Type} (l:List (List α)) (i:Nat) (x:List α),(∀ y∈l,(y.length:Int)≤9223372036854775807)→(x.length:Int)≤9223372036854775807→∀ y∈l.set i x,(y.length:Int)≤9223372036854775807:=fun l i x h1 h2 y hy=>by
  rcases List.mem_or_eq_of_mem_set hy with hy | rfl
  ·exact h1 y hy
  ·exact h2
 have a1:=hs.at t
 have a2:((g.fr.getD t []).length:Int) * 16≤140737488351232:=by
  rcases Nat.lt_or_ge t g.fr.length with h1 | h1
  ·have:=h.frs _ (getD_mem (d:=[]) h1);omega
  ·rw [List.getD_eq_getElem?_getD,List.getElem?_eq_none h1];simp
 have a3:((g.ord.getD e.loc.toNat []).length:Int) * 16≤140737488351232:=by
  rcases Nat.lt_or_ge e.loc.toNat g.ord.length with h1 | h1
  ·have:=h.ords _ (getD_mem (d:=[]) h1);omega
  ·rw [List.getD_eq_getElem?_getD,List.getElem?_eq_none h1];simp
 refine ⟨hb.init,by show ((g.th.set t _).length:Int)≤_;rw [List.length_set];exact hb.th,by show ((g.fr.set t _).length:Int)≤_;rw [List.length_set];exact hb.fr,?_,hm _ _ _ hb.ths (by rw [List.length_append];simp only [List.length_cons,List.length_nil];omega),hm _ _ _ hb.frs (by rw [List.length_append];simp only [List.length_cons,List.length_nil];omega),?_⟩
 ·show ((if writesM e=true then g.ord.set e.loc.toNat (addO g t e p) else g.ord).length:Int)≤_
  split
  ·rw [List.length_set];exact hb.ord
  ·exact hb.ord
 ·show ∀ y∈(if writesM e=true then g.ord.set e.loc.toNat (addO g t e p) else g.ord),_
  split
  ·refine hm _ _ _ hb.ords ?_
   unfold addO
   simp only [List.length_append,List.length_take,List.length_drop,List.length_cons,List.length_nil]
   omega
  ·exact hb.ords
theorem gcheck_iff {g:Gr}:gcheckM g=0↔GOk g:=by
 constructor
 ·intro h
  unfold gcheckM at h
  split at h
  ·split at h
   ·assumption
   ·cases h
  ·cases h
 ·exact gcheck0
theorem radd_main (g:Gr) (hg:GOk g) (t:Nat) (ht:t<g.th.length) (hl:(g.th.getD t []).length≠14) (e:Ev) (d:EId) (p:Int) :
  Pure Tryz.prog γ false 37 [aGr g,.i fun _=>(t:Int)+1,aEv e,aId d,.i fun _=>p] (.tup [aGr (if addC g t e d p then addG g t e d p else ⟨[],[],[],[]⟩),.i fun _=>if addC g t e d p then 0 else 2]):=by
 have hR:=rd_short hg
 have kc:=check14_ok (γ:=γ) g hR
 rw [gcheck0 hg] at kc
 obtain ⟨n1,n2,n3,ko⟩:=rcopy_own (γ:=γ) g (rdb_ok hg) hR
 have kf:=fine_ok (γ:=γ) e (addS g t e d)
 have kw:=rwrites_ok (γ:=γ) e
 have hs:=hg.short
 have hth:=hs.th
 have hle:=hs.at t
 have hlf:=hg.lfr
 have hlo:=hg.lord
 have hin:=hs.init
 have hol:=ord56 hg e.loc.toNat
 obtain ⟨rG,hrG⟩:∃ r,r=if addC g t e d p then addG g t e d p else ⟨[],[],[],[]⟩:=⟨_,rfl⟩
 obtain ⟨rE,hrE⟩:∃ r:Int,r=if addC g t e d p then 0 else 2:=⟨_,rfl⟩
 rw [←hrG,←hrE]
 have hyes:addC g t e d p→rG=addG g t e d p∧rE=0:=fun h=>by rw [hrG,hrE,if_pos h,if_pos h];exact ⟨rfl,rfl⟩
 have hno:¬ addC g t e d p→rG=⟨[],[],[],[]⟩∧rE=2:=fun h=>by rw [hrG,hrE,if_neg h,if_neg h];exact ⟨rfl,rfl⟩
 clear hrG hrE
 refine Pure.go (ty:=ty) ty_eq mo Tryz.func37 rfl Tryz.ntmps37 Tryz.results37 Tryz.call37 (by simp) fun P C CQ D W F E hF=>?_
 cbv
 skip
 repeat' (first
  |(refine E.c (SCalls.of_owns (ko) ?_ ?_);(· (cbv;(try simp only [nc] at *);first|done|(simp;done)|(simp (disch:=(first|omega|(simp only [lnS];omega))) only [rdT,rdS,tn1,anT];first|done|omega|(refine ⟨?_,?_⟩<;>omega))|(simp (disch:=(first|omega|(simp only [lnS];omega))) [rdT,rdS,tn1];done)));cbv)
  |(refine E.c (SCalls.of_le (kc) ?_ ?_);(· (cbv;(try simp only [nc] at *);first|done|(simp;done)|(simp (disch:=(first|omega|(simp only [lnS];omega))) only [rdT,rdS,tn1,anT];first|done|omega|(refine ⟨?_,?_⟩<;>omega))|(simp (disch:=(first|omega|(simp only [lnS];omega))) [rdT,rdS,tn1];done)));cbv)
  |(refine ⟨fun _ h_s=>?_,fun _ h_s=>?_⟩<;>(cbv;(try simp only [nc] at *);try simp (disch:=(first|omega|(simp only [lnS];omega))) only [rdT,rdS,tn1,reduceCtorEq,trT] at h_s))
  |(refine hF ?_;intro _;clear hF)
  |(refine hF ?_;cbv;clear hF)
  |(refine ⟨fun _=>?_,?_⟩;(· ((try simp only [nc] at *);first|done|omega|exact ⟨by omega,rfl⟩|(simp (disch:=(first|omega|(simp only [lnS];omega))) only [rdT,rdS,tn1];first|done|omega|rfl|exact ⟨by omega,rfl⟩|(simp;done)|(simp;omega))|(intros;trivial)));(try (simp only [nc] at *));(try simp (disch:=(first|omega|(simp only [lnS];omega))) only [rdT,rdS,tn1]);(try cbv))
  | fail
 )
 ·exact absurd h_s (by simp)
 ·exfalso;((try simp only [nc] at *);omega)
 ·exfalso;((try simp only [nc] at *);omega)
 ·exfalso;((try simp only [nc] at *);omega)
 have q1:=evs_len (g.th.getD t [])
 have q2:=ids_len (g.fr.getD t [])
 have q3:(g.fr.getD t []).length≤14:=by have:=(hg.events t ht).1;omega
 refine E.sb (Step.takeE 8 rfl (fun _=>t) (fun _=>evs (g.th.getD t [])) (fun _=>(g.th.getD t []).length) (fun _=>by rw [evL_len];exact ht) fun _=>⟨evL_get _ _,q1⟩) ?_
 refine E.st fun J hJ=>E.de 13 [13] [] (by decide +kernel) ?_
 cbv
 skip
 skip
 repeat' (first
  |(refine ⟨fun _ h_s=>?_,fun _ h_s=>?_⟩<;>(cbv;(try simp only [nc] at *);try simp (disch:=(first|omega|(simp only [lnS];omega))) only [rdT,rdS,tn1,reduceCtorEq,trT] at h_s))
  |(refine hF ?_;intro _;clear hF)
  |(refine hF ?_;cbv;clear hF)
  |(refine ⟨fun _=>?_,?_⟩;(· ((try simp only [nc] at *);first|done|omega|exact ⟨by omega,rfl⟩|(simp (disch:=(first|omega|(simp only [lnS];omega))) only [rdT,rdS,tn1];first|done|omega|rfl|exact ⟨by omega,rfl⟩|(simp;done)|(simp;omega))|(intros;trivial)|exact ⟨by first|trivial|rfl,by omega,by first|(rw [evL_len];omega)|(rw [idL_len];omega)⟩|exact ⟨by first|trivial|rfl,by first|trivial|rfl,by first|trivial|rfl|(simp;done),by (simp only [one_len];omega),by (simp only [one_len];omega),by simp [setAll,AV.nrm,nrms,nrm1,AV.flat,AV.cells,AV.one]⟩));(try (simp only [nc] at *));(try simp (disch:=(first|omega|(simp only [lnS];omega))) only [rdT,rdS,tn1]);(try cbv))
  | fail
 )
 refine hJ (Step.putE 8 13 (fun _=>evL (addS g t e d).th) rfl rfl fun _=>⟨⟨rfl,rfl,?_⟩,?_⟩) ?_
 ·simp [LV.l_of]
 ·show (evL g.th).set t _=evL (g.th.set t _)
  rw [←evL_set]
  congr 1
  simp [evs,setAll,AV.nrm,nrms,nrm1]
 cbv
 refine E.sb (Step.takeE 9 rfl (fun _=>t) (fun _=>ids (g.fr.getD t [])) (fun _=>(g.fr.getD t []).length) (fun _=>by rw [idL_len];omega) fun _=>⟨idL_get _ _,q2⟩) ?_
 refine E.st fun J2 hJ2=>E.de 13 [14] [] (by decide +kernel) ?_
 cbv
 repeat' (first
  |(refine ⟨fun _ h_s=>?_,fun _ h_s=>?_⟩<;>(cbv;(try simp only [nc] at *);try simp (disch:=(first|omega|(simp only [lnS];omega))) only [rdT,rdS,tn1,reduceCtorEq,trT] at h_s))
  |(refine hF ?_;intro _;clear hF)
  |(refine hF ?_;cbv;clear hF)
  |(refine ⟨fun _=>?_,?_⟩;(· ((try simp only [nc] at *);first|done|omega|exact ⟨by omega,rfl⟩|(simp (disch:=(first|omega|(simp only [lnS];omega))) only [rdT,rdS,tn1];first|done|omega|rfl|exact ⟨by omega,rfl⟩|(simp;done)|(simp;omega))|(intros;trivial)|exact ⟨by first|trivial|rfl,by omega,by first|(rw [evL_len];omega)|(rw [idL_len];omega)⟩|exact ⟨by first|trivial|rfl,by first|trivial|rfl,by first|trivial|rfl|(simp;done),by (simp only [one_len];omega),by (simp only [one_len];omega),by simp [setAll,AV.nrm,nrms,nrm1,AV.flat,AV.cells,AV.one]⟩));(try (simp only [nc] at *));(try simp (disch:=(first|omega|(simp only [lnS];omega))) only [rdT,rdS,tn1]);(try cbv))
  | fail
 )
 refine hJ2 (Step.putE 9 14 (fun _=>idL (addS g t e d).fr) rfl rfl fun _=>⟨⟨rfl,rfl,?_⟩,?_⟩) ?_
 ·simp [LV.l_of]
 ·show (idL g.fr).set t _=idL (g.fr.set t _)
  rw [←idL_set]
  congr 1
  simp [ids,setAll,AV.nrm,nrms,nrm1]
 cbv
 have hinit:(addS g t e d).init=g.init:=rfl
 have hS1:(evss (addS g t e d).th).l=(evL (addS g t e d).th).map fun x=>.vs 5 fun _=>x:=evss_L _
 have hS2:(idss (addS g t e d).fr).l=(idL (addS g t e d).fr).map fun x=>.vs 2 fun _=>x:=idss_L _
 have hS3:(idss g.ord).l=(idL g.ord).map fun x=>.vs 2 fun _=>x:=idss_L _
 have hS4:(addS g t e d).ord=g.ord:=rfl
 have hS5:(evL (addS g t e d).th).length=g.th.length:=by rw [evL_len];simp [addS]
 have hS6:(idL (addS g t e d).fr).length=g.fr.length:=by rw [idL_len];simp [addS]
 have hS7:(idL g.ord).length=g.ord.length:=idL_len _
 have hS8:List.take g.init.length (is g.init).l=(is g.init).l:=List.take_of_length_le (by simp)
 by_cases hf:fineM g.init.length e=true
 ·rw [show fineM ((addS g t e d).init.length:Int) e=true from hf] at kf
  refine E.c (SCalls.of_bare kf rfl ?_ ?_)
  ·cbv;simp [hinit,hS1,hS2,hS3,hS4,hS5,hS6,hS7,hS8]
  cbv
  by_cases hw:writesM e=true
  ·rw [hw] at kw
   obtain ⟨x,hx,hx2⟩:=fine_nat hf hw
   repeat' (first
    |(refine E.c (SCalls.of_le (kw) ?_ ?_);(· (cbv;(try simp only [nc] at *);first|done|(simp;done)|(simp (disch:=(first|omega|(simp only [lnS];omega))) only [rdT,rdS,tn1,anT];first|done|omega|(refine ⟨?_,?_⟩<;>omega))|(simp (disch:=(first|omega|(simp only [lnS];omega))) [rdT,rdS,tn1];done)));cbv)
    |(refine ⟨fun _ h_s=>?_,fun _ h_s=>?_⟩<;>(cbv;(try simp only [nc] at *);try simp (disch:=(first|omega|(simp only [lnS];omega))) only [rdT,rdS,tn1,reduceCtorEq,trT] at h_s))
    |(refine hF ?_;intro _;clear hF)
    |(refine hF ?_;cbv;clear hF)
    |(refine ⟨fun _=>?_,?_⟩;(· ((try simp only [nc] at *);first|done|omega|exact ⟨by omega,rfl⟩|(simp (disch:=(first|omega|(simp only [lnS];omega))) only [rdT,rdS,tn1];first|done|omega|rfl|exact ⟨by omega,rfl⟩|(simp;done)|(simp;omega))|(intros;trivial)|exact ⟨by first|trivial|rfl,by omega,by first|(rw [evL_len];omega)|(rw [idL_len];omega)⟩|exact ⟨by first|trivial|rfl,by first|trivial|rfl,by first|trivial|rfl|(simp;done),by (simp only [one_len];omega),by (simp only [one_len];omega),by simp [setAll,AV.nrm,nrms,nrm1,AV.flat,AV.cells,AV.one]⟩));(try (simp only [nc] at *));(try simp (disch:=(first|omega|(simp only [lnS];omega))) only [rdT,rdS,tn1]);(try cbv))
    | fail
   )
   ·obtain ⟨z1,z2⟩:=hno fun h=>by (have:=h.2.1;rw [if_pos hw] at this;((try simp only [nc] at *);omega))
    rw [z1,z2]
    simp [is,evss,idss,LV.of,LV.l]
   ·obtain ⟨z1,z2⟩:=hno fun h=>by (have h':=h.2.1;rw [if_pos hw] at h';(try simp only [nc] at *);omega)
    rw [z1,z2]
    simp [is,evss,idss,LV.of,LV.l]
   refine E.sb (Step.drop 10 rfl (fun _=>e.loc.toNat)) ?_
   refine E.st fun J3 hJ3=>E.de 18 [] [some 2] (by decide +kernel) ?_
   cbv
   skip
   repeat' (first
    |(refine ⟨fun _ h_s=>?_,fun _ h_s=>?_⟩<;>(cbv;(try simp only [nc] at *);try simp (disch:=(first|omega|(simp only [lnS];omega))) only [rdT,rdS,tn1,reduceCtorEq,trT] at h_s))
    |(refine hF ?_;intro _;clear hF)
    |(refine hF ?_;cbv;clear hF)
    |(refine ⟨fun _=>?_,?_⟩;(· ((try simp only [nc] at *);first|done|omega|exact ⟨by omega,rfl⟩|(simp (disch:=(first|omega|(simp only [lnS];omega))) only [rdT,rdS,tn1];first|done|omega|rfl|exact ⟨by omega,rfl⟩|(simp;done)|(simp;omega))|(intros;trivial)|exact ⟨by first|trivial|rfl,by omega,by first|(rw [evL_len];omega)|(rw [idL_len];omega)⟩|exact ⟨by first|trivial|rfl,by first|trivial|rfl,by first|trivial|rfl|(simp;done),by (simp only [one_len];omega),by (simp only [one_len];omega),by simp [setAll,AV.nrm,nrms,nrm1,AV.flat,AV.cells,AV.one]⟩|exact ⟨by first|trivial|rfl,by first|trivial|rfl,by first|trivial|rfl|(first|(simp only [LV.l_of,LV.l,List.length_append,List.length_take,List.length_drop,List.length_nil,ids_len,List.length_map,setAll,List.length_set,List.length_replicate];done)|(simp only [LV.l_of,LV.l,List.length_append,List.length_take,List.length_drop,List.length_nil,ids_len,List.length_map,setAll,List.length_set,List.length_replicate];omega)),by (first|(simp only [LV.l_of,LV.l,List.length_append,List.length_take,List.length_drop,List.length_nil,ids_len,List.length_map,setAll,List.length_set,List.length_replicate];done)|(simp only [LV.l_of,LV.l,List.length_append,List.length_take,List.length_drop,List.length_nil,ids_len,List.length_map,setAll,List.length_set,List.length_replicate];omega)),by (first|(simp only [LV.l_of,LV.l,List.length_append,List.length_take,List.length_drop,List.length_nil,ids_len,List.length_map,setAll,List.length_set,List.length_replicate];done)|(simp only [LV.l_of,LV.l,List.length_append,List.length_take,List.length_drop,List.length_nil,ids_len,List.length_map,setAll,List.length_set,List.length_replicate];omega)),by first|(simp [setAll,AV.nrm,nrms,nrm1,AV.flat,AV.cells,AV.one];done)|exact fun v hv=>id_flat _ v (List.mem_of_mem_take (by simpa using hv))|exact fun v hv=>id_flat _ v (List.mem_of_mem_drop (List.mem_of_mem_take (by simpa using hv)))⟩));(try (simp only [nc] at *));(try simp (disch:=(first|omega|(simp only [lnS];omega))) only [rdT,rdS,tn1]);(try cbv))
    | fail
   )
   obtain ⟨H,hH⟩:∃ H,H=addG g t e d p:=⟨_,rfl⟩
   have hHi:H.init=g.init:=by rw [hH];rfl
   have hHt:H.th=(addS g t e d).th:=by rw [hH];rfl
   have hHf:H.fr=(addS g t e d).fr:=by rw [hH];rfl
   have hHo:H.ord=g.ord.set e.loc.toNat (addO g t e p):=by rw [hH];exact if_pos hw
   have hS9:(idss H.ord).l=(idL H.ord).map fun x=>.vs 2 fun _=>x:=idss_L _
   have hS10:(idL H.ord).length=g.ord.length:=by rw [idL_len,hHo,List.length_set]
   have kb:=check14_ok (γ:=γ) H (by rw [hH];exact rd_add hg t e d p)
   refine hJ3 (Step.putE 10 15 (fun _=>idL H.ord) rfl rfl fun _=>⟨⟨rfl,rfl,?_⟩,?_⟩) ?_
   ·simp only [LV.l_of,LV.l,List.length_append,List.length_take,List.length_drop,List.length_nil,ids_len,List.length_map,setAll,List.length_set,List.length_replicate]
   ·show (idL g.ord).set e.loc.toNat _=idL H.ord
    rw [hHo,←idL_set]
    congr 1
    unfold addO
    simp [ids,LV.l,setAll,AV.nrm,nrms,nrm1,List.map_take,List.map_drop]
    first | done | rw [List.take_of_length_le (l:=List.drop _ _) (by simp;omega)] | rw [List.take_of_length_le (l:=List.drop _ _) (by simp)]
   cbv
   refine E.c (SCalls.of_bare kb rfl ?_ ?_)
   ·cbv;simp [hHi,hHt,hHf,hS1,hS2,hS5,hS6,hS8,hS9,hS10]
   cbv
   repeat' (first
    |(refine ⟨fun _ h_s=>?_,fun _ h_s=>?_⟩<;>(cbv;(try simp only [nc] at *);try simp (disch:=(first|omega|(simp only [lnS];omega))) only [rdT,rdS,tn1,reduceCtorEq,trT] at h_s))
    |(refine hF ?_;intro _;clear hF)
    |(refine hF ?_;cbv;clear hF)
    |(refine ⟨fun _=>?_,?_⟩;(· ((try simp only [nc] at *);first|done|omega|exact ⟨by omega,rfl⟩|(simp (disch:=(first|omega|(simp only [lnS];omega))) only [rdT,rdS,tn1];first|done|omega|rfl|exact ⟨by omega,rfl⟩|(simp;done)|(simp;omega))|(intros;trivial)|exact ⟨by first|trivial|rfl,by omega,by first|(rw [evL_len];omega)|(rw [idL_len];omega)⟩|exact ⟨by first|trivial|rfl,by first|trivial|rfl,by first|trivial|rfl|(simp;done),by (simp only [one_len];omega),by (simp only [one_len];omega),by simp [setAll,AV.nrm,nrms,nrm1,AV.flat,AV.cells,AV.one]⟩|exact ⟨by first|trivial|rfl,by first|trivial|rfl,by first|trivial|rfl|(first|(simp only [LV.l_of,LV.l,List.length_append,List.length_take,List.length_drop,List.length_nil,ids_len,List.length_map,setAll,List.length_set,List.length_replicate];done)|(simp only [LV.l_of,LV.l,List.length_append,List.length_take,List.length_drop,List.length_nil,ids_len,List.length_map,setAll,List.length_set,List.length_replicate];omega)),by (first|(simp only [LV.l_of,LV.l,List.length_append,List.length_take,List.length_drop,List.length_nil,ids_len,List.length_map,setAll,List.length_set,List.length_replicate];done)|(simp only [LV.l_of,LV.l,List.length_append,List.length_take,List.length_drop,List.length_nil,ids_len,List.length_map,setAll,List.length_set,List.length_replicate];omega)),by (first|(simp only [LV.l_of,LV.l,List.length_append,List.length_take,List.length_drop,List.length_nil,ids_len,List.length_map,setAll,List.length_set,List.length_replicate];done)|(simp only [LV.l_of,LV.l,List.length_append,List.length_take,List.length_drop,List.length_nil,ids_len,List.length_map,setAll,List.length_set,List.length_replicate];omega)),by first|(simp [setAll,AV.nrm,nrms,nrm1,AV.flat,AV.cells,AV.one];done)|exact fun v hv=>id_flat _ v (List.mem_of_mem_take (by simpa using hv))|exact fun v hv=>id_flat _ v (List.mem_of_mem_drop (List.mem_of_mem_take (by simpa using hv)))⟩));(try (simp only [nc] at *));(try simp (disch:=(first|omega|(simp only [lnS];omega))) only [rdT,rdS,tn1]);(try cbv))
    | fail
   )
   ·obtain ⟨z1,z2⟩:=hno fun h=>by (have h3:GOk H:=(by rw [hH];exact h.2.2);exact h_s (gcheck0 h3))
    rw [z1,z2]
    simp [is,evss,idss,LV.of,LV.l]
   ·obtain ⟨z1,z2⟩:=hyes ⟨hf,by rw [if_pos hw];(try simp only [nc] at *);omega,by rw [←hH];exact gcheck_iff.1 h_s⟩
    rw [z1,z2,←hH]
    simp [hHi,hHt,hHf,hS1,hS2,hS5,hS6,hS8,hS9,hS10]
  ·rw [show writesM e=false by simpa using hw] at kw
   repeat' (first
    |(refine E.c (SCalls.of_le (kw) ?_ ?_);(· (cbv;(try simp only [nc] at *);first|done|(simp;done)|(simp (disch:=(first|omega|(simp only [lnS];omega))) only [rdT,rdS,tn1,anT];first|done|omega|(refine ⟨?_,?_⟩<;>omega))|(simp (disch:=(first|omega|(simp only [lnS];omega))) [rdT,rdS,tn1];done)));cbv)
    |(refine ⟨fun _ h_s=>?_,fun _ h_s=>?_⟩<;>(cbv;(try simp only [nc] at *);try simp (disch:=(first|omega|(simp only [lnS];omega))) only [rdT,rdS,tn1,reduceCtorEq,trT] at h_s))
    |(refine hF ?_;intro _;clear hF)
    |(refine hF ?_;cbv;clear hF)
    |(refine ⟨fun _=>?_,?_⟩;(· ((try simp only [nc] at *);first|done|omega|exact ⟨by omega,rfl⟩|(simp (disch:=(first|omega|(simp only [lnS];omega))) only [rdT,rdS,tn1];first|done|omega|rfl|exact ⟨by omega,rfl⟩|(simp;done)|(simp;omega))|(intros;trivial)|exact ⟨by first|trivial|rfl,by omega,by first|(rw [evL_len];omega)|(rw [idL_len];omega)⟩|exact ⟨by first|trivial|rfl,by first|trivial|rfl,by first|trivial|rfl|(simp;done),by (simp only [one_len];omega),by (simp only [one_len];omega),by simp [setAll,AV.nrm,nrms,nrm1,AV.flat,AV.cells,AV.one]⟩|exact ⟨by first|trivial|rfl,by first|trivial|rfl,by first|trivial|rfl|(first|(simp only [LV.l_of,LV.l,List.length_append,List.length_take,List.length_drop,List.length_nil,ids_len,List.length_map,setAll,List.length_set,List.length_replicate];done)|(simp only [LV.l_of,LV.l,List.length_append,List.length_take,List.length_drop,List.length_nil,ids_len,List.length_map,setAll,List.length_set,List.length_replicate];omega)),by (first|(simp only [LV.l_of,LV.l,List.length_append,List.length_take,List.length_drop,List.length_nil,ids_len,List.length_map,setAll,List.length_set,List.length_replicate];done)|(simp only [LV.l_of,LV.l,List.length_append,List.length_take,List.length_drop,List.length_nil,ids_len,List.length_map,setAll,List.length_set,List.length_replicate];omega)),by (first|(simp only [LV.l_of,LV.l,List.length_append,List.length_take,List.length_drop,List.length_nil,ids_len,List.length_map,setAll,List.length_set,List.length_replicate];done)|(simp only [LV.l_of,LV.l,List.length_append,List.length_take,List.length_drop,List.length_nil,ids_len,List.length_map,setAll,List.length_set,List.length_replicate];omega)),by first|(simp [setAll,AV.nrm,nrms,nrm1,AV.flat,AV.cells,AV.one];done)|exact fun v hv=>id_flat _ v (List.mem_of_mem_take (by simpa using hv))|exact fun v hv=>id_flat _ v (List.mem_of_mem_drop (List.mem_of_mem_take (by simpa using hv)))⟩));(try (simp only [nc] at *));(try simp (disch:=(first|omega|(simp only [lnS];omega))) only [rdT,rdS,tn1]);(try cbv))
    | fail
   )
   ·obtain ⟨z1,z2⟩:=hno fun h=>by (have h':=h.2.1;rw [if_neg hw] at h';exact h_s h')
    rw [z1,z2]
    simp [is,evss,idss,LV.of,LV.l]
   obtain ⟨H,hH⟩:∃ H,H=addG g t e d p:=⟨_,rfl⟩
   have hHi:H.init=g.init:=by rw [hH];rfl
   have hHt:H.th=(addS g t e d).th:=by rw [hH];rfl
   have hHf:H.fr=(addS g t e d).fr:=by rw [hH];rfl
   have hHo:H.ord=g.ord:=by rw [hH];exact if_neg hw
   have kb:=check14_ok (γ:=γ) H (by rw [hH];exact rd_add hg t e d p)
   refine E.c (SCalls.of_bare kb rfl ?_ ?_)
   ·cbv;simp [hHi,hHt,hHf,hHo,hS1,hS2,hS3,hS5,hS6,hS7,hS8]
   cbv
   repeat' (first
    |(refine ⟨fun _ h_s=>?_,fun _ h_s=>?_⟩<;>(cbv;(try simp only [nc] at *);try simp (disch:=(first|omega|(simp only [lnS];omega))) only [rdT,rdS,tn1,reduceCtorEq,trT] at h_s))
    |(refine hF ?_;intro _;clear hF)
    |(refine hF ?_;cbv;clear hF)
    |(refine ⟨fun _=>?_,?_⟩;(· ((try simp only [nc] at *);first|done|omega|exact ⟨by omega,rfl⟩|(simp (disch:=(first|omega|(simp only [lnS];omega))) only [rdT,rdS,tn1];first|done|omega|rfl|exact ⟨by omega,rfl⟩|(simp;done)|(simp;omega))|(intros;trivial)|exact ⟨by first|trivial|rfl,by omega,by first|(rw [evL_len];omega)|(rw [idL_len];omega)⟩|exact ⟨by first|trivial|rfl,by first|trivial|rfl,by first|trivial|rfl|(simp;done),by (simp only [one_len];omega),by (simp only [one_len];omega),by simp [setAll,AV.nrm,nrms,nrm1,AV.flat,AV.cells,AV.one]⟩|exact ⟨by first|trivial|rfl,by first|trivial|rfl,by first|trivial|rfl|(first|(simp only [LV.l_of,LV.l,List.length_append,List.length_take,List.length_drop,List.length_nil,ids_len,List.length_map,setAll,List.length_set,List.length_replicate];done)|(simp only [LV.l_of,LV.l,List.length_append,List.length_take,List.length_drop,List.length_nil,ids_len,List.length_map,setAll,List.length_set,List.length_replicate];omega)),by (first|(simp only [LV.l_of,LV.l,List.length_append,List.length_take,List.length_drop,List.length_nil,ids_len,List.length_map,setAll,List.length_set,List.length_replicate];done)|(simp only [LV.l_of,LV.l,List.length_append,List.length_take,List.length_drop,List.length_nil,ids_len,List.length_map,setAll,List.length_set,List.length_replicate];omega)),by (first|(simp only [LV.l_of,LV.l,List.length_append,List.length_take,List.length_drop,List.length_nil,ids_len,List.length_map,setAll,List.length_set,List.length_replicate];done)|(simp only [LV.l_of,LV.l,List.length_append,List.length_take,List.length_drop,List.length_nil,ids_len,List.length_map,setAll,List.length_set,List.length_replicate];omega)),by first|(simp [setAll,AV.nrm,nrms,nrm1,AV.flat,AV.cells,AV.one];done)|exact fun v hv=>id_flat _ v (List.mem_of_mem_take (by simpa using hv))|exact fun v hv=>id_flat _ v (List.mem_of_mem_drop (List.mem_of_mem_take (by simpa using hv)))⟩));(try (simp only [nc] at *));(try simp (disch:=(first|omega|(simp only [lnS];omega))) only [rdT,rdS,tn1]);(try cbv))
    | fail
   )
   ·obtain ⟨z1,z2⟩:=hno fun h=>by (have h3:GOk H:=(by rw [hH];exact h.2.2);exact h_s (gcheck0 h3))
    rw [z1,z2]
    simp [is,evss,idss,LV.of,LV.l]
   ·obtain ⟨z1,z2⟩:=hyes ⟨hf,by rw [if_neg hw];assumption,by rw [←hH];exact gcheck_iff.1 h_s⟩
    rw [z1,z2,←hH]
    simp [hHi,hHt,hHf,hHo,hS1,hS2,hS3,hS5,hS6,hS7,hS8]
 ·rw [show fineM ((addS g t e d).init.length:Int) e=false by simpa [hinit] using hf] at kf
  refine E.c (SCalls.of_bare kf rfl ?_ ?_)
  ·cbv;simp [hinit,hS1,hS2,hS3,hS4,hS5,hS6,hS7,hS8]
  cbv
  repeat' (first
   |(refine ⟨fun _ h_s=>?_,fun _ h_s=>?_⟩<;>(cbv;(try simp only [nc] at *);try simp (disch:=(first|omega|(simp only [lnS];omega))) only [rdT,rdS,tn1,reduceCtorEq,trT] at h_s))
   |(refine hF ?_;intro _;clear hF)
   |(refine hF ?_;cbv;clear hF)
   |(refine ⟨fun _=>?_,?_⟩;(· ((try simp only [nc] at *);first|done|omega|exact ⟨by omega,rfl⟩|(simp (disch:=(first|omega|(simp only [lnS];omega))) only [rdT,rdS,tn1];first|done|omega|rfl|exact ⟨by omega,rfl⟩|(simp;done)|(simp;omega))|(intros;trivial)|exact ⟨by first|trivial|rfl,by omega,by first|(rw [evL_len];omega)|(rw [idL_len];omega)⟩|exact ⟨by first|trivial|rfl,by first|trivial|rfl,by first|trivial|rfl|(simp;done),by (simp only [one_len];omega),by (simp only [one_len];omega),by simp [setAll,AV.nrm,nrms,nrm1,AV.flat,AV.cells,AV.one]⟩|exact ⟨by first|trivial|rfl,by first|trivial|rfl,by first|trivial|rfl|(first|(simp only [LV.l_of,LV.l,List.length_append,List.length_take,List.length_drop,List.length_nil,ids_len,List.length_map,setAll,List.length_set,List.length_replicate];done)|(simp only [LV.l_of,LV.l,List.length_append,List.length_take,List.length_drop,List.length_nil,ids_len,List.length_map,setAll,List.length_set,List.length_replicate];omega)),by (first|(simp only [LV.l_of,LV.l,List.length_append,List.length_take,List.length_drop,List.length_nil,ids_len,List.length_map,setAll,List.length_set,List.length_replicate];done)|(simp only [LV.l_of,LV.l,List.length_append,List.length_take,List.length_drop,List.length_nil,ids_len,List.length_map,setAll,List.length_set,List.length_replicate];omega)),by (first|(simp only [LV.l_of,LV.l,List.length_append,List.length_take,List.length_drop,List.length_nil,ids_len,List.length_map,setAll,List.length_set,List.length_replicate];done)|(simp only [LV.l_of,LV.l,List.length_append,List.length_take,List.length_drop,List.length_nil,ids_len,List.length_map,setAll,List.length_set,List.length_replicate];omega)),by first|(simp [setAll,AV.nrm,nrms,nrm1,AV.flat,AV.cells,AV.one];done)|exact fun v hv=>id_flat _ v (List.mem_of_mem_take (by simpa using hv))|exact fun v hv=>id_flat _ v (List.mem_of_mem_drop (List.mem_of_mem_take (by simpa using hv)))⟩));(try (simp only [nc] at *));(try simp (disch:=(first|omega|(simp only [lnS];omega))) only [rdT,rdS,tn1]);(try cbv))
   | fail
  )
  obtain ⟨z1,z2⟩:=hno fun h=>hf h.1
  rw [z1,z2]
  simp [is,evss,idss,LV.of,LV.l]
theorem radd_ok (g:Gr) (hR:Rd g) (thread:Int) (e:Ev) (d:EId) (p:Int) :
  Pure Tryz.prog γ false 37 [aGr g,.i fun _=>thread,aEv e,aId d,.i fun _=>p] (.tup [aGr (addR g thread e d p),.i fun _=>addE g thread e d p]):=by
 have kc:=check14_ok (γ:=γ) g hR
 by_cases hg:GOk g
 ·have hs:=hg.short
  have hth:=hs.th
  by_cases h1:1≤thread∧thread≤(g.th.length:Nat)
  ·obtain ⟨t,ht⟩:∃ t:Nat,thread=(t:Int)+1:=⟨(thread-1).toNat,by omega⟩
   subst ht
   have ht:t<g.th.length:=by omega
   have e1:((t:Int)+1-1).toNat=t:=by omega
   by_cases hl:(g.th.getD t []).length=14
   ·have ee:addE g ((t:Int)+1) e d p=3:=by unfold addE;rw [if_pos hg,if_pos h1,e1,if_pos hl]
    have er:addR g ((t:Int)+1) e d p=⟨[],[],[],[]⟩:=by unfold addR;rw [ee];rfl
    rw [ee,er]
    rw [gcheck0 hg] at kc
    refine Pure.go (ty:=ty) ty_eq mo Tryz.func37 rfl Tryz.ntmps37 Tryz.results37 Tryz.call37 (by simp) fun P C CQ D W F E hF=>?_
    cbv
    repeat' (first
     |(refine E.c (SCalls.of_le (kc) ?_ ?_);(· (cbv;(try simp only [nc] at *);first|done|(simp;done)|(simp (disch:=(first|omega|(simp only [lnS];omega))) only [rdT,rdS,tn1,anT];first|done|omega|(refine ⟨?_,?_⟩<;>omega))|(simp (disch:=(first|omega|(simp only [lnS];omega))) [rdT,rdS,tn1];done)));cbv)
     |(refine ⟨fun _ h_s=>?_,fun _ h_s=>?_⟩<;>(cbv;(try simp only [nc] at *);try simp (disch:=(first|omega|(simp only [lnS];omega))) only [rdT,rdS,tn1,reduceCtorEq,trT] at h_s))
     |(refine hF ?_;intro _;clear hF)
     |(refine hF ?_;cbv;clear hF)
     |(refine ⟨fun _=>?_,?_⟩;(· ((try simp only [nc] at *);first|done|omega|exact ⟨by omega,rfl⟩|(simp (disch:=(first|omega|(simp only [lnS];omega))) only [rdT,rdS,tn1];first|done|omega|rfl|exact ⟨by omega,rfl⟩|(simp;done)|(simp;omega))|(intros;trivial)|exact ⟨by first|trivial|rfl,by omega,by first|(rw [evL_len];omega)|(rw [idL_len];omega)⟩|exact ⟨by first|trivial|rfl,by first|trivial|rfl,by first|trivial|rfl|(simp;done),by (simp only [one_len];omega),by (simp only [one_len];omega),by simp [setAll,AV.nrm,nrms,nrm1,AV.flat,AV.cells,AV.one]⟩|exact ⟨by first|trivial|rfl,by first|trivial|rfl,by first|trivial|rfl|(first|(simp only [LV.l_of,LV.l,List.length_append,List.length_take,List.length_drop,List.length_nil,ids_len,List.length_map,setAll,List.length_set,List.length_replicate];done)|(simp only [LV.l_of,LV.l,List.length_append,List.length_take,List.length_drop,List.length_nil,ids_len,List.length_map,setAll,List.length_set,List.length_replicate];omega)),by (first|(simp only [LV.l_of,LV.l,List.length_append,List.length_take,List.length_drop,List.length_nil,ids_len,List.length_map,setAll,List.length_set,List.length_replicate];done)|(simp only [LV.l_of,LV.l,List.length_append,List.length_take,List.length_drop,List.length_nil,ids_len,List.length_map,setAll,List.length_set,List.length_replicate];omega)),by (first|(simp only [LV.l_of,LV.l,List.length_append,List.length_take,List.length_drop,List.length_nil,ids_len,List.length_map,setAll,List.length_set,List.length_replicate];done)|(simp only [LV.l_of,LV.l,List.length_append,List.length_take,List.length_drop,List.length_nil,ids_len,List.length_map,setAll,List.length_set,List.length_replicate];omega)),by first|(simp [setAll,AV.nrm,nrms,nrm1,AV.flat,AV.cells,AV.one];done)|exact fun v hv=>id_flat _ v (List.mem_of_mem_take (by simpa using hv))|exact fun v hv=>id_flat _ v (List.mem_of_mem_drop (List.mem_of_mem_take (by simpa using hv)))⟩));(try (simp only [nc] at *));(try simp (disch:=(first|omega|(simp only [lnS];omega))) only [rdT,rdS,tn1]);(try cbv))
     | fail
    )
    all_goals first
     | (exfalso;revert h_s;simp;done)
     | (exfalso;((try simp only [nc] at *);omega))
     | (simp [is,evss,idss,LV.of,LV.l];done)
     | (exfalso;rw [hl] at h_s;simp at h_s;done)
   ·have ee:addE g ((t:Int)+1) e d p=if addC g t e d p then 0 else 2:=by unfold addE;rw [if_pos hg,if_pos h1,e1,if_neg hl]
    have er:addR g ((t:Int)+1) e d p=if addC g t e d p then addG g t e d p else ⟨[],[],[],[]⟩:=by
     unfold addR;rw [ee,e1]
     by_cases hc:addC g t e d p
     ·rw [if_pos hc,if_pos hc,if_pos rfl]
     ·rw [if_neg hc,if_neg hc,if_neg (by omega)]
    rw [ee,er]
    exact radd_main g hg t ht hl e d p
  ·have ee:addE g thread e d p=9:=by unfold addE;rw [if_pos hg,if_neg h1]
   have er:addR g thread e d p=⟨[],[],[],[]⟩:=by unfold addR;rw [ee];rfl
   rw [ee,er]
   rw [gcheck0 hg] at kc
   refine Pure.go (ty:=ty) ty_eq mo Tryz.func37 rfl Tryz.ntmps37 Tryz.results37 Tryz.call37 (by simp) fun P C CQ D W F E hF=>?_
   cbv
   repeat' (first
    |(refine E.c (SCalls.of_le (kc) ?_ ?_);(· (cbv;(try simp only [nc] at *);first|done|(simp;done)|(simp (disch:=(first|omega|(simp only [lnS];omega))) only [rdT,rdS,tn1,anT];first|done|omega|(refine ⟨?_,?_⟩<;>omega))|(simp (disch:=(first|omega|(simp only [lnS];omega))) [rdT,rdS,tn1];done)));cbv)
    |(refine ⟨fun _ h_s=>?_,fun _ h_s=>?_⟩<;>(cbv;(try simp only [nc] at *);try simp (disch:=(first|omega|(simp only [lnS];omega))) only [rdT,rdS,tn1,reduceCtorEq,trT] at h_s))
    |(refine hF ?_;intro _;clear hF)
    |(refine hF ?_;cbv;clear hF)
    |(refine ⟨fun _=>?_,?_⟩;(· ((try simp only [nc] at *);first|done|omega|exact ⟨by omega,rfl⟩|(simp (disch:=(first|omega|(simp only [lnS];omega))) only [rdT,rdS,tn1];first|done|omega|rfl|exact ⟨by omega,rfl⟩|(simp;done)|(simp;omega))|(intros;trivial)|exact ⟨by first|trivial|rfl,by omega,by first|(rw [evL_len];omega)|(rw [idL_len];omega)⟩|exact ⟨by first|trivial|rfl,by first|trivial|rfl,by first|trivial|rfl|(simp;done),by (simp only [one_len];omega),by (simp only [one_len];omega),by simp [setAll,AV.nrm,nrms,nrm1,AV.flat,AV.cells,AV.one]⟩|exact ⟨by first|trivial|rfl,by first|trivial|rfl,by first|trivial|rfl|(first|(simp only [LV.l_of,LV.l,List.length_append,List.length_take,List.length_drop,List.length_nil,ids_len,List.length_map,setAll,List.length_set,List.length_replicate];done)|(simp only [LV.l_of,LV.l,List.length_append,List.length_take,List.length_drop,List.length_nil,ids_len,List.length_map,setAll,List.length_set,List.length_replicate];omega)),by (first|(simp only [LV.l_of,LV.l,List.length_append,List.length_take,List.length_drop,List.length_nil,ids_len,List.length_map,setAll,List.length_set,List.length_replicate];done)|(simp only [LV.l_of,LV.l,List.length_append,List.length_take,List.length_drop,List.length_nil,ids_len,List.length_map,setAll,List.length_set,List.length_replicate];omega)),by (first|(simp only [LV.l_of,LV.l,List.length_append,List.length_take,List.length_drop,List.length_nil,ids_len,List.length_map,setAll,List.length_set,List.length_replicate];done)|(simp only [LV.l_of,LV.l,List.length_append,List.length_take,List.length_drop,List.length_nil,ids_len,List.length_map,setAll,List.length_set,List.length_replicate];omega)),by first|(simp [setAll,AV.nrm,nrms,nrm1,AV.flat,AV.cells,AV.one];done)|exact fun v hv=>id_flat _ v (List.mem_of_mem_take (by simpa using hv))|exact fun v hv=>id_flat _ v (List.mem_of_mem_drop (List.mem_of_mem_take (by simpa using hv)))⟩));(try (simp only [nc] at *));(try simp (disch:=(first|omega|(simp only [lnS];omega))) only [rdT,rdS,tn1]);(try cbv))
    | fail
   )
   all_goals first
    | (exfalso;revert h_s;simp;done)
    | (simp [is,evss,idss,LV.of,LV.l];done)
    | (exfalso;((try simp only [nc] at *);omega))
    | (exfalso;exact h1 (by ((try simp only [nc] at *);omega)))
 ·have ee:addE g thread e d p=2:=by unfold addE;rw [if_neg hg]
  have er:addR g thread e d p=⟨[],[],[],[]⟩:=by unfold addR;rw [ee];rfl
  rw [ee,er]
  have hc:gcheckM g≠0:=fun h=>hg (gcheck_iff.1 h)
  refine Pure.go (ty:=ty) ty_eq mo Tryz.func37 rfl Tryz.ntmps37 Tryz.results37 Tryz.call37 (by simp) fun P C CQ D W F E hF=>?_
  cbv
  repeat' (first
   |(refine E.c (SCalls.of_le (kc) ?_ ?_);(· (cbv;(try simp only [nc] at *);first|done|(simp;done)|(simp (disch:=(first|omega|(simp only [lnS];omega))) only [rdT,rdS,tn1,anT];first|done|omega|(refine ⟨?_,?_⟩<;>omega))|(simp (disch:=(first|omega|(simp only [lnS];omega))) [rdT,rdS,tn1];done)));cbv)
   |(refine ⟨fun _ h_s=>?_,fun _ h_s=>?_⟩<;>(cbv;(try simp only [nc] at *);try simp (disch:=(first|omega|(simp only [lnS];omega))) only [rdT,rdS,tn1,reduceCtorEq,trT] at h_s))
   |(refine hF ?_;intro _;clear hF)
   |(refine hF ?_;cbv;clear hF)
   |(refine ⟨fun _=>?_,?_⟩;(· ((try simp only [nc] at *);first|done|omega|exact ⟨by omega,rfl⟩|(simp (disch:=(first|omega|(simp only [lnS];omega))) only [rdT,rdS,tn1];first|done|omega|rfl|exact ⟨by omega,rfl⟩|(simp;done)|(simp;omega))|(intros;trivial)|exact ⟨by first|trivial|rfl,by omega,by first|(rw [evL_len];omega)|(rw [idL_len];omega)⟩|exact ⟨by first|trivial|rfl,by first|trivial|rfl,by first|trivial|rfl|(simp;done),by (simp only [one_len];omega),by (simp only [one_len];omega),by simp [setAll,AV.nrm,nrms,nrm1,AV.flat,AV.cells,AV.one]⟩|exact ⟨by first|trivial|rfl,by first|trivial|rfl,by first|trivial|rfl|(first|(simp only [LV.l_of,LV.l,List.length_append,List.length_take,List.length_drop,List.length_nil,ids_len,List.length_map,setAll,List.length_set,List.length_replicate];done)|(simp only [LV.l_of,LV.l,List.length_append,List.length_take,List.length_drop,List.length_nil,ids_len,List.length_map,setAll,List.length_set,List.length_replicate];omega)),by (first|(simp only [LV.l_of,LV.l,List.length_append,List.length_take,List.length_drop,List.length_nil,ids_len,List.length_map,setAll,List.length_set,List.length_replicate];done)|(simp only [LV.l_of,LV.l,List.length_append,List.length_take,List.length_drop,List.length_nil,ids_len,List.length_map,setAll,List.length_set,List.length_replicate];omega)),by (first|(simp only [LV.l_of,LV.l,List.length_append,List.length_take,List.length_drop,List.length_nil,ids_len,List.length_map,setAll,List.length_set,List.length_replicate];done)|(simp only [LV.l_of,LV.l,List.length_append,List.length_take,List.length_drop,List.length_nil,ids_len,List.length_map,setAll,List.length_set,List.length_replicate];omega)),by first|(simp [setAll,AV.nrm,nrms,nrm1,AV.flat,AV.cells,AV.one];done)|exact fun v hv=>id_flat _ v (List.mem_of_mem_take (by simpa using hv))|exact fun v hv=>id_flat _ v (List.mem_of_mem_drop (List.mem_of_mem_take (by simpa using hv)))⟩));(try (simp only [nc] at *));(try simp (disch:=(first|omega|(simp only [lnS];omega))) only [rdT,rdS,tn1]);(try cbv))
   | fail
  )
  all_goals first
   | (simp [is,evss,idss,LV.of,LV.l];done)
   | (exfalso;exact hc h_s)
   | (exfalso;((try simp only [nc] at *);omega))
end Go.AL.Rl
namespace Go.AL.Rl
open Go Go.AL Go.Proofs
set_option maxRecDepth 100000
set_option maxHeartbeats 3200000
section
variable {g:Gr} {l:List EId} (hg:GOk g) (hC:ClG g l)
include hg hC
end
end Go.AL.Rl
namespace Go.AL.Rl
open Go Go.AL Go.Proofs
set_option maxRecDepth 100000
set_option maxHeartbeats 1600000
structure Tail (V U:Vw) (n m:Nat) (f:Nat→Nat) (N:Nat):Prop where
 cov:∀ a<m,(∃ i<n,a=f i)∨a=N
 nim:∀ i<n,f i≠N
 po:∀ b<m,poM U N b=false
 rf:∀ b<m,U.fr.getD b 0≠(N:Nat)
 frn:∀ i<n,V.fr.getD i 0<0→U.fr.getD (f i) 0<0
 pln:∀ i<n,0≤U.pl.getD (f i) 0→0≤V.pl.getD i 0
 plu:∀ i<n,∀ j<n,nearM V i j=true→0≤V.pl.getD i 0→V.pl.getD i 0=V.pl.getD j 0→i=j
 plh:∀ i<n,∀ j<n,nearM V i j=true→0≤V.pl.getD i 0→0≤U.pl.getD (f j) 0→0≤V.pl.getD j 0
section
variable {V U:Vw} {n m:Nat} {f:Nat→Nat} {N:Nat} (E:Emb V U n m f) (Y:Tail V U n m f N) (hV:Wf V n) (hU:Wf U m)
include E Y
include hV
include hU
end
end Go.AL.Rl
namespace Go.AL.Rl
open Go Go.AL Go.Proofs
set_option maxRecDepth 100000
set_option maxHeartbeats 1600000
theorem getD_set' {α:Type} (l:List α) (i j:Nat) (x d:α) (hi:i<l.length):(l.set i x).getD j d=if j=i then x else l.getD j d:=by
 rw [List.getD_eq_getElem?_getD,List.getElem?_set,List.getD_eq_getElem?_getD]
 by_cases e:i=j
 ·subst e;simp [hi]
 ·rw [if_neg e,if_neg fun h=>e h.symm]
section
variable {g:Gr} {t:Nat} {e:Ev} {d:EId} {p:Int} (hg:GOk g) (ht:t<g.th.length) (hh:GOk (addG g t e d p))
include ht
include hg
include hh
end
end Go.AL.Rl
namespace Go.AL.Rl
open Go Go.AL Go.Proofs
set_option maxRecDepth 100000
set_option maxHeartbeats 3200000
variable {γ:Nat→Option AV}
end Go.AL.Rl
namespace Go.AL.Rl
open Go Go.AL Go.Proofs
set_option maxRecDepth 100000
set_option maxHeartbeats 3200000
variable {γ:Nat→Option AV}
section
variable {g:Gr} {t:Nat} {e:Ev} {d:EId} {p:Int} (hg:GOk g) (ht:t<g.th.length) (hh:GOk (addG g t e d p)) {x y:Nat} (hx:x<nG g) (hy:y<nG g)
include hg ht hh hx hy
end
end Go.AL.Rl
namespace Go.AL.Rl
open Go Go.AL Go.Proofs
set_option maxRecDepth 100000
set_option maxHeartbeats 1600000
structure Wke (a b:Ev):Prop where
 kind:b.kind=a.kind
 loc:b.loc=a.loc
 rd:b.rd=a.rd
 wr:b.wr=a.wr
 ord:1≤a.order→a.order≤6→1≤b.order∧b.order≤6
 acq:acqM b=true→acqM a=true
 rel:relM b=true→relM a=true
 na:b.order≠1→a.order≠1
structure Wk (g h:Gr):Prop where
 init:h.init=g.init
 fr:h.fr=g.fr
 ord:h.ord=g.ord
 len:h.th.length=g.th.length
 lens:∀ t,(h.th.getD t []).length=(g.th.getD t []).length
 evs:∀ t i,Wke ((g.th.getD t []).getD i ev0) ((h.th.getD t []).getD i ev0)
section
variable {g h:Gr} (W:Wk g h)
include W
end
end Go.AL.Rl
namespace Go.AL.Rl
open Go Go.AL Go.Proofs
set_option maxRecDepth 100000
set_option maxHeartbeats 1600000
variable {γ:Nat→Option AV}
abbrev aFc (g:Gr) (n:Int) (po rf co fr eco porf loc sw hb:List (BitVec 64)):AV:=
 .agg [.vs 1 fun _=>is g.init,.vs 1 fun _=>evss g.th,.vs 1 fun _=>idss g.fr,.vs 1 fun _=>idss g.ord,.i fun _=>n,.vs 1 fun _=>us po,.i fun _=>n,.vs 1 fun _=>us rf,.i fun _=>n,.vs 1 fun _=>us co,.i fun _=>n,.vs 1 fun _=>us fr,.i fun _=>n,.vs 1 fun _=>us eco,.i fun _=>n,.vs 1 fun _=>us porf,.i fun _=>n,.vs 1 fun _=>us loc,.i fun _=>n,.vs 1 fun _=>us sw,.i fun _=>n,.vs 1 fun _=>us hb]
theorem known_ok (m:Int):Pure Tryz.prog γ false 25 [.i fun _=>m] (.b fun _=>decide (m=1∨m=2)):=by
 refine Pure.go (ty:=ty) ty_eq mo Tryz.func25 rfl Tryz.ntmps25 Tryz.results25 Tryz.call25 (by simp) fun P C CQ D W F E hF=>?_
 cbv
 repeat' (first
  |(refine ⟨fun _ h_s=>?_,fun _ h_s=>?_⟩<;>(cbv;(try simp only [nc] at *);try simp (disch:=(first|omega|(simp only [lnS];omega))) only [rdT,rdS,reduceCtorEq,trT] at h_s))
  |(refine hF ?_;intro _;clear hF)
  |(refine hF ?_;cbv;clear hF)
  |(refine ⟨fun _=>?_,?_⟩;(· ((try simp only [nc] at *);first|done|omega|exact ⟨by omega,rfl⟩|(simp (disch:=(first|omega|(simp only [lnS];omega))) only [rdT,rdS];first|done|omega|rfl|exact ⟨by omega,rfl⟩|(simp;done)|(simp;omega))|(intros;trivial)));(try (simp only [nc] at *));(try simp (disch:=(first|omega|(simp only [lnS];omega))) only [rdT,rdS]);(try cbv))
  | fail
 )
 all_goals simp_all
theorem rules_yes1:Pure Tryz.prog γ false 29 [.i fun _=>1] (.vs 1 fun _=>is [1,2,6]):=by
 refine Pure.go (ty:=ty) ty_eq mo Tryz.func29 rfl Tryz.ntmps29 Tryz.results29 Tryz.call29 (by simp) fun P C CQ D W F E hF=>?_
 cbv
 repeat' (first
  |(refine ⟨fun _ h_s=>?_,fun _ h_s=>?_⟩<;>(cbv;(try simp only [nc] at *);try simp (disch:=(first|omega|(simp only [lnS];omega))) only [rdT,rdS,reduceCtorEq,trT] at h_s))
  |(refine hF ?_;intro _;clear hF)
  |(refine hF ?_;cbv;clear hF)
  |(refine ⟨fun _=>?_,?_⟩;(· ((try simp only [nc] at *);first|done|omega|exact ⟨by omega,rfl⟩|(simp (disch:=(first|omega|(simp only [lnS];omega))) only [rdT,rdS];first|done|omega|rfl|exact ⟨by omega,rfl⟩|(simp;done)|(simp;omega))|(intros;trivial)));(try (simp only [nc] at *));(try simp (disch:=(first|omega|(simp only [lnS];omega))) only [rdT,rdS]);(try cbv))
  | fail
 )
 all_goals simp_all [is,setAll,LV.of,AV.nrm]
theorem rules_yes2:Pure Tryz.prog γ false 29 [.i fun _=>2] (.vs 1 fun _=>is [1,2,3,4,5]):=by
 refine Pure.go (ty:=ty) ty_eq mo Tryz.func29 rfl Tryz.ntmps29 Tryz.results29 Tryz.call29 (by simp) fun P C CQ D W F E hF=>?_
 cbv
 repeat' (first
  |(refine ⟨fun _ h_s=>?_,fun _ h_s=>?_⟩<;>(cbv;(try simp only [nc] at *);try simp (disch:=(first|omega|(simp only [lnS];omega))) only [rdT,rdS,reduceCtorEq,trT] at h_s))
  |(refine hF ?_;intro _;clear hF)
  |(refine hF ?_;cbv;clear hF)
  |(refine ⟨fun _=>?_,?_⟩;(· ((try simp only [nc] at *);first|done|omega|exact ⟨by omega,rfl⟩|(simp (disch:=(first|omega|(simp only [lnS];omega))) only [rdT,rdS];first|done|omega|rfl|exact ⟨by omega,rfl⟩|(simp;done)|(simp;omega))|(intros;trivial)));(try (simp only [nc] at *));(try simp (disch:=(first|omega|(simp only [lnS];omega))) only [rdT,rdS]);(try cbv))
  | fail
 )
 all_goals simp_all [is,setAll,LV.of,AV.nrm]
def gB:Gr:=⟨[0,0],[[⟨2,0,5,0,1⟩,⟨1,1,5,0,0⟩],[⟨2,1,5,0,1⟩,⟨1,0,5,0,0⟩]],[[⟨0,0⟩,⟨0,1⟩],[⟨0,0⟩,⟨0,0⟩]],[[⟨1,0⟩],[⟨2,0⟩]]⟩
theorem ar_ok (k l w:Int):Pure Tryz.prog γ false 26 [.i fun _=>k,.i fun _=>l,.i fun _=>w] (aEv ⟨k,l,5,0,w⟩):=by
 refine Pure.go (ty:=ty) ty_eq mo Tryz.func26 rfl Tryz.ntmps26 Tryz.results26 Tryz.call26 (by simp) fun P C CQ D W F E hF=>?_
 cbv
 repeat' (first
  |(refine ⟨fun _ h_s=>?_,fun _ h_s=>?_⟩<;>(cbv;(try simp only [nc] at *);try simp (disch:=(first|omega|(simp only [lnS];omega))) only [rdT,rdS,reduceCtorEq,trT] at h_s))
  |(refine hF ?_;intro _;clear hF)
  |(refine hF ?_;cbv;clear hF)
  |(refine ⟨fun _=>?_,?_⟩;(· ((try simp only [nc] at *);first|done|omega|exact ⟨by omega,rfl⟩|(simp (disch:=(first|omega|(simp only [lnS];omega))) only [rdT,rdS];first|done|omega|rfl|exact ⟨by omega,rfl⟩|(simp;done)|(simp;omega))|(intros;trivial)));(try (simp only [nc] at *));(try simp (disch:=(first|omega|(simp only [lnS];omega))) only [rdT,rdS]);(try cbv))
  | fail
 )
 all_goals (try simp only [nc] at *)
 all_goals (try simp (disch:=(first|omega|(simp only [lnS];omega))) only [rdT,rdS])
theorem buffers_ok:Pure Tryz.prog γ false 13 [] (aGr gB):=by
 refine Pure.go (ty:=ty) ty_eq mo Tryz.func13 rfl Tryz.ntmps13 Tryz.results13 Tryz.call13 (by simp) fun P C CQ D W F E hF=>?_
 cbv
 repeat' (first
  |(refine E.c (SCalls.of_le (ar_ok 1 0 0) ?_ ?_);(· (cbv;(try simp only [nc] at *);first|done|(simp;done)|(simp (disch:=(first|omega|(simp only [lnS];omega))) only [rdT,rdS,anT];first|done|omega|(refine ⟨?_,?_⟩<;>omega))|(simp (disch:=(first|omega|(simp only [lnS];omega))) [rdT,rdS];done)));cbv)
  |(refine E.c (SCalls.of_le (ar_ok 2 1 1) ?_ ?_);(· (cbv;(try simp only [nc] at *);first|done|(simp;done)|(simp (disch:=(first|omega|(simp only [lnS];omega))) only [rdT,rdS,anT];first|done|omega|(refine ⟨?_,?_⟩<;>omega))|(simp (disch:=(first|omega|(simp only [lnS];omega))) [rdT,rdS];done)));cbv)
  |(refine E.c (SCalls.of_le (ar_ok 1 1 0) ?_ ?_);(· (cbv;(try simp only [nc] at *);first|done|(simp;done)|(simp (disch:=(first|omega|(simp only [lnS];omega))) only [rdT,rdS,anT];first|done|omega|(refine ⟨?_,?_⟩<;>omega))|(simp (disch:=(first|omega|(simp only [lnS];omega))) [rdT,rdS];done)));cbv)
  |(refine E.c (SCalls.of_le (ar_ok 2 0 1) ?_ ?_);(· (cbv;(try simp only [nc] at *);first|done|(simp;done)|(simp (disch:=(first|omega|(simp only [lnS];omega))) only [rdT,rdS,anT];first|done|omega|(refine ⟨?_,?_⟩<;>omega))|(simp (disch:=(first|omega|(simp only [lnS];omega))) [rdT,rdS];done)));cbv)
  |(refine ⟨fun _ h_s=>?_,fun _ h_s=>?_⟩<;>(cbv;(try simp only [nc] at *);try simp (disch:=(first|omega|(simp only [lnS];omega))) only [rdT,rdS,reduceCtorEq,trT] at h_s))
  |(refine hF ?_;intro _;clear hF)
  |(refine hF ?_;cbv;clear hF)
  |(refine ⟨fun _=>?_,?_⟩;(· ((try simp only [nc] at *);first|done|omega|exact ⟨by omega,rfl⟩|(simp (disch:=(first|omega|(simp only [lnS];omega))) only [rdT,rdS];first|done|omega|rfl|exact ⟨by omega,rfl⟩|(simp;done)|(simp;omega))|(intros;trivial)));(try (simp only [nc] at *));(try simp (disch:=(first|omega|(simp only [lnS];omega))) only [rdT,rdS]);(try cbv))
  | fail
 )
theorem circle_ok (n:Int) (rows:List (BitVec 64)) (hl:rows.length≤64):Pure Tryz.prog γ false 42 [encRel n rows] (aFt (circF rows)):=by
 refine Pure.go (ty:=ty) ty_eq mo Tryz.func42 rfl Tryz.ntmps42 Tryz.results42 Tryz.call42 (by simp) fun P C CQ D W F E hF=>?_
 cbv
 repeat' (first
  |(refine ⟨fun _ h_s=>?_,fun _ h_s=>?_⟩<;>(cbv;(try simp only [nc] at *);try simp (disch:=(first|omega|(simp only [lnS];omega))) only [rdT,rdS,reduceCtorEq,trT] at h_s))
  |(refine hF ?_;intro _;clear hF)
  |(refine hF ?_;cbv;clear hF)
  |(refine ⟨fun _=>?_,?_⟩;(· ((try simp only [nc] at *);first|done|omega|exact ⟨by omega,rfl⟩|(simp (disch:=(first|omega|(simp only [lnS];omega))) only [rdT,rdS];first|done|omega|rfl|exact ⟨by omega,rfl⟩|(simp;done)|(simp;omega))|(intros;trivial)));(try (simp only [nc] at *));(try simp (disch:=(first|omega|(simp only [lnS];omega))) only [rdT,rdS]);(try cbv))
  | fail
 )
 refine E.loopS (ι:=Nat) (fun i=>i≤rows.length∧(∀ k<i,bit rows k k=false)) (fun i=>rows.length-i) (fun i=>[(8,.i fun _=>((i:Nat):Int))]) (fun i h=>h) 0 (fun _=>by first|rfl|simp) ⟨Nat.zero_le _,?_⟩ ?_ fun i hi I hI=>?_
 ·intro k hk;omega
 ·cbv;simp
 cbv
 obtain ⟨hi,hp⟩:=hi
 have hb:bit rows i i=(!decide ((rows.getD i 0 >>> i) &&& 1#64=0#64)):=(getLsb_and1 _ _).symm
 have hbi:=bofInt (k:=i) (by omega)
 repeat' (first
  |(refine hI (i+1) ?_ ?_ ?_;rotate_left 1;(· ((try simp only [nc] at *);omega));(cbv;clear hI;(try clear hF);(try simp only [nc] at *);(try simp (disch:=(first|omega|(simp only [lnS];omega))) only [rdT,rdS,anT]));rotate_left 1;(try ((try simp only [nc] at *);omega)))
  |(refine ⟨fun _ h_s=>?_,fun _ h_s=>?_⟩<;>(cbv;(try simp only [nc] at *);try simp (disch:=(first|omega|(simp only [lnS];omega))) only [rdT,rdS,reduceCtorEq,trT] at h_s))
  |(refine hF ?_;intro _;clear hF)
  |(refine hF ?_;cbv;clear hF)
  |(refine ⟨fun _=>?_,?_⟩;(· ((try simp only [nc] at *);first|done|omega|exact ⟨by omega,rfl⟩|(simp (disch:=(first|omega|(simp only [lnS];omega))) only [rdT,rdS];first|done|omega|rfl|exact ⟨by omega,rfl⟩|(simp;done)|(simp;omega))|(intros;trivial)));(try (simp only [nc] at *));(try simp (disch:=(first|omega|(simp only [lnS];omega))) only [rdT,rdS]);(try cbv))
  | fail
 )
 ·have hbt:bit rows i i=true:=by rw [hb];simpa using h_s
  rw [circF_at (by ((try simp only [nc] at *);omega)) hbt hp]
  exact ⟨fun _=>rfl,fun _=>rfl,fun _=>rfl,trivial⟩
 ·refine ⟨by ((try simp only [nc] at *);omega),fun k hk=>?_⟩
  rcases Nat.lt_or_ge k i with h1 | h1
  ·exact hp k h1
  ·obtain rfl:k=i:=by omega
   rw [hb];simpa using h_s
 ·push_cast;rfl
 ·have e:i=rows.length:=by ((try simp only [nc] at *);omega)
  subst e
  rw [circF_no hp]
  exact ⟨fun _=>rfl,fun _=>rfl,fun _=>rfl,trivial⟩
theorem index_at (l:List EId) (d:EId) (hl:(l.length:Int)≤9223372036854775807) (k0:Nat) (hk0:k0<l.length) (hd:l.getD k0 id0=d) (hb:∀ k<k0,l.getD k id0≠d):Pure Tryz.prog γ false 112 [.vs 2 fun _=>ids l,aId d] (.i fun _=>(k0:Int)):=by
 refine Pure.go (ty:=ty) ty_eq mo Tryz.func112 rfl Tryz.ntmps112 Tryz.results112 Tryz.call112 (by simp) fun P C CQ D W F E hF=>?_
 cbv
 repeat' (first
  |(refine ⟨fun _ h_s=>?_,fun _ h_s=>?_⟩<;>(cbv;(try simp only [nc] at *);try simp (disch:=(first|omega|(simp only [lnS];omega))) only [rdT,rdS,reduceCtorEq,trT] at h_s))
  |(refine hF ?_;intro _;clear hF)
  |(refine hF ?_;cbv;clear hF)
  |(refine ⟨fun _=>?_,?_⟩;(· ((try simp only [nc] at *);first|done|omega|exact ⟨by omega,rfl⟩|(simp (disch:=(first|omega|(simp only [lnS];omega))) only [rdT,rdS];first|done|omega|rfl|exact ⟨by omega,rfl⟩|(simp;done)|(simp;omega))|(intros;trivial)));(try (simp only [nc] at *));(try simp (disch:=(first|omega|(simp only [lnS];omega))) only [rdT,rdS]);(try cbv))
  |(refine E.d 5 (by decide +kernel) ?_;cbv;(fail_if_success guard_target =~ False))
  | fail
 )
 refine E.loopS (ι:=Nat) (fun i=>i≤l.length∧(i≤k0)) (fun i=>l.length-i) (fun i=>[(8,.i fun _=>((i:Nat):Int))]) (fun i h=>h) 0 (fun _=>by first|rfl|simp) ⟨Nat.zero_le _,?_⟩ ?_ fun i hi I hI=>?_
 ·omega
 ·cbv;simp
 cbv
 obtain ⟨hi,hp⟩:=hi
 repeat' (first
  |(refine hI (i+1) ?_ ?_ ?_;rotate_left 1;(· ((try simp only [nc] at *);omega));(cbv;clear hI;(try clear hF);(try simp only [nc] at *);(try simp (disch:=(first|omega|(simp only [lnS];omega))) only [rdT,rdS,anT]));rotate_left 1;(try ((try simp only [nc] at *);omega)))
  |(refine ⟨fun _ h_s=>?_,fun _ h_s=>?_⟩<;>(cbv;(try simp only [nc] at *);try simp (disch:=(first|omega|(simp only [lnS];omega))) only [rdT,rdS,reduceCtorEq,trT] at h_s))
  |(refine hF ?_;intro _;clear hF)
  |(refine hF ?_;cbv;clear hF)
  |(refine ⟨fun _=>?_,?_⟩;(· ((try simp only [nc] at *);first|done|omega|exact ⟨by omega,rfl⟩|(simp (disch:=(first|omega|(simp only [lnS];omega))) only [rdT,rdS];first|done|omega|rfl|exact ⟨by omega,rfl⟩|(simp;done)|(simp;omega))|(intros;trivial)));(try (simp only [nc] at *));(try simp (disch:=(first|omega|(simp only [lnS];omega))) only [rdT,rdS]);(try cbv))
  |(refine E.d 5 (by decide +kernel) ?_;cbv;(fail_if_success guard_target =~ False))
  | fail
 )
 ·simp only [Bool.and_true,Bool.and_eq_true,decide_eq_true_eq] at h_s
  have he:l.getD i id0=d:=(EId.ext' h_s.1 h_s.2).symm
  have e:i=k0:=by
   rcases Nat.lt_or_ge i k0 with h1 | h1
   ·exact absurd he (hb i h1)
   ·omega
  subst e;rfl
 ·refine ⟨by ((try simp only [nc] at *);omega),?_⟩
  rcases Nat.lt_or_ge i k0 with h1 | h1
  ·omega
  ·exfalso
   obtain rfl:i=k0:=by omega
   rw [hd] at h_s
   simp at h_s
 ·push_cast;rfl
 ·exfalso;((try simp only [nc] at *);omega)
end Go.AL.Rl
namespace Go.AL.Rl
open Go Go.AL Go.Proofs
set_option maxRecDepth 100000
set_option maxHeartbeats 3200000
variable {γ:Nat→Option AV}
theorem place_at (g:Gr) (hg:Rd g) (loc:Int) (d:EId) (p:Int)
  (hp:(d.t=0∧p=0)∨(d.t≠0∧0≤loc∧loc<g.ord.length∧∃ k0:Nat,p=k0+1∧k0<(g.ord.getD loc.toNat []).length∧(g.ord.getD loc.toNat []).getD k0 id0=d∧∀ k<k0,(g.ord.getD loc.toNat []).getD k id0≠d)) :
  Pure Tryz.prog γ false 71 [aGr g,.i fun _=>loc,aId d] (.i fun _=>p):=by
 have hor:=hg.ord
 have hord:=ordsAt hg loc.toNat
 rcases hp with ⟨h0,hp⟩ | ⟨h0,h1,h2,k0,h3,h4,h5,h6⟩
 ·subst hp
  refine Pure.go (ty:=ty) ty_eq mo Tryz.func71 rfl Tryz.ntmps71 Tryz.results71 Tryz.call71 (by simp) fun P C CQ D W F E hF=>?_
  cbv
  repeat' (first
   |(refine ⟨fun _ h_s=>?_,fun _ h_s=>?_⟩<;>(cbv;(try simp only [nc] at *);try simp (disch:=(first|omega|(simp only [lnS];omega))) only [rdT,rdS,reduceCtorEq,trT] at h_s))
   |(refine hF ?_;intro _;clear hF)
   |(refine hF ?_;cbv;clear hF)
   |(refine ⟨fun _=>?_,?_⟩;(· ((try simp only [nc] at *);first|done|omega|exact ⟨by omega,rfl⟩|(simp (disch:=(first|omega|(simp only [lnS];omega))) only [rdT,rdS];first|done|omega|rfl|exact ⟨by omega,rfl⟩|(simp;done)|(simp;omega))|(intros;trivial)));(try (simp only [nc] at *));(try simp (disch:=(first|omega|(simp only [lnS];omega))) only [rdT,rdS]);(try cbv))
   |(refine E.d 6 (by decide +kernel) ?_;cbv;(fail_if_success guard_target =~ False))
   | fail
  )
  all_goals simp_all
 ·have kx:=index_at (γ:=γ) (g.ord.getD loc.toNat []) d hord k0 h4 h5 h6
  obtain ⟨l,hl⟩:∃ l,l=g.ord.getD loc.toNat []:=⟨_,rfl⟩
  rw [←hl] at kx h4 hord
  clear h5 h6
  refine Pure.go (ty:=ty) ty_eq mo Tryz.func71 rfl Tryz.ntmps71 Tryz.results71 Tryz.call71 (by simp) fun P C CQ D W F E hF=>?_
  cbv
  skip
  repeat' (first
   |((first|refine E.c (SCalls.of_le (kx) ?_ ?_)|refine E.q (QCalls.of_le (kx) ?_ ?_));(· (cbv;(try simp only [nc] at *);first|done|(simp;done)|(simp (disch:=(first|omega|(simp only [lnS];omega))) only [rdT,rdS,←hl,anT];first|done|omega|(refine ⟨?_,?_⟩<;>omega))|(simp (disch:=(first|omega|(simp only [lnS];omega))) [rdT,rdS,←hl];done)));cbv)
   |(refine ⟨fun _ h_s=>?_,fun _ h_s=>?_⟩<;>(cbv;(try simp only [nc] at *);try simp (disch:=(first|omega|(simp only [lnS];omega))) only [rdT,rdS,←hl,reduceCtorEq,trT] at h_s))
   |(refine hF ?_;intro _;clear hF)
   |(refine hF ?_;cbv;clear hF)
   |(refine ⟨fun _=>?_,?_⟩;(· ((try simp only [nc] at *);first|done|omega|exact ⟨by omega,rfl⟩|(simp (disch:=(first|omega|(simp only [lnS];omega))) only [rdT,rdS,←hl];first|done|omega|rfl|exact ⟨by omega,rfl⟩|(simp;done)|(simp;omega))|(intros;trivial)));(try (simp only [nc] at *));(try simp (disch:=(first|omega|(simp only [lnS];omega))) only [rdT,rdS,←hl]);(try cbv))
   |(refine E.d 6 (by decide +kernel) ?_;cbv;(fail_if_success guard_target =~ False))
   | fail
  )
  ·exact absurd (by assumption) h0
  ·rw [h3]
   simp only
   (try simp only [nc] at *)
   rw [w64_of (by ((try simp only [nc] at *);omega)) (by ((try simp only [nc] at *);omega))]
def kN (g:Gr) (t i:Nat):Nat:=g.init.length+(evsT g t).length+i
theorem idsT_at (g:Gr) (t i:Nat) (hi:i<(g.th.getD t []).length):∀ T,t<T→(evsT g t).length+i<(idsT g T).length∧(idsT g T).getD ((evsT g t).length+i) id0=⟨(t:Int)+1,(i:Int)⟩
 | 0,h=>absurd h (Nat.not_lt_zero _)
 | T+1,h=>by
  rw [idsT_succ]
  by_cases e:t=T
  ·subst e
   have hl:=idsT_len g t
   have hE:=idsE_len t (g.th.getD t []).length
   refine ⟨by rw [List.length_append,hE];omega,?_⟩
   rw [List.getD_eq_getElem?_getD,List.getElem?_append_right (by omega)]
   rw [show (evsT g t).length+i-(idsT g t).length=i by omega]
   have hi':i<(g.th[t]?.getD []).length:=by simpa using hi
   simp [idsE,hi']
  ·obtain ⟨h1,h2⟩:=idsT_at g t i hi T (by omega)
   refine ⟨by rw [List.length_append];omega,?_⟩
   rw [List.getD_eq_getElem?_getD,List.getElem?_append_left h1,←List.getD_eq_getElem?_getD,h2]
theorem kN_ids {g:Gr} {t i:Nat} (ht:t<g.th.length) (hi:i<(g.th.getD t []).length):kN g t i<nG g∧(idsG g).getD (kN g t i) id0=⟨(t:Int)+1,(i:Int)⟩:=by
 obtain ⟨h1,h2⟩:=idsT_at g t i hi g.th.length ht
 have hI:=idsI_len g.init.length
 refine ⟨by unfold nG idsG kN;rw [List.length_append,hI];omega,?_⟩
 unfold idsG kN
 rw [List.getD_eq_getElem?_getD,List.getElem?_append_right (by omega),hI,show g.init.length+(evsT g t).length+i-g.init.length=(evsT g t).length+i by omega,←List.getD_eq_getElem?_getD,h2]
theorem kN_ev {g:Gr} {t i:Nat} (ht:t<g.th.length) (hi:i<(g.th.getD t []).length) (hs:g.th.length≤4):(viewG g).ev.getD (kN g t i) ev0=(g.th.getD t []).getD i ev0:=by
 obtain ⟨h1,h2⟩:=kN_ids ht hi
 have:=evsG_get g (kN g t i) h1
 rw [h2] at this
 unfold eventM at this
 have hi':i<(g.th[t]?.getD []).length:=by simpa using hi
 rw [if_neg (by simp;omega),if_pos (by simp;omega)] at this
 have e:=(Option.some.inj this).symm
 show (evsG g).getD _ _=_
 rw [e]
 simp
theorem place_num (g:Gr) (hg:Rd g) (h:GOk g) (k:Nat) (hk:k<nG g) (hw:writesM ((viewG g).ev.getD k ev0)=true) (loc:Int) (hloc:loc=((viewG g).ev.getD k ev0).loc) (d:EId) (hd:(idsG g).getD k id0=d) :
  Pure Tryz.prog γ false 71 [aGr g,.i fun _=>loc,aId d] (.i fun _=>(viewG g).pl.getD k 0):=by
 subst hloc
 subst hd
 have hev:=vev h k hk
 rw [vpl h k hk]
 refine place_at g hg _ _ _ ?_
 rcases pl_write h hev hw with h1 | ⟨h0,k0,h1,h2,h3⟩
 ·exact .inl h1
 ·have hl:=fine_loc (event_fine h hev h0) (notFence_w hw)
  have hnd:(g.ord.getD ((viewG g).ev.getD k ev0).loc.toNat []).Nodup:=((ordered_iff g _).1 (h.orders _ (by omega))).1
  refine .inr ⟨h0,hl.1,by rw [h.lord];exact hl.2,k0,h1,h2,h3,fun j hj he=>?_⟩
  have:j=k0:=getD_inj hnd (by omega) h2 (he.trans h3.symm)
  omega
end Go.AL.Rl
namespace Go.AL.Rl
open Go Go.AL Go.Proofs
set_option maxRecDepth 100000
set_option maxHeartbeats 3200000
variable {γ:Nat→Option AV}
theorem kN_next (g:Gr) (t:Nat):kN g t (g.th.getD t []).length=kN g (t+1) 0:=by
 unfold kN;rw [evsT_succ,List.length_append];omega
theorem kN_end (g:Gr):kN g g.th.length 0=nG g:=by
 unfold kN nG idsG;rw [List.length_append,idsI_len,idsT_len];omega
theorem upd_init {g:Gr} (h:GOk g) (k:Nat) (hk:k<kN g 0 0):updB (viewG g) k=false:=by
 have hk':k<g.init.length:=by simpa [kN,evsT] using hk
 have hn:k<nG g:=by unfold nG idsG;rw [List.length_append,idsI_len];omega
 have he:=vev h k hn
 have h0:((idsG g).getD k id0).t=0:=by
  unfold idsG
  rw [List.getD_eq_getElem?_getD,List.getElem?_append_left (by rw [idsI_len];exact hk')]
  simp [idsI,hk']
 have:=(event_init he h0).1
 unfold updB
 rw [this];rfl
theorem upd_src {g:Gr} (h:GOk g) {t i:Nat} (ht:t<g.th.length) (hi:i<(g.th.getD t []).length) (hr:readsM ((viewG g).ev.getD (kN g t i) ev0)=true) :
  ∃ w:Nat,(viewG g).fr.getD (kN g t i) 0=w∧w<nG g∧writesM ((viewG g).ev.getD w ev0)=true∧((viewG g).ev.getD w ev0).loc=((viewG g).ev.getD (kN g t i) ev0).loc∧(idsG g).getD w id0=(g.fr.getD t []).getD i id0:=by
 obtain ⟨hk,hd⟩:=kN_ids ht hi
 obtain ⟨w,h1,h2,h3,h4,h5⟩:=src_of h (kN g t i) hk hr
 refine ⟨w,h1,h2,h4,h5,?_⟩
 have e:=vfr h _ hk
 rw [hd] at e
 have hev:=vev h _ hk
 rw [hd] at hev
 unfold frOf at e
 rw [if_neg (by simp;omega),hev] at e
 simp only [Option.getD_some] at e
 rw [if_pos hr,h1] at e
 have hw:w=numOf (idsG g) (srcOf g ⟨(t:Int)+1,(i:Int)⟩):=Int.ofNat_inj.1 e
 have hm:srcOf g ⟨(t:Int)+1,(i:Int)⟩∈idsG g:=by
  obtain ⟨wv,k1,_⟩:=source_mem (src_ok h (d:=⟨(t:Int)+1,(i:Int)⟩) (by rw [←hd];exact List.getElem_eq_getD (h:=hk) id0 ▸ List.getElem_mem _) (by simp;omega)) (by rw [hev];exact hr)
  exact idsG_mem.2 (by rw [k1];rfl)
 rw [hw,numOf_get hm]
 unfold srcOf
 simp
theorem ord_small {g:Gr} (h:GOk g) {x:Nat} (hx:x<g.init.length):(g.ord.getD x []).length≤56:=by
 have h1:=h.orders x hx
 unfold orderedM at h1
 rw [Bool.and_eq_true,decide_eq_true_eq,decide_eq_true_eq] at h1
 have h2:=cntT_le (ts:=g.th) (x:Int) h.short.ths
 have h3:=h.short.th
 omega
theorem pl_small {g:Gr} (h:GOk g) {k:Nat} (hk:k<nG g) (hw:writesM ((viewG g).ev.getD k ev0)=true):0≤(viewG g).pl.getD k 0∧(viewG g).pl.getD k 0≤60:=by
 have hev:=vev h k hk
 rw [vpl h k hk]
 rcases pl_write h hev hw with h1 | ⟨h0,k0,h1,h2,h3⟩
 ·omega
 ·have hl:=fine_loc (event_fine h hev h0) (notFence_w hw)
  have:=ord_small h (x:=((viewG g).ev.getD k ev0).loc.toNat) (by omega)
  omega
theorem update_ok (g:Gr) (hg:Rd g) (h:GOk g) (n:Int) (po rf co fr eco porf loc sw hb:List (BitVec 64)):Pure Tryz.prog γ false 40 [aFc g n po rf co fr eco porf loc sw hb] (aFt (updF (viewG g) (nG g))):=by
 have hth:=h.short.th
 have hin:=h.short.init
 have hle:∀ t,(g.th.getD t []).length≤14:=h.short.at
 have hk0:kN g 0 0=g.init.length:=by simp [kN,evsT]
 have hkb:∀ t i,t≤g.th.length→i≤(g.th.getD t []).length→kN g t i≤100:=fun t i h1 h2=>by
  have:=evsT_len h.short t
  have:=hle t
  unfold kN;omega
 have hU:∀ k,k<nG g→updB (viewG g) k=true→(∀ j<k,updB (viewG g) j=false)→updF (viewG g) (nG g)=⟨k,-1,true⟩:=fun k h1 h2 h3=>updF_at h1 h2 h3
 have hU0:(∀ j<nG g,updB (viewG g) j=false)→updF (viewG g) (nG g)=⟨0,0,false⟩:=updF_no
 have hui:=upd_init h
 generalize updF (viewG g) (nG g)=FT at *
 refine Pure.go (ty:=ty) ty_eq mo Tryz.func40 rfl Tryz.ntmps40 Tryz.results40 Tryz.call40 (by simp) fun P C CQ D W F E hF=>?_
 cbv
 repeat' (first
  |(refine ⟨fun _ h_s=>?_,fun _ h_s=>?_⟩<;>(cbv;(try simp only [nc] at *);try simp (disch:=(first|omega|(simp only [lnS];omega))) only [rdT,rdS,reduceCtorEq,trT] at h_s))
  |(refine hF ?_;intro _;clear hF)
  |(refine hF ?_;cbv;clear hF)
  |(refine ⟨fun _=>?_,?_⟩;(· ((try simp only [nc] at *);first|done|omega|exact ⟨by omega,rfl⟩|(simp (disch:=(first|omega|(simp only [lnS];omega))) only [rdT,rdS];first|done|omega|rfl|exact ⟨by omega,rfl⟩|(simp;done)|(simp;omega))|(intros;trivial)));(try (simp only [nc] at *));(try simp (disch:=(first|omega|(simp only [lnS];omega))) only [rdT,rdS]);(try cbv))
  |(refine E.d 16 (by decide +kernel) ?_;cbv;(fail_if_success guard_target =~ False))
  | fail
 )
 refine E.loopS (ι:=Nat) (fun t=>t≤g.th.length∧(∀ k<kN g t 0,updB (viewG g) k=false)) (fun t=>g.th.length-t) (fun t=>[(17,.i fun _=>((t:Nat):Int)),(3,.i fun _=>((kN g t 0:Nat):Int))]) (fun t h=>h) 0 (fun _=>by first|rfl|simp) ⟨Nat.zero_le _,?_⟩ ?_ fun t ht I hI=>?_
 ·exact hui
 ·cbv;simp [hk0]
 cbv
 obtain ⟨ht,hp⟩:=ht
 repeat' (first
  |(refine ⟨fun _ h_s=>?_,fun _ h_s=>?_⟩<;>(cbv;(try simp only [nc] at *);try simp (disch:=(first|omega|(simp only [lnS];omega))) only [rdT,rdS,reduceCtorEq,trT] at h_s))
  |(refine hF ?_;intro _;clear hF)
  |(refine hF ?_;cbv;clear hF)
  |(refine ⟨fun _=>?_,?_⟩;(· ((try simp only [nc] at *);first|done|omega|exact ⟨by omega,rfl⟩|(simp (disch:=(first|omega|(simp only [lnS];omega))) only [rdT,rdS];first|done|omega|rfl|exact ⟨by omega,rfl⟩|(simp;done)|(simp;omega))|(intros;trivial)));(try (simp only [nc] at *));(try simp (disch:=(first|omega|(simp only [lnS];omega))) only [rdT,rdS]);(try cbv))
  |(refine E.d 16 (by decide +kernel) ?_;cbv;(fail_if_success guard_target =~ False))
  | fail
 )
 ·refine E.loopS (ι:=Nat) (fun i=>i≤(g.th.getD t []).length∧(∀ k<kN g t i,updB (viewG g) k=false)) (fun i=>(g.th.getD t []).length-i) (fun i=>[(24,.i fun _=>((i:Nat):Int)),(3,.i fun _=>((kN g t i:Nat):Int))]) (fun i h=>h) 0 (fun _=>by first|rfl|simp) ⟨Nat.zero_le _,?_⟩ ?_ fun i hi I2 hI2=>?_
  ·exact hp
  ·cbv;simp
  cbv
  obtain ⟨hi,hp2⟩:=hi
  have hb:=hkb t i ht hi
  have hb1:=hle t
  repeat' (first
   |(refine hI (t+1) ?_ ?_ ?_;rotate_left 1;(· ((try simp only [nc] at *);omega));(cbv;clear hI;(try clear hF);(try simp only [nc] at *);(try simp (disch:=(first|omega|(simp only [lnS];omega))) only [rdT,rdS,anT]));rotate_left 1;(try ((try simp only [nc] at *);omega)))
   |(refine hI2 (i+1) ?_ ?_ ?_;rotate_left 1;(· ((try simp only [nc] at *);omega));(cbv;clear hI2;(try clear hF);(try simp only [nc] at *);(try simp (disch:=(first|omega|(simp only [lnS];omega))) only [rdT,rdS,anT]));rotate_left 1;(try ((try simp only [nc] at *);omega)))
   |(refine ⟨fun _ h_s=>?_,fun _ h_s=>?_⟩<;>(cbv;(try simp only [nc] at *);try simp (disch:=(first|omega|(simp only [lnS];omega))) only [rdT,rdS,reduceCtorEq,trT] at h_s))
   |(refine hF ?_;intro _;clear hF)
   |(refine hF ?_;cbv;clear hF)
   |(refine ⟨fun _=>?_,?_⟩;(· ((try simp only [nc] at *);first|done|omega|exact ⟨by omega,rfl⟩|(simp (disch:=(first|omega|(simp only [lnS];omega))) only [rdT,rdS];first|done|omega|rfl|exact ⟨by omega,rfl⟩|(simp;done)|(simp;omega))|(intros;trivial)));(try (simp only [nc] at *));(try simp (disch:=(first|omega|(simp only [lnS];omega))) only [rdT,rdS]);(try cbv))
   |(refine E.d 16 (by decide +kernel) ?_;cbv;(fail_if_success guard_target =~ False))
   | fail
  )
  ·have ht':t<g.th.length:=by ((try simp only [nc] at *);omega)
   have hi':i<(g.th.getD t []).length:=by ((try simp only [nc] at *);omega)
   obtain ⟨hk,hd⟩:=kN_ids ht' hi'
   have hev:=kN_ev ht' hi' hth
   have h3:((g.th.getD t []).getD i ev0).kind=3:=by assumption
   have hr:readsM ((viewG g).ev.getD (kN g t i) ev0)=true:=by rw [hev];unfold readsM;rw [h3];rfl
   have hw:writesM ((viewG g).ev.getD (kN g t i) ev0)=true:=by rw [hev];unfold writesM;rw [h3];rfl
   obtain ⟨w,s1,s2,s3,s4,s5⟩:=upd_src h ht' hi' hr
   have p1:=place_num (γ:=γ) g hg h (kN g t i) hk hw ((g.th.getD t []).getD i ev0).loc (by rw [hev]) ⟨(t:Int)+1,(i:Int)⟩ hd
   have p2:=place_num (γ:=γ) g hg h w s2 s3 ((g.th.getD t []).getD i ev0).loc (by rw [s4,hev]) ((g.fr.getD t []).getD i id0) s5
   have hfl:(g.fr.getD t []).length=(g.th.getD t []).length:=(h.events t ht').1
   have hfr:g.fr.length=g.th.length:=h.lfr
   have hu:updB (viewG g) (kN g t i)=decide ((viewG g).pl.getD (kN g t i) 0≠(viewG g).pl.getD w 0+1):=by unfold updB;rw [hev,h3,s1];simp
   have b1:=pl_small h hk hw
   have b2:=pl_small h s2 s3
   have hUk:=hU _ hk
   clear hU hU0 hui hkb s1 s5 hd hr hw hev
   generalize (viewG g).pl.getD (kN g t i) 0=x1 at *
   generalize (viewG g).pl.getD w 0=x2 at *
   repeat' (first
    |(refine hI2 (i+1) ?_ ?_ ?_;rotate_left 1;(· ((try simp only [nc] at *);omega));(cbv;clear hI2;(try clear hF);(try simp only [nc] at *);(try simp (disch:=(first|omega|(simp only [lnS];omega))) only [rdT,rdS,anT]));rotate_left 1;(try ((try simp only [nc] at *);omega)))
    |((first|refine E.c (SCalls.of_le (p2) ?_ ?_)|refine E.q (QCalls.of_le (p2) ?_ ?_));(· (cbv;(try simp only [nc] at *);first|done|(simp;done)|(simp (disch:=(first|omega|(simp only [lnS];omega))) only [rdT,rdS,anT];first|done|omega|(refine ⟨?_,?_⟩<;>omega))|(simp (disch:=(first|omega|(simp only [lnS];omega))) [rdT,rdS];done)));cbv)
    |(refine E.c (SCalls.of_le (p1) ?_ ?_);(· (cbv;(try simp only [nc] at *);first|done|(simp;done)|(simp (disch:=(first|omega|(simp only [lnS];omega))) only [rdT,rdS,anT];first|done|omega|(refine ⟨?_,?_⟩<;>omega))|(simp (disch:=(first|omega|(simp only [lnS];omega))) [rdT,rdS];done)));cbv)
    |(refine ⟨fun _ h_s=>?_,fun _ h_s=>?_⟩<;>(cbv;(try simp only [nc] at *);try simp (disch:=(first|omega|(simp only [lnS];omega))) only [rdT,rdS,reduceCtorEq,trT] at h_s))
    |(refine hF ?_;intro _;clear hF)
    |(refine hF ?_;cbv;clear hF)
    |(refine ⟨fun _=>?_,?_⟩;(· ((try simp only [nc] at *);first|done|omega|exact ⟨by omega,rfl⟩|(simp (disch:=(first|omega|(simp only [lnS];omega))) only [rdT,rdS];first|done|omega|rfl|exact ⟨by omega,rfl⟩|(simp;done)|(simp;omega))|(intros;trivial)));(try (simp only [nc] at *));(try simp (disch:=(first|omega|(simp only [lnS];omega))) only [rdT,rdS]);(try cbv))
    |(refine E.d 16 (by decide +kernel) ?_;cbv;(fail_if_success guard_target =~ False))
    | fail
   )
   ·have hs1:¬ x1=x2+1:=by
     first
      | exact h_s
      | (rw [w64_of (by omega) (by omega)] at h_s;exact h_s)
    rw [hUk (by rw [hu];exact decide_eq_true hs1) hp2]
    exact ⟨fun _=>rfl,fun _=>rfl,fun _=>rfl,trivial⟩
   ·have hs1:x1=x2+1:=by
     first
      | exact h_s
      | (rw [w64_of (by omega) (by omega)] at h_s;exact h_s)
    refine ⟨by ((try simp only [nc] at *);omega),fun k hk=>?_⟩
    rcases Nat.lt_or_ge k (kN g t i) with h1 | h1
    ·exact hp2 k h1
    ·obtain rfl:k=kN g t i:=by unfold kN at *;omega
     rw [hu];exact decide_eq_false (by simp [hs1])
   ·refine ⟨?_,by push_cast;rfl⟩
    unfold kN;push_cast;omega
  ·refine ⟨by ((try simp only [nc] at *);omega),fun k hk=>?_⟩
   have h3:¬ ((g.th.getD t []).getD i ev0).kind=3:=by assumption
   rcases Nat.lt_or_ge k (kN g t i) with h1 | h1
   ·exact hp2 k h1
   ·obtain rfl:k=kN g t i:=by unfold kN at *;omega
    unfold updB
    rw [kN_ev (by ((try simp only [nc] at *);omega)) (by ((try simp only [nc] at *);omega)) hth,decide_eq_false h3];rfl
  ·refine ⟨?_,by push_cast;rfl⟩
   unfold kN;push_cast;omega
  ·have e:i=(g.th.getD t []).length:=by ((try simp only [nc] at *);omega)
   subst e
   rw [kN_next] at hp2
   exact ⟨by ((try simp only [nc] at *);omega),hp2⟩
  ·have e:i=(g.th.getD t []).length:=by ((try simp only [nc] at *);omega)
   subst e
   rw [kN_next]
   exact ⟨rfl,by push_cast;rfl⟩
 ·have e:t=g.th.length:=by ((try simp only [nc] at *);omega)
  subst e
  rw [kN_end] at hp
  rw [hU0 hp]
  exact ⟨fun _=>rfl,fun _=>rfl,fun _=>rfl,trivial⟩
end Go.AL.Rl
namespace Go.AL.Rl
open Go Go.AL Go.Proofs
set_option maxRecDepth 100000
set_option maxHeartbeats 3200000
variable {γ:Nat→Option AV}
theorem coherence_ok (g:Gr) (n:Int) (po rf co fr eco porf loc sw hb:List (BitVec 64)) (le:eco.length≤64) (lh:hb.length≤64) (hle:hb.length=eco.length):Pure Tryz.prog γ false 44 [aFc g n po rf co fr eco porf loc sw hb] (aFt (cohF hb eco)):=by
 have hU:∀ a b,a<hb.length→b<eco.length→cohB hb eco a b=true→(∀ k<b,cohB hb eco a k=false)→(∀ k<a,∀ j<eco.length,cohB hb eco k j=false)→cohF hb eco=⟨a,b,true⟩:=fun a b h1 h2 h3 h4 h5=>cohF_at h1 h2 h3 h4 h5
 have hU0:(∀ k<hb.length,∀ j<eco.length,cohB hb eco k j=false)→cohF hb eco=⟨0,0,false⟩:=cohF_no
 have hB:∀ a b,cohB hb eco a b=(decide (a≠b) && (!decide ((hb.getD a 0 >>> b) &&& 1#64=0#64)) && (!decide ((eco.getD b 0 >>> a) &&& 1#64=0#64))):=fun a b=>by
  rw [getLsb_and1,getLsb_and1];rfl
 generalize cohF hb eco=FT at *
 generalize cohB hb eco=P' at *
 refine Pure.go (ty:=ty) ty_eq mo Tryz.func44 rfl Tryz.ntmps44 Tryz.results44 Tryz.call44 (by simp) fun P C CQ D W F E hF=>?_
 cbv
 repeat' (first
  |(refine ⟨fun _ h_s=>?_,fun _ h_s=>?_⟩<;>(cbv;(try simp only [nc] at *);try simp (disch:=(first|omega|(simp only [lnS];omega))) only [rdT,rdS,reduceCtorEq,trT] at h_s))
  |(refine hF ?_;intro _;clear hF)
  |(refine hF ?_;cbv;clear hF)
  |(refine ⟨fun _=>?_,?_⟩;(· ((try simp only [nc] at *);first|done|omega|exact ⟨by omega,rfl⟩|(simp (disch:=(first|omega|(simp only [lnS];omega))) only [rdT,rdS];first|done|omega|rfl|exact ⟨by omega,rfl⟩|(simp;done)|(simp;omega))|(intros;trivial)));(try (simp only [nc] at *));(try simp (disch:=(first|omega|(simp only [lnS];omega))) only [rdT,rdS]);(try cbv))
  |(refine E.d 11 (by decide +kernel) ?_;cbv;(fail_if_success guard_target =~ False))
  | fail
 )
 refine E.loopS (ι:=Nat) (fun a=>a≤hb.length∧(∀ k<a,∀ j<eco.length,P' k j=false)) (fun a=>hb.length-a) (fun a=>[(21,.i fun _=>((a:Nat):Int))]) (fun a h=>h) 0 (fun _=>by first|rfl|simp) ⟨Nat.zero_le _,?_⟩ ?_ fun a ha I hI=>?_
 ·intro k hk;omega
 ·cbv;simp
 cbv
 obtain ⟨ha,hp⟩:=ha
 repeat' (first
  |(refine ⟨fun _ h_s=>?_,fun _ h_s=>?_⟩<;>(cbv;(try simp only [nc] at *);try simp (disch:=(first|omega|(simp only [lnS];omega))) only [rdT,rdS,reduceCtorEq,trT] at h_s))
  |(refine hF ?_;intro _;clear hF)
  |(refine hF ?_;cbv;clear hF)
  |(refine ⟨fun _=>?_,?_⟩;(· ((try simp only [nc] at *);first|done|omega|exact ⟨by omega,rfl⟩|(simp (disch:=(first|omega|(simp only [lnS];omega))) only [rdT,rdS];first|done|omega|rfl|exact ⟨by omega,rfl⟩|(simp;done)|(simp;omega))|(intros;trivial)));(try (simp only [nc] at *));(try simp (disch:=(first|omega|(simp only [lnS];omega))) only [rdT,rdS]);(try cbv))
  |(refine E.d 11 (by decide +kernel) ?_;cbv;(fail_if_success guard_target =~ False))
  | fail
 )
 ·refine E.loopS (ι:=Nat) (fun b=>b≤eco.length∧(∀ j<b,P' a j=false)) (fun b=>eco.length-b) (fun b=>[(26,.i fun _=>((b:Nat):Int))]) (fun b h=>h) 0 (fun _=>by first|rfl|simp) ⟨Nat.zero_le _,?_⟩ ?_ fun b hb2 I2 hI2=>?_
  ·intro k hk;omega
  ·cbv;simp
  cbv
  obtain ⟨hb2,hp2⟩:=hb2
  have hab:=hB a b
  have hba:=bofInt (k:=a) (by omega)
  have hbb:=bofInt (k:=b) (by omega)
  have hin:((a:Int)=b)↔a=b:=Int.ofNat_inj
  repeat' (first
   |(refine hI (a+1) ?_ ?_ ?_;rotate_left 1;(· ((try simp only [nc] at *);omega));(cbv;clear hI;(try clear hF);(try simp only [nc] at *);(try simp (disch:=(first|omega|(simp only [lnS];omega))) only [rdT,rdS,anT]));rotate_left 1;(try ((try simp only [nc] at *);omega)))
   |(refine hI2 (b+1) ?_ ?_ ?_;rotate_left 1;(· ((try simp only [nc] at *);omega));(cbv;clear hI2;(try clear hF);(try simp only [nc] at *);(try simp (disch:=(first|omega|(simp only [lnS];omega))) only [rdT,rdS,anT]));rotate_left 1;(try ((try simp only [nc] at *);omega)))
   |(refine ⟨fun _ h_s=>?_,fun _ h_s=>?_⟩<;>(cbv;(try simp only [nc] at *);try simp (disch:=(first|omega|(simp only [lnS];omega))) only [rdT,rdS,reduceCtorEq,trT] at h_s))
   |(refine hF ?_;intro _;clear hF)
   |(refine hF ?_;cbv;clear hF)
   |(refine ⟨fun _=>?_,?_⟩;(· ((try simp only [nc] at *);first|done|omega|exact ⟨by omega,rfl⟩|(simp (disch:=(first|omega|(simp only [lnS];omega))) only [rdT,rdS];first|done|omega|rfl|exact ⟨by omega,rfl⟩|(simp;done)|(simp;omega))|(intros;trivial)));(try (simp only [nc] at *));(try simp (disch:=(first|omega|(simp only [lnS];omega))) only [rdT,rdS]);(try cbv))
   |(refine E.d 11 (by decide +kernel) ?_;cbv;(fail_if_success guard_target =~ False))
   | fail
  )
  ·have ht:P' a b=true:=by
    clear hB hU hU0 hp hp2
    rw [hab]
    simp_all
   rw [hU a b (by ((try simp only [nc] at *);omega)) (by ((try simp only [nc] at *);omega)) ht hp2 hp]
   exact ⟨fun _=>rfl,fun _=>rfl,fun _=>rfl,trivial⟩
  iterate 3
   ·have ht:P' a b=false:=by
     clear hB hU hU0 hp hp2
     rw [hab]
     first
      | (simp_all;done)
      | (simp_all;omega)
    refine ⟨by ((try simp only [nc] at *);omega),fun j hj=>?_⟩
    rcases Nat.lt_or_ge j b with h1 | h1
    ·exact hp2 j h1
    ·obtain rfl:j=b:=by omega
     exact ht
   ·push_cast;rfl
  ·refine ⟨by ((try simp only [nc] at *);omega),fun k hk j hj=>?_⟩
   rcases Nat.lt_or_ge k a with h1 | h1
   ·exact hp k h1 j hj
   ·obtain rfl:k=a:=by omega
    exact hp2 j (by ((try simp only [nc] at *);omega))
  ·push_cast;rfl
 ·have e:a=hb.length:=by ((try simp only [nc] at *);omega)
  subst e
  rw [hU0 hp]
  exact ⟨fun _=>rfl,fun _=>rfl,fun _=>rfl,trivial⟩
theorem alike4 (n:Int) (a b c d:List (BitVec 64)) (ha:Fits n a) (hb:Fits n b) (hc:Fits n c) (hd:Fits n d):Alike [(n,a),(n,b),(n,c),(n,d)]:=by
 refine ⟨by simp,fun i hi=>?_⟩
 have:i=0∨i=1∨i=2∨i=3:=by simp at hi;omega
 rcases this with rfl | rfl | rfl | rfl
 ·simp [ha]
 ·simp [hb]
 ·simp [hc]
 ·simp [hd]
theorem togF_fits (V:Vw) {n:Nat} (hn:n≤62):Fits n (togF V n):=fits_or (by omega) (l:=[((n:Int),poF V n),((n:Int),rfF V n),((n:Int),coF V n),((n:Int),frF V n)]) (by
 have f1:=fits_poF V hn
 have f2:=fits_rfF V hn
 have f3:=fits_coF V hn
 have f4:=fits_frF V hn
 simp [f1,f2,f3,f4])
noncomputable abbrev aFg (g:Gr):AV:=aFc g (nG g:Nat) (poF (viewG g) (nG g)) (rfF (viewG g) (nG g)) (coF (viewG g) (nG g)) (frF (viewG g) (nG g)) (ecoF (viewG g) (nG g)) (porfF (viewG g) (nG g)) (locF (viewG g) (nG g)) (swF (viewG g) (nG g)) (hbF (viewG g) (nG g))
theorem together_ok (g:Gr) (h:GOk g):Pure Tryz.prog γ false 47 [aFg g] (encRel (nG g:Nat) (togF (viewG g) (nG g))):=by
 have hn:=(viewG_wf h).small
 have f1:=fits_poF (viewG g) hn
 have f2:=fits_rfF (viewG g) hn
 have f3:=fits_coF (viewG g) hn
 have f4:=fits_frF (viewG g) hn
 have o4:=or_yes (γ:=γ) [((nG g:Int),poF (viewG g) (nG g)),((nG g:Int),rfF (viewG g) (nG g)),((nG g:Int),coF (viewG g) (nG g)),((nG g:Int),frF (viewG g) (nG g))] (by simp) (alike4 _ _ _ _ _ f1 f2 f3 f4) (nG g) rfl
 unfold togF
 unfold aFg
 clear f1 f2 f3 f4
 generalize orM (nG g) [((nG g:Int),poF (viewG g) (nG g)),((nG g:Int),rfF (viewG g) (nG g)),((nG g:Int),coF (viewG g) (nG g)),((nG g:Int),frF (viewG g) (nG g))]=rr at *
 generalize poF (viewG g) (nG g)=r1 at *
 generalize rfF (viewG g) (nG g)=r2 at *
 generalize coF (viewG g) (nG g)=r3 at *
 generalize frF (viewG g) (nG g)=r4 at *
 refine Pure.go (ty:=ty) ty_eq mo Tryz.func47 rfl Tryz.ntmps47 Tryz.results47 Tryz.call47 (by simp) fun P C CQ D W F E hF=>?_
 cbv
 repeat' (first
  | (refine E.c (SCalls.of_bare (o4) rfl ?_ ?_);(· (cbv;simp [rls,ps,us,is,LV.of];done));cbv)
  | (refine E.c (SCalls.of_le (o4) ?_ ?_);(· (cbv;simp [rls,ps,us,is,LV.of];done));cbv)
  | (refine E.q (QCalls.of_le (o4) ?_ ?_);(· (cbv;simp [rls,ps,us,is,LV.of];done));cbv)
  |(refine ⟨fun _ h_s=>?_,fun _ h_s=>?_⟩<;>(cbv;(try simp only [nc] at *);try simp (disch:=(first|omega|(simp only [lnS];omega))) only [rdT,rdS,reduceCtorEq,trT] at h_s))
  |(refine hF ?_;intro _;clear hF)
  |(refine hF ?_;cbv;clear hF)
  |(refine ⟨fun _=>?_,?_⟩;(· ((try simp only [nc] at *);first|done|omega|exact ⟨by omega,rfl⟩|(simp (disch:=(first|omega|(simp only [lnS];omega))) only [rdT,rdS];first|done|omega|rfl|exact ⟨by omega,rfl⟩|(simp;done)|(simp;omega))|(intros;trivial)));(try (simp only [nc] at *));(try simp (disch:=(first|omega|(simp only [lnS];omega))) only [rdT,rdS]);(try cbv))
  | fail
 )
theorem lensG (g:Gr) (h:GOk g):(porfF (viewG g) (nG g)).length≤64∧(hbF (viewG g) (nG g)).length=nG g∧(ecoF (viewG g) (nG g)).length=nG g∧(plusM (nG g) (togF (viewG g) (nG g))).length≤64:=by
 have hn:=(viewG_wf h).small
 have f1:=fits_poF (viewG g) hn
 have f2:=fits_rfF (viewG g) hn
 have f6:=fits_swF (viewG g) hn
 have k1:Fits (nG g) (porfF (viewG g) (nG g)):=fits_plus (fits_or2 f1 f2)
 have k2:Fits (nG g) (hbF (viewG g) (nG g)):=fits_plus (fits_or2 f1 f6)
 have k3:Fits (nG g) (ecoF (viewG g) (nG g)):=fits_plus (fits_orP (viewG g) hn)
 have k4:Fits (nG g) (plusM (nG g) (togF (viewG g) (nG g))):=fits_plus (togF_fits (viewG g) hn)
 have e1:=k1.2.2.1
 have e2:=k2.2.2.1
 have e3:=k3.2.2.1
 have e4:=k4.2.2.1
 omega
theorem flt1_ok (g:Gr):Pure Tryz.prog γ false 39 [aFg g] (aFt (fltM (viewG g) (nG g) 1)):=by
 rw [show fltM (viewG g) (nG g) 1=ft0 from rfl]
 unfold aFg
 refine Pure.go (ty:=ty) ty_eq mo Tryz.func39 rfl Tryz.ntmps39 Tryz.results39 Tryz.call39 (by simp) fun P C CQ D W F E hF=>?_
 cbv
 repeat' (first
  |(refine ⟨fun _ h_s=>?_,fun _ h_s=>?_⟩<;>(cbv;(try simp only [nc] at *);try simp (disch:=(first|omega|(simp only [lnS];omega))) only [rdT,rdS,reduceCtorEq,trT] at h_s))
  |(refine hF ?_;intro _;clear hF)
  |(refine hF ?_;cbv;clear hF)
  |(refine ⟨fun _=>?_,?_⟩;(· ((try simp only [nc] at *);first|done|omega|exact ⟨by omega,rfl⟩|(simp (disch:=(first|omega|(simp only [lnS];omega))) only [rdT,rdS];first|done|omega|rfl|exact ⟨by omega,rfl⟩|(simp;done)|(simp;omega))|(intros;trivial)));(try (simp only [nc] at *));(try simp (disch:=(first|omega|(simp only [lnS];omega))) only [rdT,rdS]);(try cbv))
  | fail
 )
theorem flt2_ok (g:Gr) (hg:Rd g) (h:GOk g):Pure Tryz.prog γ false 40 [aFg g] (aFt (fltM (viewG g) (nG g) 2)):=update_ok g hg h _ _ _ _ _ _ _ _ _ _
theorem flt3_ok (g:Gr) (h:GOk g):Pure Tryz.prog γ false 41 [aFg g] (aFt (fltM (viewG g) (nG g) 3)):=by
 have kc:=circle_ok (γ:=γ) (nG g:Nat) (porfF (viewG g) (nG g)) (lensG g h).1
 rw [show fltM (viewG g) (nG g) 3=circF (porfF (viewG g) (nG g)) from rfl]
 unfold aFg
 generalize circF (porfF (viewG g) (nG g))=FT at *
 refine Pure.go (ty:=ty) ty_eq mo Tryz.func41 rfl Tryz.ntmps41 Tryz.results41 Tryz.call41 (by simp) fun P C CQ D W F E hF=>?_
 cbv
 repeat' (first
  |(refine E.c (SCalls.of_le (kc) ?_ ?_);(· (cbv;(try simp only [nc] at *);first|done|(simp;done)|(simp (disch:=(first|omega|(simp only [lnS];omega))) only [rdT,rdS,anT];first|done|omega|(refine ⟨?_,?_⟩<;>omega))|(simp (disch:=(first|omega|(simp only [lnS];omega))) [rdT,rdS];done)));cbv)
  |(refine ⟨fun _ h_s=>?_,fun _ h_s=>?_⟩<;>(cbv;(try simp only [nc] at *);try simp (disch:=(first|omega|(simp only [lnS];omega))) only [rdT,rdS,reduceCtorEq,trT] at h_s))
  |(refine hF ?_;intro _;clear hF)
  |(refine hF ?_;cbv;clear hF)
  |(refine ⟨fun _=>?_,?_⟩;(· ((try simp only [nc] at *);first|done|omega|exact ⟨by omega,rfl⟩|(simp (disch:=(first|omega|(simp only [lnS];omega))) only [rdT,rdS];first|done|omega|rfl|exact ⟨by omega,rfl⟩|(simp;done)|(simp;omega))|(intros;trivial)));(try (simp only [nc] at *));(try simp (disch:=(first|omega|(simp only [lnS];omega))) only [rdT,rdS]);(try cbv))
  | fail
 )
theorem flt4_ok (g:Gr) (h:GOk g):Pure Tryz.prog γ false 43 [aFg g] (aFt (fltM (viewG g) (nG g) 4)):=by
 have kc:=circle_ok (γ:=γ) (nG g:Nat) (hbF (viewG g) (nG g)) (by have:=(lensG g h).2.1;have:=(viewG_wf h).small;omega)
 rw [show fltM (viewG g) (nG g) 4=circF (hbF (viewG g) (nG g)) from rfl]
 unfold aFg
 generalize circF (hbF (viewG g) (nG g))=FT at *
 refine Pure.go (ty:=ty) ty_eq mo Tryz.func43 rfl Tryz.ntmps43 Tryz.results43 Tryz.call43 (by simp) fun P C CQ D W F E hF=>?_
 cbv
 repeat' (first
  |(refine E.c (SCalls.of_le (kc) ?_ ?_);(· (cbv;(try simp only [nc] at *);first|done|(simp;done)|(simp (disch:=(first|omega|(simp only [lnS];omega))) only [rdT,rdS,anT];first|done|omega|(refine ⟨?_,?_⟩<;>omega))|(simp (disch:=(first|omega|(simp only [lnS];omega))) [rdT,rdS];done)));cbv)
  |(refine ⟨fun _ h_s=>?_,fun _ h_s=>?_⟩<;>(cbv;(try simp only [nc] at *);try simp (disch:=(first|omega|(simp only [lnS];omega))) only [rdT,rdS,reduceCtorEq,trT] at h_s))
  |(refine hF ?_;intro _;clear hF)
  |(refine hF ?_;cbv;clear hF)
  |(refine ⟨fun _=>?_,?_⟩;(· ((try simp only [nc] at *);first|done|omega|exact ⟨by omega,rfl⟩|(simp (disch:=(first|omega|(simp only [lnS];omega))) only [rdT,rdS];first|done|omega|rfl|exact ⟨by omega,rfl⟩|(simp;done)|(simp;omega))|(intros;trivial)));(try (simp only [nc] at *));(try simp (disch:=(first|omega|(simp only [lnS];omega))) only [rdT,rdS]);(try cbv))
  | fail
 )
theorem flt5_ok (g:Gr) (h:GOk g):Pure Tryz.prog γ false 44 [aFg g] (aFt (fltM (viewG g) (nG g) 5)):=by
 have hn:=(viewG_wf h).small
 have hl:=lensG g h
 exact coherence_ok g _ _ _ _ _ _ _ _ _ _ (by omega) (by omega) (by omega)
theorem flt6_ok (g:Gr) (h:GOk g):Pure Tryz.prog γ false 45 [aFg g] (aFt (fltM (viewG g) (nG g) 6)):=by
 have hn:=(viewG_wf h).small
 have kc:=circle_ok (γ:=γ) (nG g:Nat) (plusM (nG g) (togF (viewG g) (nG g))) (lensG g h).2.2.2
 have kt:=together_ok (γ:=γ) g h
 have kp:=plus_ok (γ:=γ) (nG g) _ (togF_fits (viewG g) hn)
 rw [show fltM (viewG g) (nG g) 6=circF (plusM (nG g) (togF (viewG g) (nG g))) from rfl]
 unfold aFg at *
 generalize circF (plusM (nG g) (togF (viewG g) (nG g)))=FT at *
 refine Pure.go (ty:=ty) ty_eq mo Tryz.func45 rfl Tryz.ntmps45 Tryz.results45 Tryz.call45 (by simp) fun P C CQ D W F E hF=>?_
 cbv
 repeat' (first
  |(refine E.c (SCalls.of_le (kc) ?_ ?_);(· (cbv;(try simp only [nc] at *);first|done|(simp;done)|(simp (disch:=(first|omega|(simp only [lnS];omega))) only [rdT,rdS,anT];first|done|omega|(refine ⟨?_,?_⟩<;>omega))|(simp (disch:=(first|omega|(simp only [lnS];omega))) [rdT,rdS];done)));cbv)
  |(refine E.c (SCalls.of_le (kp) ?_ ?_);(· (cbv;(try simp only [nc] at *);first|done|(simp;done)|(simp (disch:=(first|omega|(simp only [lnS];omega))) only [rdT,rdS,anT];first|done|omega|(refine ⟨?_,?_⟩<;>omega))|(simp (disch:=(first|omega|(simp only [lnS];omega))) [rdT,rdS];done)));cbv)
  |(refine E.c (SCalls.of_le (kt) ?_ ?_);(· (cbv;(try simp only [nc] at *);first|done|(simp;done)|(simp (disch:=(first|omega|(simp only [lnS];omega))) only [rdT,rdS,anT];first|done|omega|(refine ⟨?_,?_⟩<;>omega))|(simp (disch:=(first|omega|(simp only [lnS];omega))) [rdT,rdS];done)));cbv)
  |(refine ⟨fun _ h_s=>?_,fun _ h_s=>?_⟩<;>(cbv;(try simp only [nc] at *);try simp (disch:=(first|omega|(simp only [lnS];omega))) only [rdT,rdS,reduceCtorEq,trT] at h_s))
  |(refine hF ?_;intro _;clear hF)
  |(refine hF ?_;cbv;clear hF)
  |(refine ⟨fun _=>?_,?_⟩;(· ((try simp only [nc] at *);first|done|omega|exact ⟨by omega,rfl⟩|(simp (disch:=(first|omega|(simp only [lnS];omega))) only [rdT,rdS];first|done|omega|rfl|exact ⟨by omega,rfl⟩|(simp;done)|(simp;omega))|(intros;trivial)));(try (simp only [nc] at *));(try simp (disch:=(first|omega|(simp only [lnS];omega))) only [rdT,rdS]);(try cbv))
  | fail
 )
end Go.AL.Rl
namespace Go.AL.Rl
open Go Go.AL Go.Proofs
set_option maxRecDepth 100000
set_option maxHeartbeats 3200000
variable {γ:Nat→Option AV}
theorem learn_yes (g:Gr) (hg:Rd g) (h:GOk g):Pure Tryz.prog γ false 27 [aGr g] (.tup [aFg g,.b fun _=>true]):=by
 have kd:=dAll_yes (γ:=γ) g hg h
 unfold aFg
 generalize poF (viewG g) (nG g)=q1 at *
 generalize rfF (viewG g) (nG g)=q2 at *
 generalize coF (viewG g) (nG g)=q3 at *
 generalize frF (viewG g) (nG g)=q4 at *
 generalize swF (viewG g) (nG g)=q5 at *
 generalize ecoF (viewG g) (nG g)=q6 at *
 generalize porfF (viewG g) (nG g)=q7 at *
 generalize hbF (viewG g) (nG g)=q8 at *
 generalize locF (viewG g) (nG g)=q9 at *
 generalize nG g=n at *
 refine Pure.go (ty:=ty) ty_eq mo Tryz.func27 rfl Tryz.ntmps27 Tryz.results27 Tryz.call27 (by simp) fun P C CQ D W F E hF=>?_
 cbv
 repeat' (first
  |(refine E.c (SCalls.of_le (kd) ?_ ?_);(· (cbv;(try simp only [nc] at *);first|done|(simp;done)|(simp (disch:=(first|omega|(simp only [lnS];omega))) only [rdT,rdS,anT];first|done|omega|(refine ⟨?_,?_⟩<;>omega))|(simp (disch:=(first|omega|(simp only [lnS];omega))) [rdT,rdS];done)));cbv)
  |(refine ⟨fun _ h_s=>?_,fun _ h_s=>?_⟩<;>(cbv;(try simp only [nc] at *);try simp (disch:=(first|omega|(simp only [lnS];omega))) only [rdT,rdS,reduceCtorEq,trT] at h_s))
  |(refine hF ?_;intro _;clear hF)
  |(refine hF ?_;cbv;clear hF)
  |(refine ⟨fun _=>?_,?_⟩;(· ((try simp only [nc] at *);first|done|omega|exact ⟨by omega,rfl⟩|(simp (disch:=(first|omega|(simp only [lnS];omega))) only [rdT,rdS];first|done|omega|rfl|exact ⟨by omega,rfl⟩|(simp;done)|(simp;omega))|(intros;trivial)));(try (simp only [nc] at *));(try simp (disch:=(first|omega|(simp only [lnS];omega))) only [rdT,rdS]);(try cbv))
  | fail
 )
 simp
theorem learn_no (g:Gr) (hg:Rd g) (h:¬ GOk g):Pure Tryz.prog γ false 27 [aGr g] (.tup [aFc g 0 [] [] [] [] [] [] [] [] [],.b fun _=>false]):=by
 have kd:=dAll_no (γ:=γ) g hg h
 refine Pure.go (ty:=ty) ty_eq mo Tryz.func27 rfl Tryz.ntmps27 Tryz.results27 Tryz.call27 (by simp) fun P C CQ D W F E hF=>?_
 cbv
 repeat' (first
  |(refine E.c (SCalls.of_le (kd) ?_ ?_);(· (cbv;(try simp only [nc] at *);first|done|(simp;done)|(simp (disch:=(first|omega|(simp only [lnS];omega))) only [rdT,rdS,anT];first|done|omega|(refine ⟨?_,?_⟩<;>omega))|(simp (disch:=(first|omega|(simp only [lnS];omega))) [rdT,rdS];done)));cbv)
  |(refine ⟨fun _ h_s=>?_,fun _ h_s=>?_⟩<;>(cbv;(try simp only [nc] at *);try simp (disch:=(first|omega|(simp only [lnS];omega))) only [rdT,rdS,reduceCtorEq,trT] at h_s))
  |(refine hF ?_;intro _;clear hF)
  |(refine hF ?_;cbv;clear hF)
  |(refine ⟨fun _=>?_,?_⟩;(· ((try simp only [nc] at *);first|done|omega|exact ⟨by omega,rfl⟩|(simp (disch:=(first|omega|(simp only [lnS];omega))) only [rdT,rdS];first|done|omega|rfl|exact ⟨by omega,rfl⟩|(simp;done)|(simp;omega))|(intros;trivial)));(try (simp only [nc] at *));(try simp (disch:=(first|omega|(simp only [lnS];omega))) only [rdT,rdS]);(try cbv))
  | fail
 )
 simp
theorem rulesF_ok:Pure Tryz.prog γ false 28 [] (.agg [.raw .nilFunc,.fn 39 [] [],.fn 40 [] [],.fn 41 [] [],.fn 43 [] [],.fn 44 [] [],.fn 45 [] []]):=by
 refine Pure.go (ty:=ty) ty_eq mo Tryz.func28 rfl Tryz.ntmps28 Tryz.results28 Tryz.call28 (by simp) fun P C CQ D W F E hF=>?_
 cbv
 repeat' (first
  |(refine ⟨fun _ h_s=>?_,fun _ h_s=>?_⟩<;>(cbv;(try simp only [nc] at *);try simp (disch:=(first|omega|(simp only [lnS];omega))) only [rdT,rdS,reduceCtorEq,trT] at h_s))
  |(refine hF ?_;intro _;clear hF)
  |(refine hF ?_;cbv;clear hF)
  |(refine ⟨fun _=>?_,?_⟩;(· ((try simp only [nc] at *);first|done|omega|exact ⟨by omega,rfl⟩|(simp (disch:=(first|omega|(simp only [lnS];omega))) only [rdT,rdS];first|done|omega|rfl|exact ⟨by omega,rfl⟩|(simp;done)|(simp;omega))|(intros;trivial)));(try (simp only [nc] at *));(try simp (disch:=(first|omega|(simp only [lnS];omega))) only [rdT,rdS]);(try cbv))
  | fail
 )
theorem find_at (p:Int→Bool):∀ (l:List Int) (a:Nat),a<l.length→p (l.getD a 0)=true→(∀ j<a,p (l.getD j 0)=false)→l.find? p=some (l.getD a 0)
 | [],a,h,_,_=>absurd h (Nat.not_lt_zero _)
 | x :: l,0,_,h,_=>by simp at h;simp [h]
 | x :: l,a+1,hl,h,hb=>by
  have h0:=hb 0 (by omega)
  simp at h0
  rw [List.find?_cons_of_neg (by simp [h0])]
  have:=find_at p l a (by simpa using hl) (by simpa using h) fun j hj=>by simpa using hb (j+1) (by omega)
  simpa using this
theorem find_no (p:Int→Bool) (l:List Int) (hb:∀ j<l.length,p (l.getD j 0)=false):l.find? p=none:=by
 rw [List.find?_eq_none]
 intro x hx
 obtain ⟨i,hi,rfl⟩:=List.getElem_of_mem hx
 have:=hb i hi
 simp [hi] at this
 simp [this]
abbrev aBk (b:Bk):AV:=.tup [.agg [.i fun _=>b.rule,.i fun _=>b.a,.i fun _=>b.b],.b fun _=>b.br]
theorem why_bad (m:Int) (g:Gr) (hm:m≠1∧m≠2):Pure Tryz.prog γ false 14 [.i fun _=>m,aGr g] (aBk ⟨0,0,0,false⟩):=by
 have kn:=known_ok (γ:=γ) m
 rw [decide_eq_false (by omega)] at kn
 refine Pure.go (ty:=ty) ty_eq mo Tryz.func14 rfl Tryz.ntmps14 Tryz.results14 Tryz.call14 (by simp) fun P C CQ D W F E hF=>?_
 cbv
 repeat' (first
  |(refine E.c (SCalls.of_le (kn) ?_ ?_);(· (cbv;(try simp only [nc] at *);first|done|(simp;done)|(simp (disch:=(first|omega|(simp only [lnS];omega))) only [rdT,rdS,anT];first|done|omega|(refine ⟨?_,?_⟩<;>omega))|(simp (disch:=(first|omega|(simp only [lnS];omega))) [rdT,rdS];done)));cbv)
  |(refine ⟨fun _ h_s=>?_,fun _ h_s=>?_⟩<;>(cbv;(try simp only [nc] at *);try simp (disch:=(first|omega|(simp only [lnS];omega))) only [rdT,rdS,reduceCtorEq,trT] at h_s))
  |(refine hF ?_;intro _;clear hF)
  |(refine hF ?_;cbv;clear hF)
  |(refine ⟨fun _=>?_,?_⟩;(· ((try simp only [nc] at *);first|done|omega|exact ⟨by omega,rfl⟩|(simp (disch:=(first|omega|(simp only [lnS];omega))) only [rdT,rdS];first|done|omega|rfl|exact ⟨by omega,rfl⟩|(simp;done)|(simp;omega))|(intros;trivial)));(try (simp only [nc] at *));(try simp (disch:=(first|omega|(simp only [lnS];omega))) only [rdT,rdS]);(try cbv))
  | fail
 )
 simp
theorem why_no (m:Int) (g:Gr) (hm:m=1∨m=2) (hg:Rd g) (h:¬ GOk g):Pure Tryz.prog γ false 14 [.i fun _=>m,aGr g] (aBk ⟨1,-1,-1,true⟩):=by
 have kn:=known_ok (γ:=γ) m
 rw [decide_eq_true hm] at kn
 have kl:=learn_no (γ:=γ) g hg h
 refine Pure.go (ty:=ty) ty_eq mo Tryz.func14 rfl Tryz.ntmps14 Tryz.results14 Tryz.call14 (by simp) fun P C CQ D W F E hF=>?_
 cbv
 repeat' (first
  |(refine E.c (SCalls.of_le (kl) ?_ ?_);(· (cbv;(try simp only [nc] at *);first|done|(simp;done)|(simp (disch:=(first|omega|(simp only [lnS];omega))) only [rdT,rdS,anT];first|done|omega|(refine ⟨?_,?_⟩<;>omega))|(simp (disch:=(first|omega|(simp only [lnS];omega))) [rdT,rdS];done)));cbv)
  |(refine E.c (SCalls.of_le (kn) ?_ ?_);(· (cbv;(try simp only [nc] at *);first|done|(simp;done)|(simp (disch:=(first|omega|(simp only [lnS];omega))) only [rdT,rdS,anT];first|done|omega|(refine ⟨?_,?_⟩<;>omega))|(simp (disch:=(first|omega|(simp only [lnS];omega))) [rdT,rdS];done)));cbv)
  |(refine ⟨fun _ h_s=>?_,fun _ h_s=>?_⟩<;>(cbv;(try simp only [nc] at *);try simp (disch:=(first|omega|(simp only [lnS];omega))) only [rdT,rdS,reduceCtorEq,trT] at h_s))
  |(refine hF ?_;intro _;clear hF)
  |(refine hF ?_;cbv;clear hF)
  |(refine ⟨fun _=>?_,?_⟩;(· ((try simp only [nc] at *);first|done|omega|exact ⟨by omega,rfl⟩|(simp (disch:=(first|omega|(simp only [lnS];omega))) only [rdT,rdS];first|done|omega|rfl|exact ⟨by omega,rfl⟩|(simp;done)|(simp;omega))|(intros;trivial)));(try (simp only [nc] at *));(try simp (disch:=(first|omega|(simp only [lnS];omega))) only [rdT,rdS]);(try cbv))
  | fail
 )
 simp
theorem why_yes (m:Int) (l:List Int) (g:Gr) (hm:m=1∨m=2) (hl:l.length≤9) (hr:∀ a<l.length,l.getD a 0=1∨l.getD a 0=2∨l.getD a 0=3∨l.getD a 0=4∨l.getD a 0=5∨l.getD a 0=6)
  (kr:Pure Tryz.prog γ false 29 [.i fun _=>m] (.vs 1 fun _=>is l)) (hg:Rd g) (h:GOk g) :
  Pure Tryz.prog γ false 14 [.i fun _=>m,aGr g] (aBk (match l.find? fun k=>(fltM (viewG g) (nG g) k).br with
   | some k=>⟨k,(fltM (viewG g) (nG g) k).a,(fltM (viewG g) (nG g) k).b,true⟩
   | none=>⟨0,0,0,false⟩)):=by
 have kn:=known_ok (γ:=γ) m
 rw [decide_eq_true hm] at kn
 have kl:=learn_yes (γ:=γ) g hg h
 have kf:=rulesF_ok (γ:=γ)
 have f1:=flt1_ok (γ:=γ) g
 have f2:=flt2_ok (γ:=γ) g hg h
 have f3:=flt3_ok (γ:=γ) g h
 have f4:=flt4_ok (γ:=γ) g h
 have f5:=flt5_ok (γ:=γ) g h
 have f6:=flt6_ok (γ:=γ) g h
 unfold aFg at *
 generalize poF (viewG g) (nG g)=q1 at *
 generalize rfF (viewG g) (nG g)=q2 at *
 generalize coF (viewG g) (nG g)=q3 at *
 generalize frF (viewG g) (nG g)=q4 at *
 generalize swF (viewG g) (nG g)=q5 at *
 generalize ecoF (viewG g) (nG g)=q6 at *
 generalize porfF (viewG g) (nG g)=q7 at *
 generalize hbF (viewG g) (nG g)=q8 at *
 generalize locF (viewG g) (nG g)=q9 at *
 generalize fltM (viewG g) (nG g)=fl at *
 generalize nG g=n at *
 obtain ⟨B,hB⟩:∃ B:Bk,B=(match l.find? fun k=>(fl k).br with
   | some k=>⟨k,(fl k).a,(fl k).b,true⟩
   | none=>⟨0,0,0,false⟩):=⟨_,rfl⟩
 rw [←hB]
 have hB1:∀ a<l.length,(fl (l.getD a 0)).br=true→(∀ j<a,(fl (l.getD j 0)).br=false)→B=⟨l.getD a 0,(fl (l.getD a 0)).a,(fl (l.getD a 0)).b,true⟩:=fun a h1 h2 h3=>by
  rw [hB,find_at (fun k=>(fl k).br) l a h1 h2 h3]
 have hB0:(∀ j<l.length,(fl (l.getD j 0)).br=false)→B=⟨0,0,0,false⟩:=fun h3=>by
  rw [hB,find_no (fun k=>(fl k).br) l h3]
 clear hB
 refine Pure.go (ty:=ty) ty_eq mo Tryz.func14 rfl Tryz.ntmps14 Tryz.results14 Tryz.call14 (by simp) fun P C CQ D W F E hF=>?_
 cbv
 repeat' (first
  |(refine E.c (SCalls.of_le (kr) ?_ ?_);(· (cbv;(try simp only [nc] at *);first|done|(simp;done)|(simp (disch:=(first|omega|(simp only [lnS];omega))) only [rdT,rdS,anT];first|done|omega|(refine ⟨?_,?_⟩<;>omega))|(simp (disch:=(first|omega|(simp only [lnS];omega))) [rdT,rdS];done)));cbv)
  |(refine E.c (SCalls.of_le (kf) ?_ ?_);(· (cbv;(try simp only [nc] at *);first|done|(simp;done)|(simp (disch:=(first|omega|(simp only [lnS];omega))) only [rdT,rdS,anT];first|done|omega|(refine ⟨?_,?_⟩<;>omega))|(simp (disch:=(first|omega|(simp only [lnS];omega))) [rdT,rdS];done)));cbv)
  |(refine E.c (SCalls.of_le (kl) ?_ ?_);(· (cbv;(try simp only [nc] at *);first|done|(simp;done)|(simp (disch:=(first|omega|(simp only [lnS];omega))) only [rdT,rdS,anT];first|done|omega|(refine ⟨?_,?_⟩<;>omega))|(simp (disch:=(first|omega|(simp only [lnS];omega))) [rdT,rdS];done)));cbv)
  |(refine E.c (SCalls.of_le (kn) ?_ ?_);(· (cbv;(try simp only [nc] at *);first|done|(simp;done)|(simp (disch:=(first|omega|(simp only [lnS];omega))) only [rdT,rdS,anT];first|done|omega|(refine ⟨?_,?_⟩<;>omega))|(simp (disch:=(first|omega|(simp only [lnS];omega))) [rdT,rdS];done)));cbv)
  |(refine ⟨fun _ h_s=>?_,fun _ h_s=>?_⟩<;>(cbv;(try simp only [nc] at *);try simp (disch:=(first|omega|(simp only [lnS];omega))) only [rdT,rdS,reduceCtorEq,trT] at h_s))
  |(refine hF ?_;intro _;clear hF)
  |(refine hF ?_;cbv;clear hF)
  |(refine ⟨fun _=>?_,?_⟩;(· ((try simp only [nc] at *);first|done|omega|exact ⟨by omega,rfl⟩|(simp (disch:=(first|omega|(simp only [lnS];omega))) only [rdT,rdS];first|done|omega|rfl|exact ⟨by omega,rfl⟩|(simp;done)|(simp;omega))|(intros;trivial)));(try (simp only [nc] at *));(try simp (disch:=(first|omega|(simp only [lnS];omega))) only [rdT,rdS]);(try cbv))
  | fail
 )
 refine E.loopS (ι:=Nat) (fun a=>a≤l.length∧(∀ j<a,(fl (l.getD j 0)).br=false)) (fun a=>l.length-a) (fun a=>[(28,.i fun _=>((a:Nat):Int))]) (fun a h=>h) 0 (fun _=>by first|rfl|simp) ⟨Nat.zero_le _,?_⟩ ?_ fun a ha I hI=>?_
 ·intro k hk;omega
 ·cbv;simp
 cbv
 obtain ⟨ha,hp⟩:=ha
 have hra:=hr a
 repeat' (first
  |(refine hI (a+1) ?_ ?_ ?_;rotate_left 1;(· ((try simp only [nc] at *);omega));(cbv;clear hI;(try clear hF);(try simp only [nc] at *);(try simp (disch:=(first|omega|(simp only [lnS];omega))) only [rdT,rdS,anT]));rotate_left 1;(try ((try simp only [nc] at *);omega)))
  |(refine E.de 6 [] [none] (by decide +kernel) ?_;cbv;(fail_if_success guard_target =~ False))
  |(refine ⟨fun _ h_s=>?_,fun _ h_s=>?_⟩<;>(cbv;(try simp only [nc] at *);try simp (disch:=(first|omega|(simp only [lnS];omega))) only [rdT,rdS,reduceCtorEq,trT] at h_s))
  |(refine hF ?_;intro _;clear hF)
  |(refine hF ?_;cbv;clear hF)
  |(refine ⟨fun _=>?_,?_⟩;(· ((try simp only [nc] at *);first|done|omega|exact ⟨by omega,rfl⟩|(simp (disch:=(first|omega|(simp only [lnS];omega))) only [rdT,rdS];first|done|omega|rfl|exact ⟨by omega,rfl⟩|(simp;done)|(simp;omega))|(intros;trivial)));(try (simp only [nc] at *));(try simp (disch:=(first|omega|(simp only [lnS];omega))) only [rdT,rdS]);(try cbv))
  | fail
 )
 ·have ha':a<l.length:=by ((try simp only [nc] at *);omega)
  have hB1a:=hB1 a ha'
  clear hB1 hB0 hr kr kn kl kf
  rcases hra ha' with e | e | e | e | e | e
  ·refine ⟨1,fun _=>e,by decide,?_⟩
   cbv
   rw [e] at hB1a
   repeat' (first
    |(refine hI (a+1) ?_ ?_ ?_;rotate_left 1;(· ((try simp only [nc] at *);omega));(cbv;clear hI;(try clear hF);(try simp only [nc] at *);(try simp (disch:=(first|omega|(simp only [lnS];omega))) only [rdT,rdS,anT]));rotate_left 1;(try ((try simp only [nc] at *);omega)))
    |((first|refine E.c (SCalls.of_le (f1) ?_ ?_)|refine E.q (QCalls.of_le (f1) ?_ ?_));(· (cbv;(try simp only [nc] at *);first|done|(simp;done)|(simp (disch:=(first|omega|(simp only [lnS];omega))) only [rdT,rdS,anT];first|done|omega|(refine ⟨?_,?_⟩<;>omega))|(simp (disch:=(first|omega|(simp only [lnS];omega))) [rdT,rdS];done)));cbv)
    |(refine ⟨fun _ h_s=>?_,fun _ h_s=>?_⟩<;>(cbv;(try simp only [nc] at *);try simp (disch:=(first|omega|(simp only [lnS];omega))) only [rdT,rdS,reduceCtorEq,trT] at h_s))
    |(refine hF ?_;intro _;clear hF)
    |(refine hF ?_;cbv;clear hF)
    |(refine ⟨fun _=>?_,?_⟩;(· ((try simp only [nc] at *);first|done|omega|exact ⟨by omega,rfl⟩|(simp (disch:=(first|omega|(simp only [lnS];omega))) only [rdT,rdS];first|done|omega|rfl|exact ⟨by omega,rfl⟩|(simp;done)|(simp;omega))|(intros;trivial)));(try (simp only [nc] at *));(try simp (disch:=(first|omega|(simp only [lnS];omega))) only [rdT,rdS]);(try cbv))
    | fail
   )
   ·rw [hB1a h_s hp]
    exact ⟨⟨fun _=>e,fun _=>rfl,fun _=>rfl,trivial⟩,fun _=>rfl,trivial⟩
   ·refine ⟨by ((try simp only [nc] at *);omega),fun j hj=>?_⟩
    rcases Nat.lt_or_ge j a with h1 | h1
    ·exact hp j h1
    ·obtain rfl:j=a:=by omega
     rw [e];assumption
   ·push_cast;rfl
  ·refine ⟨2,fun _=>e,by decide,?_⟩
   cbv
   rw [e] at hB1a
   repeat' (first
    |(refine hI (a+1) ?_ ?_ ?_;rotate_left 1;(· ((try simp only [nc] at *);omega));(cbv;clear hI;(try clear hF);(try simp only [nc] at *);(try simp (disch:=(first|omega|(simp only [lnS];omega))) only [rdT,rdS,anT]));rotate_left 1;(try ((try simp only [nc] at *);omega)))
    |((first|refine E.c (SCalls.of_le (f2) ?_ ?_)|refine E.q (QCalls.of_le (f2) ?_ ?_));(· (cbv;(try simp only [nc] at *);first|done|(simp;done)|(simp (disch:=(first|omega|(simp only [lnS];omega))) only [rdT,rdS,anT];first|done|omega|(refine ⟨?_,?_⟩<;>omega))|(simp (disch:=(first|omega|(simp only [lnS];omega))) [rdT,rdS];done)));cbv)
    |(refine ⟨fun _ h_s=>?_,fun _ h_s=>?_⟩<;>(cbv;(try simp only [nc] at *);try simp (disch:=(first|omega|(simp only [lnS];omega))) only [rdT,rdS,reduceCtorEq,trT] at h_s))
    |(refine hF ?_;intro _;clear hF)
    |(refine hF ?_;cbv;clear hF)
    |(refine ⟨fun _=>?_,?_⟩;(· ((try simp only [nc] at *);first|done|omega|exact ⟨by omega,rfl⟩|(simp (disch:=(first|omega|(simp only [lnS];omega))) only [rdT,rdS];first|done|omega|rfl|exact ⟨by omega,rfl⟩|(simp;done)|(simp;omega))|(intros;trivial)));(try (simp only [nc] at *));(try simp (disch:=(first|omega|(simp only [lnS];omega))) only [rdT,rdS]);(try cbv))
    | fail
   )
   ·rw [hB1a h_s hp]
    exact ⟨⟨fun _=>e,fun _=>rfl,fun _=>rfl,trivial⟩,fun _=>rfl,trivial⟩
   ·refine ⟨by ((try simp only [nc] at *);omega),fun j hj=>?_⟩
    rcases Nat.lt_or_ge j a with h1 | h1
    ·exact hp j h1
    ·obtain rfl:j=a:=by omega
     rw [e];assumption
   ·push_cast;rfl
  ·refine ⟨3,fun _=>e,by decide,?_⟩
   cbv
   rw [e] at hB1a
   repeat' (first
    |(refine hI (a+1) ?_ ?_ ?_;rotate_left 1;(· ((try simp only [nc] at *);omega));(cbv;clear hI;(try clear hF);(try simp only [nc] at *);(try simp (disch:=(first|omega|(simp only [lnS];omega))) only [rdT,rdS,anT]));rotate_left 1;(try ((try simp only [nc] at *);omega)))
    |((first|refine E.c (SCalls.of_le (f3) ?_ ?_)|refine E.q (QCalls.of_le (f3) ?_ ?_));(· (cbv;(try simp only [nc] at *);first|done|(simp;done)|(simp (disch:=(first|omega|(simp only [lnS];omega))) only [rdT,rdS,anT];first|done|omega|(refine ⟨?_,?_⟩<;>omega))|(simp (disch:=(first|omega|(simp only [lnS];omega))) [rdT,rdS];done)));cbv)
    |(refine ⟨fun _ h_s=>?_,fun _ h_s=>?_⟩<;>(cbv;(try simp only [nc] at *);try simp (disch:=(first|omega|(simp only [lnS];omega))) only [rdT,rdS,reduceCtorEq,trT] at h_s))
    |(refine hF ?_;intro _;clear hF)
    |(refine hF ?_;cbv;clear hF)
    |(refine ⟨fun _=>?_,?_⟩;(· ((try simp only [nc] at *);first|done|omega|exact ⟨by omega,rfl⟩|(simp (disch:=(first|omega|(simp only [lnS];omega))) only [rdT,rdS];first|done|omega|rfl|exact ⟨by omega,rfl⟩|(simp;done)|(simp;omega))|(intros;trivial)));(try (simp only [nc] at *));(try simp (disch:=(first|omega|(simp only [lnS];omega))) only [rdT,rdS]);(try cbv))
    | fail
   )
   ·rw [hB1a h_s hp]
    exact ⟨⟨fun _=>e,fun _=>rfl,fun _=>rfl,trivial⟩,fun _=>rfl,trivial⟩
   ·refine ⟨by ((try simp only [nc] at *);omega),fun j hj=>?_⟩
    rcases Nat.lt_or_ge j a with h1 | h1
    ·exact hp j h1
    ·obtain rfl:j=a:=by omega
     rw [e];assumption
   ·push_cast;rfl
  ·refine ⟨4,fun _=>e,by decide,?_⟩
   cbv
   rw [e] at hB1a
   repeat' (first
    |(refine hI (a+1) ?_ ?_ ?_;rotate_left 1;(· ((try simp only [nc] at *);omega));(cbv;clear hI;(try clear hF);(try simp only [nc] at *);(try simp (disch:=(first|omega|(simp only [lnS];omega))) only [rdT,rdS,anT]));rotate_left 1;(try ((try simp only [nc] at *);omega)))
    |((first|refine E.c (SCalls.of_le (f4) ?_ ?_)|refine E.q (QCalls.of_le (f4) ?_ ?_));(· (cbv;(try simp only [nc] at *);first|done|(simp;done)|(simp (disch:=(first|omega|(simp only [lnS];omega))) only [rdT,rdS,anT];first|done|omega|(refine ⟨?_,?_⟩<;>omega))|(simp (disch:=(first|omega|(simp only [lnS];omega))) [rdT,rdS];done)));cbv)
    |(refine ⟨fun _ h_s=>?_,fun _ h_s=>?_⟩<;>(cbv;(try simp only [nc] at *);try simp (disch:=(first|omega|(simp only [lnS];omega))) only [rdT,rdS,reduceCtorEq,trT] at h_s))
    |(refine hF ?_;intro _;clear hF)
    |(refine hF ?_;cbv;clear hF)
    |(refine ⟨fun _=>?_,?_⟩;(· ((try simp only [nc] at *);first|done|omega|exact ⟨by omega,rfl⟩|(simp (disch:=(first|omega|(simp only [lnS];omega))) only [rdT,rdS];first|done|omega|rfl|exact ⟨by omega,rfl⟩|(simp;done)|(simp;omega))|(intros;trivial)));(try (simp only [nc] at *));(try simp (disch:=(first|omega|(simp only [lnS];omega))) only [rdT,rdS]);(try cbv))
    | fail
   )
   ·rw [hB1a h_s hp]
    exact ⟨⟨fun _=>e,fun _=>rfl,fun _=>rfl,trivial⟩,fun _=>rfl,trivial⟩
   ·refine ⟨by ((try simp only [nc] at *);omega),fun j hj=>?_⟩
    rcases Nat.lt_or_ge j a with h1 | h1
    ·exact hp j h1
    ·obtain rfl:j=a:=by omega
     rw [e];assumption
   ·push_cast;rfl
  ·refine ⟨5,fun _=>e,by decide,?_⟩
   cbv
   rw [e] at hB1a
   repeat' (first
    |(refine hI (a+1) ?_ ?_ ?_;rotate_left 1;(· ((try simp only [nc] at *);omega));(cbv;clear hI;(try clear hF);(try simp only [nc] at *);(try simp (disch:=(first|omega|(simp only [lnS];omega))) only [rdT,rdS,anT]));rotate_left 1;(try ((try simp only [nc] at *);omega)))
    |((first|refine E.c (SCalls.of_le (f5) ?_ ?_)|refine E.q (QCalls.of_le (f5) ?_ ?_));(· (cbv;(try simp only [nc] at *);first|done|(simp;done)|(simp (disch:=(first|omega|(simp only [lnS];omega))) only [rdT,rdS,anT];first|done|omega|(refine ⟨?_,?_⟩<;>omega))|(simp (disch:=(first|omega|(simp only [lnS];omega))) [rdT,rdS];done)));cbv)
    |(refine ⟨fun _ h_s=>?_,fun _ h_s=>?_⟩<;>(cbv;(try simp only [nc] at *);try simp (disch:=(first|omega|(simp only [lnS];omega))) only [rdT,rdS,reduceCtorEq,trT] at h_s))
    |(refine hF ?_;intro _;clear hF)
    |(refine hF ?_;cbv;clear hF)
    |(refine ⟨fun _=>?_,?_⟩;(· ((try simp only [nc] at *);first|done|omega|exact ⟨by omega,rfl⟩|(simp (disch:=(first|omega|(simp only [lnS];omega))) only [rdT,rdS];first|done|omega|rfl|exact ⟨by omega,rfl⟩|(simp;done)|(simp;omega))|(intros;trivial)));(try (simp only [nc] at *));(try simp (disch:=(first|omega|(simp only [lnS];omega))) only [rdT,rdS]);(try cbv))
    | fail
   )
   ·rw [hB1a h_s hp]
    exact ⟨⟨fun _=>e,fun _=>rfl,fun _=>rfl,trivial⟩,fun _=>rfl,trivial⟩
   ·refine ⟨by ((try simp only [nc] at *);omega),fun j hj=>?_⟩
    rcases Nat.lt_or_ge j a with h1 | h1
    ·exact hp j h1
    ·obtain rfl:j=a:=by omega
     rw [e];assumption
   ·push_cast;rfl
  ·refine ⟨6,fun _=>e,by decide,?_⟩
   cbv
   rw [e] at hB1a
   repeat' (first
    |(refine hI (a+1) ?_ ?_ ?_;rotate_left 1;(· ((try simp only [nc] at *);omega));(cbv;clear hI;(try clear hF);(try simp only [nc] at *);(try simp (disch:=(first|omega|(simp only [lnS];omega))) only [rdT,rdS,anT]));rotate_left 1;(try ((try simp only [nc] at *);omega)))
    |((first|refine E.c (SCalls.of_le (f6) ?_ ?_)|refine E.q (QCalls.of_le (f6) ?_ ?_));(· (cbv;(try simp only [nc] at *);first|done|(simp;done)|(simp (disch:=(first|omega|(simp only [lnS];omega))) only [rdT,rdS,anT];first|done|omega|(refine ⟨?_,?_⟩<;>omega))|(simp (disch:=(first|omega|(simp only [lnS];omega))) [rdT,rdS];done)));cbv)
    |(refine ⟨fun _ h_s=>?_,fun _ h_s=>?_⟩<;>(cbv;(try simp only [nc] at *);try simp (disch:=(first|omega|(simp only [lnS];omega))) only [rdT,rdS,reduceCtorEq,trT] at h_s))
    |(refine hF ?_;intro _;clear hF)
    |(refine hF ?_;cbv;clear hF)
    |(refine ⟨fun _=>?_,?_⟩;(· ((try simp only [nc] at *);first|done|omega|exact ⟨by omega,rfl⟩|(simp (disch:=(first|omega|(simp only [lnS];omega))) only [rdT,rdS];first|done|omega|rfl|exact ⟨by omega,rfl⟩|(simp;done)|(simp;omega))|(intros;trivial)));(try (simp only [nc] at *));(try simp (disch:=(first|omega|(simp only [lnS];omega))) only [rdT,rdS]);(try cbv))
    | fail
   )
   ·rw [hB1a h_s hp]
    exact ⟨⟨fun _=>e,fun _=>rfl,fun _=>rfl,trivial⟩,fun _=>rfl,trivial⟩
   ·refine ⟨by ((try simp only [nc] at *);omega),fun j hj=>?_⟩
    rcases Nat.lt_or_ge j a with h1 | h1
    ·exact hp j h1
    ·obtain rfl:j=a:=by omega
     rw [e];assumption
   ·push_cast;rfl
 ·have e:a=l.length:=by ((try simp only [nc] at *);omega)
  subst e
  rw [hB0 hp]
  simp
theorem mcheck_ok (m:Int) (g:Gr) (b:Bk) (kw:Pure Tryz.prog γ false 14 [.i fun _=>m,aGr g] (aBk b)):Pure Tryz.prog γ false 12 [.i fun _=>m,aGr g] (.tup [.b fun _=>decide (m=1∨m=2) && !b.br,.i fun _=>if m=1∨m=2 then 0 else 2]):=by
 have kn:=known_ok (γ:=γ) m
 by_cases hm:m=1∨m=2
 ·rw [decide_eq_true hm] at kn ⊢
  rw [if_pos hm]
  refine Pure.go (ty:=ty) ty_eq mo Tryz.func12 rfl Tryz.ntmps12 Tryz.results12 Tryz.call12 (by simp) fun P C CQ D W F E hF=>?_
  cbv
  repeat' (first
   |(refine E.c (SCalls.of_le (kw) ?_ ?_);(· (cbv;(try simp only [nc] at *);first|done|(simp;done)|(simp (disch:=(first|omega|(simp only [lnS];omega))) only [rdT,rdS,anT];first|done|omega|(refine ⟨?_,?_⟩<;>omega))|(simp (disch:=(first|omega|(simp only [lnS];omega))) [rdT,rdS];done)));cbv)
   |(refine E.c (SCalls.of_le (kn) ?_ ?_);(· (cbv;(try simp only [nc] at *);first|done|(simp;done)|(simp (disch:=(first|omega|(simp only [lnS];omega))) only [rdT,rdS,anT];first|done|omega|(refine ⟨?_,?_⟩<;>omega))|(simp (disch:=(first|omega|(simp only [lnS];omega))) [rdT,rdS];done)));cbv)
   |(refine ⟨fun _ h_s=>?_,fun _ h_s=>?_⟩<;>(cbv;(try simp only [nc] at *);try simp (disch:=(first|omega|(simp only [lnS];omega))) only [rdT,rdS,reduceCtorEq,trT] at h_s))
   |(refine hF ?_;intro _;clear hF)
   |(refine hF ?_;cbv;clear hF)
   |(refine ⟨fun _=>?_,?_⟩;(· ((try simp only [nc] at *);first|done|omega|exact ⟨by omega,rfl⟩|(simp (disch:=(first|omega|(simp only [lnS];omega))) only [rdT,rdS];first|done|omega|rfl|exact ⟨by omega,rfl⟩|(simp;done)|(simp;omega))|(intros;trivial)));(try (simp only [nc] at *));(try simp (disch:=(first|omega|(simp only [lnS];omega))) only [rdT,rdS]);(try cbv))
   | fail
  )
 ·rw [decide_eq_false hm] at kn ⊢
  rw [if_neg hm]
  refine Pure.go (ty:=ty) ty_eq mo Tryz.func12 rfl Tryz.ntmps12 Tryz.results12 Tryz.call12 (by simp) fun P C CQ D W F E hF=>?_
  cbv
  repeat' (first
   |(refine E.c (SCalls.of_le (kn) ?_ ?_);(· (cbv;(try simp only [nc] at *);first|done|(simp;done)|(simp (disch:=(first|omega|(simp only [lnS];omega))) only [rdT,rdS,anT];first|done|omega|(refine ⟨?_,?_⟩<;>omega))|(simp (disch:=(first|omega|(simp only [lnS];omega))) [rdT,rdS];done)));cbv)
   |(refine ⟨fun _ h_s=>?_,fun _ h_s=>?_⟩<;>(cbv;(try simp only [nc] at *);try simp (disch:=(first|omega|(simp only [lnS];omega))) only [rdT,rdS,reduceCtorEq,trT] at h_s))
   |(refine hF ?_;intro _;clear hF)
   |(refine hF ?_;cbv;clear hF)
   |(refine ⟨fun _=>?_,?_⟩;(· ((try simp only [nc] at *);first|done|omega|exact ⟨by omega,rfl⟩|(simp (disch:=(first|omega|(simp only [lnS];omega))) only [rdT,rdS];first|done|omega|rfl|exact ⟨by omega,rfl⟩|(simp;done)|(simp;omega))|(intros;trivial)));(try (simp only [nc] at *));(try simp (disch:=(first|omega|(simp only [lnS];omega))) only [rdT,rdS]);(try cbv))
   | fail
  )
end Go.AL.Rl
namespace Go.AL.Rl
open Go Go.AL Go.Proofs
set_option maxRecDepth 100000
set_option maxHeartbeats 1600000
section
variable {g h:Gr} (W:Wk g h)
include W
end
noncomputable def allHold (g:Gr) (l:List Int):Bool:=l.all fun k=>!(fltM (viewG g) (nG g) k).br
section
variable {γ:Nat→Option AV}
theorem find_all (g:Gr) (l:List Int):allHold g l=(l.find? fun k=>(fltM (viewG g) (nG g) k).br).isNone:=by
 unfold allHold
 rw [Bool.eq_iff_iff,List.all_eq_true,Option.isNone_iff_eq_none,List.find?_eq_none]
 simp
theorem mcheck1 (g:Gr) (hR:Rd g) (hg:GOk g):Pure Tryz.prog γ false 12 [.i fun _=>1,aGr g] (.tup [.b fun _=>allHold g [1,2,6],.i fun _=>0]):=by
 have c1:=mcheck_ok (γ:=γ) 1 g _ (why_yes (γ:=γ) 1 [1,2,6] g (.inl rfl) (by simp) (by decide) rules_yes1 hR hg)
 rw [if_pos (.inl rfl),decide_eq_true (.inl rfl),Bool.true_and] at c1
 rw [find_all]
 cases hf:[1,2,6].find? fun k=>(fltM (viewG g) (nG g) k).br with
 | none=>rw [hf] at c1;exact c1
 | some k=>rw [hf] at c1;exact c1
theorem mcheck2 (g:Gr) (hR:Rd g) (hg:GOk g):Pure Tryz.prog γ false 12 [.i fun _=>2,aGr g] (.tup [.b fun _=>allHold g [1,2,3,4,5],.i fun _=>0]):=by
 have c1:=mcheck_ok (γ:=γ) 2 g _ (why_yes (γ:=γ) 2 [1,2,3,4,5] g (.inr rfl) (by simp) (by decide) rules_yes2 hR hg)
 rw [if_pos (.inr rfl),decide_eq_true (.inr rfl),Bool.true_and] at c1
 rw [find_all]
 cases hf:[1,2,3,4,5].find? fun k=>(fltM (viewG g) (nG g) k).br with
 | none=>rw [hf] at c1;exact c1
 | some k=>rw [hf] at c1;exact c1
end
end Go.AL.Rl
namespace Go.AL.Rl
open Go Go.AL Go.Proofs
set_option maxRecDepth 100000
set_option maxHeartbeats 1600000
variable {γ:Nat→Option AV}
structure Ak where
 kind:Int
 loc:Int
 order:Int
 a:Int
 b:Int
abbrev aAsk (a:Ak):AV:=.agg [.i fun _=>a.kind,.i fun _=>a.loc,.i fun _=>a.order,.i fun _=>a.a,.i fun _=>a.b]
def add64 (x y:Int):Int:=(x+y).bmod 18446744073709551616
def ansM (a:Ak) (v:Int):Ev:=
 if a.kind=2 then ⟨1,a.loc,a.order,v,0⟩
 else if a.kind=4 then (if v=a.a then ⟨3,a.loc,a.order,v,a.b⟩ else ⟨1,a.loc,a.order,v,0⟩)
 else if a.kind=5 then ⟨3,a.loc,a.order,v,add64 v a.a⟩
 else if a.kind=6 then ⟨3,a.loc,a.order,v,a.a⟩
 else ev0
def ansE (a:Ak):Int:=if a.kind=2∨a.kind=4∨a.kind=5∨a.kind=6 then 0 else 2
theorem ianswer_ok (a:Ak) (v:Int):Pure Tryz.prog γ false 16 [aAsk a,.i fun _=>v] (.tup [aEv (ansM a v),.i fun _=>ansE a]):=by
 unfold ansM ansE
 refine Pure.go (ty:=ty) ty_eq mo Tryz.func16 rfl Tryz.ntmps16 Tryz.results16 Tryz.call16 (by simp) fun P C CQ D W F E hF=>?_
 cbv
 repeat' (first
  |(refine ⟨fun _ h_s=>?_,fun _ h_s=>?_⟩<;>(cbv;(try simp only [nc] at *);try simp (disch:=(first|omega|(simp only [lnS];omega))) only [rdT,rdS,reduceCtorEq,trT] at h_s))
  |(refine hF ?_;intro _;clear hF)
  |(refine hF ?_;cbv;clear hF)
  |(refine ⟨fun _=>?_,?_⟩;(· ((try simp only [nc] at *);first|done|omega|exact ⟨by omega,rfl⟩|(simp (disch:=(first|omega|(simp only [lnS];omega))) only [rdT,rdS];first|done|omega|rfl|exact ⟨by omega,rfl⟩|(simp;done)|(simp;omega))|(intros;trivial)));(try (simp only [nc] at *));(try simp (disch:=(first|omega|(simp only [lnS];omega))) only [rdT,rdS]);(try cbv))
  | fail
 )
 all_goals simp [*,add64]
theorem r11answer_ok (a:Ak) (v:Int):Pure Tryz.prog γ false 34 [aAsk a,.i fun _=>v] (.tup [aEv (ansM a v),.i fun _=>ansE a]):=by
 unfold ansM ansE
 refine Pure.go (ty:=ty) ty_eq mo Tryz.func34 rfl Tryz.ntmps34 Tryz.results34 Tryz.call34 (by simp) fun P C CQ D W F E hF=>?_
 cbv
 repeat' (first
  |(refine ⟨fun _ h_s=>?_,fun _ h_s=>?_⟩<;>(cbv;(try simp only [nc] at *);try simp (disch:=(first|omega|(simp only [lnS];omega))) only [rdT,rdS,reduceCtorEq,trT] at h_s))
  |(refine hF ?_;intro _;clear hF)
  |(refine hF ?_;cbv;clear hF)
  |(refine ⟨fun _=>?_,?_⟩;(· ((try simp only [nc] at *);first|done|omega|exact ⟨by omega,rfl⟩|(simp (disch:=(first|omega|(simp only [lnS];omega))) only [rdT,rdS];first|done|omega|rfl|exact ⟨by omega,rfl⟩|(simp;done)|(simp;omega))|(intros;trivial)));(try (simp only [nc] at *));(try simp (disch:=(first|omega|(simp only [lnS];omega))) only [rdT,rdS]);(try cbv))
  | fail
 )
 all_goals simp [*,add64]
theorem r13answer_ok (a:Ak) (v:Int):Pure Tryz.prog γ false 20 [aAsk a,.i fun _=>v] (.tup [aEv (ansM a v),.i fun _=>ansE a]):=by
 have k:=r11answer_ok (γ:=γ) a v
 generalize ansM a v=e at *
 generalize ansE a=c at *
 refine Pure.go (ty:=ty) ty_eq mo Tryz.func20 rfl Tryz.ntmps20 Tryz.results20 Tryz.call20 (by simp) fun P C CQ D W F E hF=>?_
 cbv
 repeat' (first
  |(refine E.c (SCalls.of_le (k) ?_ ?_);(· (cbv;(try simp only [nc] at *);first|done|(simp;done)|(simp (disch:=(first|omega|(simp only [lnS];omega))) only [rdT,rdS,anT];first|done|omega|(refine ⟨?_,?_⟩<;>omega))|(simp (disch:=(first|omega|(simp only [lnS];omega))) [rdT,rdS];done)));cbv)
  |(refine ⟨fun _ h_s=>?_,fun _ h_s=>?_⟩<;>(cbv;(try simp only [nc] at *);try simp (disch:=(first|omega|(simp only [lnS];omega))) only [rdT,rdS,reduceCtorEq,trT] at h_s))
  |(refine hF ?_;intro _;clear hF)
  |(refine hF ?_;cbv;clear hF)
  |(refine ⟨fun _=>?_,?_⟩;(· ((try simp only [nc] at *);first|done|omega|exact ⟨by omega,rfl⟩|(simp (disch:=(first|omega|(simp only [lnS];omega))) only [rdT,rdS];first|done|omega|rfl|exact ⟨by omega,rfl⟩|(simp;done)|(simp;omega))|(intros;trivial)));(try (simp only [nc] at *));(try simp (disch:=(first|omega|(simp only [lnS];omega))) only [rdT,rdS]);(try cbv))
  | fail
 )
 all_goals simp
end Go.AL.Rl
namespace Go.AL.Rl
open Go Go.AL Go.Proofs
set_option maxRecDepth 100000
set_option maxHeartbeats 3200000
variable {γ:Nat→Option AV}
theorem rEvent_ok (g:Gr) (hg:Rd g) (h:GOk g) (d:EId):Pure Tryz.prog γ false 22 [aGr g,aId d] (.tup [aEv ((eventM g d).getD ev0),.b fun _=>(eventM g d).isSome]):=by
 have ke:=revent_ok (γ:=γ) g hg d
 have kc:=check14_ok (γ:=γ) g hg
 rw [gcheck0 h] at kc
 cases e:eventM g d with
 | some x=>
  rw [e] at ke
  simp only [Option.getD_some,Option.isSome_some] at ke ⊢
  refine Pure.go (ty:=ty) ty_eq mo Tryz.func22 rfl Tryz.ntmps22 Tryz.results22 Tryz.call22 (by simp) fun P C CQ D W F E hF=>?_
  cbv
  repeat' (first
   |(refine E.c (SCalls.of_le (kc) ?_ ?_);(· (cbv;(try simp only [nc] at *);first|done|(simp;done)|(simp (disch:=(first|omega|(simp only [lnS];omega))) only [rdT,rdS,anT];first|done|omega|(refine ⟨?_,?_⟩<;>omega))|(simp (disch:=(first|omega|(simp only [lnS];omega))) [rdT,rdS];done)));cbv)
   |(refine E.c (SCalls.of_le (ke) ?_ ?_);(· (cbv;(try simp only [nc] at *);first|done|(simp;done)|(simp (disch:=(first|omega|(simp only [lnS];omega))) only [rdT,rdS,anT];first|done|omega|(refine ⟨?_,?_⟩<;>omega))|(simp (disch:=(first|omega|(simp only [lnS];omega))) [rdT,rdS];done)));cbv)
   |(refine ⟨fun _ h_s=>?_,fun _ h_s=>?_⟩<;>(cbv;(try simp only [nc] at *);try simp (disch:=(first|omega|(simp only [lnS];omega))) only [rdT,rdS,reduceCtorEq,trT] at h_s))
   |(refine hF ?_;intro _;clear hF)
   |(refine hF ?_;cbv;clear hF)
   |(refine ⟨fun _=>?_,?_⟩;(· ((try simp only [nc] at *);first|done|omega|exact ⟨by omega,rfl⟩|(simp (disch:=(first|omega|(simp only [lnS];omega))) only [rdT,rdS];first|done|omega|rfl|exact ⟨by omega,rfl⟩|(simp;done)|(simp;omega))|(intros;trivial)));(try (simp only [nc] at *));(try simp (disch:=(first|omega|(simp only [lnS];omega))) only [rdT,rdS]);(try cbv))
   | fail
  )
  all_goals first
   | (simp;done)
   | (exfalso;revert h_s;simp;done)
 | none=>
  rw [e] at ke
  simp only [Option.getD_none,Option.isSome_none] at ke ⊢
  refine Pure.go (ty:=ty) ty_eq mo Tryz.func22 rfl Tryz.ntmps22 Tryz.results22 Tryz.call22 (by simp) fun P C CQ D W F E hF=>?_
  cbv
  repeat' (first
   |(refine E.c (SCalls.of_le (kc) ?_ ?_);(· (cbv;(try simp only [nc] at *);first|done|(simp;done)|(simp (disch:=(first|omega|(simp only [lnS];omega))) only [rdT,rdS,anT];first|done|omega|(refine ⟨?_,?_⟩<;>omega))|(simp (disch:=(first|omega|(simp only [lnS];omega))) [rdT,rdS];done)));cbv)
   |(refine E.c (SCalls.of_le (ke) ?_ ?_);(· (cbv;(try simp only [nc] at *);first|done|(simp;done)|(simp (disch:=(first|omega|(simp only [lnS];omega))) only [rdT,rdS,anT];first|done|omega|(refine ⟨?_,?_⟩<;>omega))|(simp (disch:=(first|omega|(simp only [lnS];omega))) [rdT,rdS];done)));cbv)
   |(refine ⟨fun _ h_s=>?_,fun _ h_s=>?_⟩<;>(cbv;(try simp only [nc] at *);try simp (disch:=(first|omega|(simp only [lnS];omega))) only [rdT,rdS,reduceCtorEq,trT] at h_s))
   |(refine hF ?_;intro _;clear hF)
   |(refine hF ?_;cbv;clear hF)
   |(refine ⟨fun _=>?_,?_⟩;(· ((try simp only [nc] at *);first|done|omega|exact ⟨by omega,rfl⟩|(simp (disch:=(first|omega|(simp only [lnS];omega))) only [rdT,rdS];first|done|omega|rfl|exact ⟨by omega,rfl⟩|(simp;done)|(simp;omega))|(intros;trivial)));(try (simp only [nc] at *));(try simp (disch:=(first|omega|(simp only [lnS];omega))) only [rdT,rdS]);(try cbv))
   | fail
  )
  all_goals first
   | (simp;done)
   | (exfalso;revert h_s;simp;done)
def wrsM (g:Gr) (x:Int):List EId:=if 0≤x∧x<g.init.length then ⟨0,x⟩ :: g.ord.getD x.toNat [] else []
theorem ord_le {g:Gr} (h:GOk g) (x:Nat):(g.ord.getD x []).length≤56:=by
 rcases Nat.lt_or_ge x g.init.length with h1 | h1
 ·have h2:=((ordered_iff g x).1 (h.orders x h1)).2.2
  have h3:=cntT_le (x:Int) h.short.ths
  have:=h.short.th
  omega
 ·have:g.ord.getD x []=[]:=by
   rw [List.getD_eq_getElem?_getD,List.getElem?_eq_none (by have:=h.lord;omega)];rfl
  rw [this];simp
theorem idsFlat (l:List EId):∀ v∈(ids l).l,v.flat=true:=by
 intro v hv
 simp only [ids,LV.l_of,List.mem_map] at hv
 obtain ⟨x,_,rfl⟩:=hv
 rfl
theorem rWrites_ok (g:Gr) (hg:Rd g) (h:GOk g) (x:Int):Pure Tryz.prog γ false 21 [aGr g,.i fun _=>x] (.vs 2 fun _=>ids (wrsM g x)):=by
 have kc:=check14_ok (γ:=γ) g hg
 rw [gcheck0 h] at kc
 have hlo:=h.lord
 have hin:=h.short.init
 by_cases hx:0≤x∧x<g.init.length
 ·have hol:=ord_le h x.toNat
  unfold wrsM
  rw [if_pos hx]
  refine Pure.goO (ty:=ty) ty_eq mo Tryz.func21 rfl Tryz.ntmps21 Tryz.results21 Tryz.call21 (by simp) fun P C CQ D W F E RO hF=>?_
  refine E.cut 3 (told 28 [(1,.i fun _=>x),(2,.ptr 0 0)] [.box (aGr g)]) (by kernel_rfl) (Nat.zero_le _) (fun I hI=>?_) ?_
  ·cbv
   repeat' (first
    |(refine E.c (SCalls.of_le (kc) ?_ ?_);(· (cbv;(try simp only [nc] at *);first|done|(simp;done)|(simp (disch:=(first|omega|(simp only [lnS];omega))) only [rdT,rdS,anT];first|done|omega|(refine ⟨?_,?_⟩<;>omega))|(simp (disch:=(first|omega|(simp only [lnS];omega))) [rdT,rdS];done)));cbv)
    |(refine ⟨fun _ h_s=>?_,fun _ h_s=>?_⟩<;>(cbv;(try simp only [nc] at *);try simp (disch:=(first|omega|(simp only [lnS];omega))) only [rdT,rdS,reduceCtorEq,trT] at h_s))
    |(refine hF ?_;intro _;clear hF)
    |(refine hF ?_;cbv;clear hF)
    |(refine ⟨fun _=>?_,?_⟩;(· ((try simp only [nc] at *);first|done|omega|exact ⟨by omega,rfl⟩|(simp (disch:=(first|omega|(simp only [lnS];omega))) only [rdT,rdS];first|done|omega|rfl|exact ⟨by omega,rfl⟩|(simp;done)|(simp;omega))|(intros;trivial)));(try (simp only [nc] at *));(try simp (disch:=(first|omega|(simp only [lnS];omega))) only [rdT,rdS]);(try cbv))
    | fail
   )
   ·exact absurd h_s (by simp)
   ·exfalso;((try simp only [nc] at *);omega)
   ·exfalso;((try simp only [nc] at *);omega)
   ·refine hI ?_
    cbv;simp
  refine RO [21] ?_
  cbv
  skip
  skip
  repeat' (first
   |(refine ⟨fun _ h_s=>?_,fun _ h_s=>?_⟩<;>(cbv;(try simp only [nc] at *);try simp (disch:=(first|omega|(simp only [lnS];omega))) only [rdT,rdS,reduceCtorEq,trT] at h_s))
   |(refine hF ?_;intro _;clear hF)
   |(refine hF ?_;cbv;clear hF)
   |(refine ⟨fun _=>?_,?_⟩;(· ((try simp only [nc] at *);first|done|omega|exact ⟨by omega,rfl⟩|(simp (disch:=(first|omega|(simp only [lnS];omega))) only [rdT,rdS];first|done|omega|rfl|exact ⟨by omega,rfl⟩|(simp;done)|(simp;omega))|(intros;trivial)|(intro v hv;simp [setAll,AV.nrm,nrms,nrm1] at hv;subst hv;rfl)|exact ⟨by first|trivial|rfl,by first|trivial|rfl,by first|trivial|(simp [setAll];done),by first|omega|(simp [setAll];omega),by first|omega|(simp [setAll];omega),idsFlat _⟩));(try (simp only [nc] at *));(try simp (disch:=(first|omega|(simp only [lnS];omega))) only [rdT,rdS]);(try cbv))
   | fail
  )
  intro _
  refine ⟨rfl,by simp [setAll];omega,?_⟩
  rw [List.drop_zero,List.take_of_length_le (by simp [setAll];omega)]
  simp [ids,setAll,AV.nrm,nrms,nrm1]
  try rfl
 ·unfold wrsM
  rw [if_neg hx]
  refine Pure.go (ty:=ty) ty_eq mo Tryz.func21 rfl Tryz.ntmps21 Tryz.results21 Tryz.call21 (by simp) fun P C CQ D W F E hF=>?_
  cbv
  repeat' (first
   |(refine E.c (SCalls.of_le (kc) ?_ ?_);(· (cbv;(try simp only [nc] at *);first|done|(simp;done)|(simp (disch:=(first|omega|(simp only [lnS];omega))) only [rdT,rdS,anT];first|done|omega|(refine ⟨?_,?_⟩<;>omega))|(simp (disch:=(first|omega|(simp only [lnS];omega))) [rdT,rdS];done)));cbv)
   |(refine ⟨fun _ h_s=>?_,fun _ h_s=>?_⟩<;>(cbv;(try simp only [nc] at *);try simp (disch:=(first|omega|(simp only [lnS];omega))) only [rdT,rdS,reduceCtorEq,trT] at h_s))
   |(refine hF ?_;intro _;clear hF)
   |(refine hF ?_;cbv;clear hF)
   |(refine ⟨fun _=>?_,?_⟩;(· ((try simp only [nc] at *);first|done|omega|exact ⟨by omega,rfl⟩|(simp (disch:=(first|omega|(simp only [lnS];omega))) only [rdT,rdS];first|done|omega|rfl|exact ⟨by omega,rfl⟩|(simp;done)|(simp;omega))|(intros;trivial)|(intro v hv;simp [setAll,AV.nrm,nrms,nrm1] at hv;subst hv;rfl)|exact ⟨by first|trivial|rfl,by first|trivial|rfl,by first|trivial|(simp [setAll];done),by first|omega|(simp [setAll];omega),by first|omega|(simp [setAll];omega),idsFlat _⟩));(try (simp only [nc] at *));(try simp (disch:=(first|omega|(simp only [lnS];omega))) only [rdT,rdS]);(try cbv))
   | fail
  )
  all_goals first
   | (exfalso;((try simp only [nc] at *);omega))
   | rfl
def plcM (g:Gr) (d:EId):Int:=match eventM g d with | some e=>if writesM e=true then numI (wrsM g e.loc) d else -1 | none=>-1
theorem rPlace_ok (g:Gr) (hg:Rd g) (h:GOk g) (d:EId):Pure Tryz.prog γ false 134 [aGr g,aId d] (.i fun _=>plcM g d):=by
 have ke:=rEvent_ok (γ:=γ) g hg h d
 unfold plcM
 cases e:eventM g d with
 | none=>
  rw [e] at ke
  simp only [Option.getD_none,Option.isSome_none] at ke ⊢
  refine Pure.go (ty:=ty) ty_eq mo Tryz.func134 rfl Tryz.ntmps134 Tryz.results134 Tryz.call134 (by simp) fun P C CQ D W F E hF=>?_
  cbv
  repeat' (first
   |(refine E.c (SCalls.of_le (ke) ?_ ?_);(· (cbv;(try simp only [nc] at *);first|done|(simp;done)|(simp (disch:=(first|omega|(simp only [lnS];omega))) only [rdT,rdS,anT];first|done|omega|(refine ⟨?_,?_⟩<;>omega))|(simp (disch:=(first|omega|(simp only [lnS];omega))) [rdT,rdS];done)));cbv)
   |(refine ⟨fun _ h_s=>?_,fun _ h_s=>?_⟩<;>(cbv;(try simp only [nc] at *);try simp (disch:=(first|omega|(simp only [lnS];omega))) only [rdT,rdS,reduceCtorEq,trT] at h_s))
   |(refine hF ?_;intro _;clear hF)
   |(refine hF ?_;cbv;clear hF)
   |(refine ⟨fun _=>?_,?_⟩;(· ((try simp only [nc] at *);first|done|omega|exact ⟨by omega,rfl⟩|(simp (disch:=(first|omega|(simp only [lnS];omega))) only [rdT,rdS];first|done|omega|rfl|exact ⟨by omega,rfl⟩|(simp;done)|(simp;omega))|(intros;trivial)|(intro v hv;simp [setAll,AV.nrm,nrms,nrm1] at hv;subst hv;rfl)|exact ⟨by first|trivial|rfl,by first|trivial|rfl,by first|trivial|(simp [setAll];done),by first|omega|(simp [setAll];omega),by first|omega|(simp [setAll];omega),idsFlat _⟩));(try (simp only [nc] at *));(try simp (disch:=(first|omega|(simp only [lnS];omega))) only [rdT,rdS]);(try cbv))
   |(refine E.d 5 (by decide +kernel) ?_;cbv;(fail_if_success guard_target =~ False))
   | fail
  )
  all_goals first
   | rfl
   | (exfalso;revert h_s;simp;done)
 | some x=>
  rw [e] at ke
  simp only [Option.getD_some,Option.isSome_some] at ke ⊢
  have kw:=rwrites_ok (γ:=γ) x
  by_cases hw:writesM x=true
  ·rw [hw] at kw
   rw [if_pos hw]
   have kl:=rWrites_ok (γ:=γ) g hg h x.loc
   have hL:(wrsM g x.loc).length≤57:=by
    unfold wrsM;split
    ·have:=ord_le h x.loc.toNat;rw [List.length_cons];omega
    ·simp
   generalize wrsM g x.loc=L at *
   refine Pure.go (ty:=ty) ty_eq mo Tryz.func134 rfl Tryz.ntmps134 Tryz.results134 Tryz.call134 (by simp) fun P C CQ D W F E hF=>?_
   cbv
   repeat' (first
    |(refine E.c (SCalls.of_le (kl) ?_ ?_);(· (cbv;(try simp only [nc] at *);first|done|(simp;done)|(simp (disch:=(first|omega|(simp only [lnS];omega))) only [rdT,rdS,anT];first|done|omega|(refine ⟨?_,?_⟩<;>omega))|(simp (disch:=(first|omega|(simp only [lnS];omega))) [rdT,rdS];done)));cbv)
    |(refine E.c (SCalls.of_le (kw) ?_ ?_);(· (cbv;(try simp only [nc] at *);first|done|(simp;done)|(simp (disch:=(first|omega|(simp only [lnS];omega))) only [rdT,rdS,anT];first|done|omega|(refine ⟨?_,?_⟩<;>omega))|(simp (disch:=(first|omega|(simp only [lnS];omega))) [rdT,rdS];done)));cbv)
    |(refine E.c (SCalls.of_le (ke) ?_ ?_);(· (cbv;(try simp only [nc] at *);first|done|(simp;done)|(simp (disch:=(first|omega|(simp only [lnS];omega))) only [rdT,rdS,anT];first|done|omega|(refine ⟨?_,?_⟩<;>omega))|(simp (disch:=(first|omega|(simp only [lnS];omega))) [rdT,rdS];done)));cbv)
    |(refine ⟨fun _ h_s=>?_,fun _ h_s=>?_⟩<;>(cbv;(try simp only [nc] at *);try simp (disch:=(first|omega|(simp only [lnS];omega))) only [rdT,rdS,reduceCtorEq,trT] at h_s))
    |(refine hF ?_;intro _;clear hF)
    |(refine hF ?_;cbv;clear hF)
    |(refine ⟨fun _=>?_,?_⟩;(· ((try simp only [nc] at *);first|done|omega|exact ⟨by omega,rfl⟩|(simp (disch:=(first|omega|(simp only [lnS];omega))) only [rdT,rdS];first|done|omega|rfl|exact ⟨by omega,rfl⟩|(simp;done)|(simp;omega))|(intros;trivial)|(intro v hv;simp [setAll,AV.nrm,nrms,nrm1] at hv;subst hv;rfl)|exact ⟨by first|trivial|rfl,by first|trivial|rfl,by first|trivial|(simp [setAll];done),by first|omega|(simp [setAll];omega),by first|omega|(simp [setAll];omega),idsFlat _⟩));(try (simp only [nc] at *));(try simp (disch:=(first|omega|(simp only [lnS];omega))) only [rdT,rdS]);(try cbv))
    |(refine E.d 5 (by decide +kernel) ?_;cbv;(fail_if_success guard_target =~ False))
    | fail
   )
   refine E.loopS (ι:=Nat) (fun i=>i≤L.length∧(∀ k<i,L.getD k id0≠d)) (fun i=>L.length-i) (fun i=>[(8,.i fun _=>((i:Nat):Int))]) (fun i h=>h) 0 (fun _=>by first|rfl|simp) ⟨Nat.zero_le _,?_⟩ ?_ fun i hi I hI=>?_
   ·intro k hk;omega
   ·cbv;simp
   cbv
   obtain ⟨hi,hp⟩:=hi
   repeat' (first
    |(refine hI (i+1) ?_ ?_ ?_;rotate_left 1;(· ((try simp only [nc] at *);omega));(cbv;clear hI;(try clear hF);(try simp only [nc] at *);(try simp (disch:=(first|omega|(simp only [lnS];omega))) only [rdT,rdS,anT]));rotate_left 1;(try ((try simp only [nc] at *);omega)))
    |(refine ⟨fun _ h_s=>?_,fun _ h_s=>?_⟩<;>(cbv;(try simp only [nc] at *);try simp (disch:=(first|omega|(simp only [lnS];omega))) only [rdT,rdS,reduceCtorEq,trT] at h_s))
    |(refine hF ?_;intro _;clear hF)
    |(refine hF ?_;cbv;clear hF)
    |(refine ⟨fun _=>?_,?_⟩;(· ((try simp only [nc] at *);first|done|omega|exact ⟨by omega,rfl⟩|(simp (disch:=(first|omega|(simp only [lnS];omega))) only [rdT,rdS];first|done|omega|rfl|exact ⟨by omega,rfl⟩|(simp;done)|(simp;omega))|(intros;trivial)|(intro v hv;simp [setAll,AV.nrm,nrms,nrm1] at hv;subst hv;rfl)|exact ⟨by first|trivial|rfl,by first|trivial|rfl,by first|trivial|(simp [setAll];done),by first|omega|(simp [setAll];omega),by first|omega|(simp [setAll];omega),idsFlat _⟩));(try (simp only [nc] at *));(try simp (disch:=(first|omega|(simp only [lnS];omega))) only [rdT,rdS]);(try cbv))
    |(refine E.d 5 (by decide +kernel) ?_;cbv;(fail_if_success guard_target =~ False))
    | fail
   )
   ·simp only [Bool.and_true,Bool.and_eq_true,decide_eq_true_eq] at h_s
    have he:L.getD i id0=d:=EId.ext' h_s.1 h_s.2
    exact (numI_at (by ((try simp only [nc] at *);omega)) he hp).symm
   ·refine ⟨by ((try simp only [nc] at *);omega),fun k hk=>?_⟩
    rcases Nat.lt_or_ge k i with h1 | h1
    ·exact hp k h1
    ·obtain rfl:k=i:=by omega
     intro e
     rw [←e] at h_s
     simp at h_s
   ·push_cast;rfl
   ·have e:i=L.length:=by ((try simp only [nc] at *);omega)
    subst e
    exact (numI_no hp).symm
  ·rw [show writesM x=false by simpa using hw] at kw
   rw [if_neg hw]
   refine Pure.go (ty:=ty) ty_eq mo Tryz.func134 rfl Tryz.ntmps134 Tryz.results134 Tryz.call134 (by simp) fun P C CQ D W F E hF=>?_
   cbv
   repeat' (first
    |(refine E.c (SCalls.of_le (kw) ?_ ?_);(· (cbv;(try simp only [nc] at *);first|done|(simp;done)|(simp (disch:=(first|omega|(simp only [lnS];omega))) only [rdT,rdS,anT];first|done|omega|(refine ⟨?_,?_⟩<;>omega))|(simp (disch:=(first|omega|(simp only [lnS];omega))) [rdT,rdS];done)));cbv)
    |(refine E.c (SCalls.of_le (ke) ?_ ?_);(· (cbv;(try simp only [nc] at *);first|done|(simp;done)|(simp (disch:=(first|omega|(simp only [lnS];omega))) only [rdT,rdS,anT];first|done|omega|(refine ⟨?_,?_⟩<;>omega))|(simp (disch:=(first|omega|(simp only [lnS];omega))) [rdT,rdS];done)));cbv)
    |(refine ⟨fun _ h_s=>?_,fun _ h_s=>?_⟩<;>(cbv;(try simp only [nc] at *);try simp (disch:=(first|omega|(simp only [lnS];omega))) only [rdT,rdS,reduceCtorEq,trT] at h_s))
    |(refine hF ?_;intro _;clear hF)
    |(refine hF ?_;cbv;clear hF)
    |(refine ⟨fun _=>?_,?_⟩;(· ((try simp only [nc] at *);first|done|omega|exact ⟨by omega,rfl⟩|(simp (disch:=(first|omega|(simp only [lnS];omega))) only [rdT,rdS];first|done|omega|rfl|exact ⟨by omega,rfl⟩|(simp;done)|(simp;omega))|(intros;trivial)|(intro v hv;simp [setAll,AV.nrm,nrms,nrm1] at hv;subst hv;rfl)|exact ⟨by first|trivial|rfl,by first|trivial|rfl,by first|trivial|(simp [setAll];done),by first|omega|(simp [setAll];omega),by first|omega|(simp [setAll];omega),idsFlat _⟩));(try (simp only [nc] at *));(try simp (disch:=(first|omega|(simp only [lnS];omega))) only [rdT,rdS]);(try cbv))
    |(refine E.d 5 (by decide +kernel) ?_;cbv;(fail_if_success guard_target =~ False))
    | fail
   )
   all_goals first
    | rfl
    | (exfalso;revert h_s;simp;done)
end Go.AL.Rl
namespace Go.AL.Rl
open Go Go.AL Go.Proofs
set_option maxRecDepth 100000
set_option maxHeartbeats 1600000
variable {γ:Nat→Option AV}
noncomputable def okM (m:Int) (g:Gr):Bool:=decide (m=1∨m=2) && (decide (GOk g) && allHold g (rulesM m))
def okE (m:Int):Int:=if m=1∨m=2 then 0 else 2
theorem okM_yes {m:Int} {g:Gr} (hm:m=1∨m=2) (hg:GOk g):okM m g=allHold g (rulesM m):=by
 unfold okM;rw [decide_eq_true hm,decide_eq_true hg];simp
theorem okM_no {m:Int} {g:Gr} (hg:¬ GOk g):okM m g=false:=by
 unfold okM;rw [decide_eq_false hg];simp
theorem okM_bad {m:Int} {g:Gr} (hm:¬ (m=1∨m=2)):okM m g=false:=by
 unfold okM;rw [decide_eq_false hm];simp
theorem mcheckA (m:Int) (g:Gr) (hR:Rd g):Pure Tryz.prog γ false 12 [.i fun _=>m,aGr g] (.tup [.b fun _=>okM m g,.i fun _=>okE m]):=by
 by_cases hm:m=1∨m=2
 ·by_cases hg:GOk g
  ·rw [okM_yes hm hg]
   unfold okE
   rw [if_pos hm]
   rcases hm with rfl | rfl
   ·exact mcheck1 g hR hg
   ·exact mcheck2 g hR hg
  ·have k:=mcheck_ok (γ:=γ) m g _ (why_no (γ:=γ) m g hm hR hg)
   rw [okM_no hg]
   simpa [okE] using k
 ·have k:=mcheck_ok (γ:=γ) m g _ (why_bad (γ:=γ) m g (by omega))
  rw [okM_bad hm]
  simpa [okE,hm] using k
theorem aE_wf (g:Gr) (thread:Int) (e:Ev) (d:EId) (p:Int) (h:addE g thread e d p=0):GOk g∧1≤thread∧thread≤(g.th.length:Nat)∧addC g (thread-1).toNat e d p∧(g.th.getD (thread-1).toNat []).length≠14∧addR g thread e d p=addG g (thread-1).toNat e d p:=by
 have h0:=h
 unfold addE at h
 split at h
 ·rename_i hg
  split at h
  ·rename_i ht
   split at h
   ·cases h
   ·rename_i hl
    split at h
    ·rename_i hc
     exact ⟨hg,ht.1,ht.2,hc,hl,by unfold addR;rw [if_pos h0]⟩
    ·cases h
  ·cases h
 ·cases h
noncomputable def plcB (m:Int) (g:Gr) (t:Int) (e:Ev) (d:EId) (p:Int):Bool:=decide (addE g t e d p=0) && okM m (addR g t e d p)
def plLo (e:Ev):Int:=if writesM e=true then 1 else 0
def plN (g:Gr) (e:Ev):Nat:=if writesM e=true then (wrsM g e.loc).length else 1
noncomputable def plcTo (m:Int) (g:Gr) (t:Int) (e:Ev) (d:EId):Nat→List Int
 | 0=>[]
 | k+1=>plcTo m g t e d k++if plcB m g t e d (plLo e+k)=true then [plLo e+k] else []
noncomputable def plsM (m:Int) (g:Gr) (t:Int) (e:Ev) (d:EId):List Int:=plcTo m g t e d (plN g e)
def mayTo (g:Gr) (t:Int) (e:Ev) (d:EId):Nat→Bool
 | 0=>false
 | k+1=>mayTo g t e d k || decide (addE g t e d (plLo e+k)=0)
def mayM (g:Gr) (t:Int) (e:Ev) (d:EId):Bool:=mayTo g t e d (plN g e)
theorem plcTo_len (m:Int) (g:Gr) (t:Int) (e:Ev) (d:EId) (k:Nat):(plcTo m g t e d k).length≤k:=by
 induction k with
 | zero=>simp [plcTo]
 | succ k ih=>
  unfold plcTo
  rw [List.length_append]
  split<;>simp<;>omega
theorem wrs_len {g:Gr} (h:GOk g) (x:Int):(wrsM g x).length≤57:=by
 unfold wrsM
 split
 ·have:=ord56 h x.toNat
  rw [List.length_cons];omega
 ·simp
theorem plN_le {g:Gr} (h:GOk g) (e:Ev):plN g e≤57:=by
 unfold plN
 split
 ·exact wrs_len h _
 ·omega
theorem rd_addR {g:Gr} (hg:GOk g) (t:Int) (e:Ev) (d:EId) (p:Int):Rd (addR g t e d p):=by
 unfold addR
 split
 ·exact rd_add hg _ e d p
 ·exact ⟨by simp,by simp,by simp,by simp,by simp,by simp,by simp⟩
theorem wrs_at {g:Gr} (hg:GOk g) {x:Int} (hx:0≤x∧x<(g.init.length:Nat)) {i:Nat} (hi:i<(wrsM g x).length) :
  (((wrsM g x).getD i id0).t=0∧((eventM g ((wrsM g x).getD i id0)).getD ev0).wr=g.init.getD x.toNat 0) ∨
  ∃ s j:Nat,(wrsM g x).getD i id0=⟨(s:Int)+1,(j:Int)⟩∧s<g.th.length∧j<(g.th.getD s []).length∧((eventM g ((wrsM g x).getD i id0)).getD ev0).wr=((g.th.getD s []).getD j ev0).wr:=by
 have e:wrsM g x=⟨0,x⟩ :: g.ord.getD x.toNat []:=by unfold wrsM;rw [if_pos hx]
 rw [e] at hi ⊢
 cases i with
 | zero=>
  left
  refine ⟨rfl,?_⟩
  show ((eventM g ⟨0,x⟩).getD ev0).wr=_
  unfold eventM
  rw [if_pos rfl,if_pos hx]
  rfl
 | succ i=>
  right
  have hl:i<(g.ord.getD x.toNat []).length:=by simpa using hi
  have hd:(({ t:=0,i:=x }:EId) :: g.ord.getD x.toNat []).getD (i+1) id0=(g.ord.getD x.toNat []).getD i id0:=by simp
  rw [hd]
  have hw:=((ordered_iff g x.toNat).1 (hg.orders x.toNat (by omega))).2.1 _ (getD_mem (d:=id0) hl)
  generalize (g.ord.getD x.toNat []).getD i id0=d at *
  unfold isW at hw
  cases hE:eventM g d with
  | none=>rw [hE] at hw;cases hw
  | some ev=>
   rw [hE] at hw
   simp only [Bool.and_eq_true,decide_eq_true_eq] at hw
   unfold eventM at hE
   rw [if_neg hw.1.1] at hE
   split at hE
   ·rename_i h
    refine ⟨(d.t-1).toNat,d.i.toNat,?_,by omega,by omega,?_⟩
    ·cases d;simp only at h ⊢;congr 1<;>omega
    ·cases hE;rfl
   ·cases hE
end Go.AL.Rl
namespace Go.AL.Rl
open Go Go.AL Go.Proofs
set_option maxRecDepth 100000
set_option maxHeartbeats 3200000
variable {γ:Nat→Option AV}
def fstI (o:Option Nat):Int:=match o with | some k=>(k:Nat) | none=>-1
theorem fstI_iff (o:Option Nat):0≤fstI o↔o.isSome=true:=by
 cases o with
 | none=>simp [fstI]
 | some k=>simp [fstI]
theorem fstI_at {p:Nat→Bool} {n i:Nat} (hi:i<n) (h:p i=true) (hb:∀ k<i,p k=false):fstI (leadM p n)=i:=by rw [leadM_some h hb hi];rfl
theorem fstI_no {p:Nat→Bool} {n:Nat} (hb:∀ k<n,p k=false):fstI (leadM p n) = -1:=by rw [leadM_none hb];rfl
theorem hasM_in {n:Nat} {rows:List (BitVec 64)} (hf:Fits n rows) {i:Nat} (hi:i<n):hasM n rows i i=bit rows i i:=by
 unfold hasM
 rw [decide_eq_true ⟨hf,by omega,by omega,by omega,by omega⟩,Bool.true_and]
 simp
theorem rround_ok (n:Nat) (rows:List (BitVec 64)) (hf:Fits n rows):Pure Tryz.prog γ false 91 [encRel n rows] (.i fun _=>fstI (leadM (fun i=>bit (plusM n rows) i i) n)):=by
 have kp:=rplus_yes (γ:=γ) n rows hf
 have hfp:=fits_plus hf
 have hn:=hf.2.1
 generalize plusM n rows=q at *
 have kh:=fun i:Nat=>rhas_ok (γ:=γ) n q i i
 refine Pure.go (ty:=ty) ty_eq mo Tryz.func91 rfl Tryz.ntmps91 Tryz.results91 Tryz.call91 (by simp) fun P C CQ D W F E hF=>?_
 cbv
 repeat' (first
  |(refine E.c (SCalls.of_le (kp) ?_ ?_);(· (cbv;(try simp only [nc] at *);first|done|(simp;done)|(simp (disch:=(first|omega|(simp only [lnS];omega))) only [rdT,rdS,anT];first|done|omega|(refine ⟨?_,?_⟩<;>omega))|(simp (disch:=(first|omega|(simp only [lnS];omega))) [rdT,rdS];done)));cbv)
  |(refine ⟨fun _ h_s=>?_,fun _ h_s=>?_⟩<;>(cbv;(try simp only [nc] at *);try simp (disch:=(first|omega|(simp only [lnS];omega))) only [rdT,rdS,reduceCtorEq,trT] at h_s))
  |(refine hF ?_;intro _;clear hF)
  |(refine hF ?_;cbv;clear hF)
  |(refine ⟨fun _=>?_,?_⟩;(· ((try simp only [nc] at *);first|done|omega|exact ⟨by omega,rfl⟩|(simp (disch:=(first|omega|(simp only [lnS];omega))) only [rdT,rdS];first|done|omega|rfl|exact ⟨by omega,rfl⟩|(simp;done)|(simp;omega))|(intros;trivial)));(try (simp only [nc] at *));(try simp (disch:=(first|omega|(simp only [lnS];omega))) only [rdT,rdS]);(try cbv))
  | fail
 )
 refine E.loopS (ι:=Nat) (fun i=>i≤n∧(∀ k<i,bit q k k=false)) (fun i=>n-i) (fun i=>[(4,.i fun _=>((i:Nat):Int))]) (fun i h=>h) 0 (fun _=>by first|rfl|simp) ⟨Nat.zero_le _,?_⟩ ?_ fun i hi I hI=>?_
 ·intro k hk;omega
 ·cbv;simp
 cbv
 obtain ⟨hi,hp⟩:=hi
 have khi:=kh i
 repeat' (first
  |(refine hI (i+1) ?_ ?_ ?_;rotate_left 1;(· ((try simp only [nc] at *);omega));(cbv;clear hI;(try clear hF);(try simp only [nc] at *);(try simp (disch:=(first|omega|(simp only [lnS];omega))) only [rdT,rdS,anT]));rotate_left 1;(try ((try simp only [nc] at *);omega)))
  |(refine E.c (SCalls.of_le (khi) ?_ ?_);(· (cbv;(try simp only [nc] at *);first|done|(simp;done)|(simp (disch:=(first|omega|(simp only [lnS];omega))) only [rdT,rdS,anT];first|done|omega|(refine ⟨?_,?_⟩<;>omega))|(simp (disch:=(first|omega|(simp only [lnS];omega))) [rdT,rdS];done)));cbv)
  |(refine ⟨fun _ h_s=>?_,fun _ h_s=>?_⟩<;>(cbv;(try simp only [nc] at *);try simp (disch:=(first|omega|(simp only [lnS];omega))) only [rdT,rdS,reduceCtorEq,trT] at h_s))
  |(refine hF ?_;intro _;clear hF)
  |(refine hF ?_;cbv;clear hF)
  |(refine ⟨fun _=>?_,?_⟩;(· ((try simp only [nc] at *);first|done|omega|exact ⟨by omega,rfl⟩|(simp (disch:=(first|omega|(simp only [lnS];omega))) only [rdT,rdS];first|done|omega|rfl|exact ⟨by omega,rfl⟩|(simp;done)|(simp;omega))|(intros;trivial)));(try (simp only [nc] at *));(try simp (disch:=(first|omega|(simp only [lnS];omega))) only [rdT,rdS]);(try cbv))
  | fail
 )
 ·rw [hasM_in hfp (by ((try simp only [nc] at *);omega))] at h_s
  exact (fstI_at (p:=fun i=>bit q i i) (by ((try simp only [nc] at *);omega)) h_s hp).symm
 ·rw [hasM_in hfp (by ((try simp only [nc] at *);omega))] at h_s
  refine ⟨by ((try simp only [nc] at *);omega),fun k hk=>?_⟩
  rcases Nat.lt_or_ge k i with h1 | h1
  ·exact hp k h1
  ·obtain rfl:k=i:=by omega
   exact h_s
 ·push_cast;rfl
 ·have e:i=n:=by ((try simp only [nc] at *);omega)
  subst e
  exact (fstI_no (p:=fun i=>bit q i i) hp).symm
theorem plc_pl {g:Gr} (h:GOk g) {d:EId} {e:Ev} (he:eventM g d=some e) (hw:writesM e=true):plcM g d=plOf g d:=by
 unfold plcM
 rw [he]
 simp only
 rw [if_pos hw]
 unfold plOf
 by_cases h0:d.t=0
 ·rw [if_pos h0]
  unfold eventM at he
  rw [if_pos h0] at he
  by_cases hi:0≤d.i∧d.i<g.init.length
  ·rw [if_pos hi] at he
   have:=Option.some.inj he
   rw [←this]
   unfold wrsM
   simp only
   rw [if_pos hi]
   exact numI_at (k:=0) (by simp) (by show (⟨0,d.i⟩:EId)=d;exact EId.ext' h0.symm rfl) fun j hj=>by omega
  ·rw [if_neg hi] at he;cases he
 ·rw [if_neg h0,he,Option.getD_some]
  -- an event of a thread
  have hT:evT g d:=by
   unfold eventM at he
   rw [if_neg h0] at he
   split at he
   ·rename_i h1;exact ⟨by omega,h1.2.1,h1.2.2.1,h1.2.2.2⟩
   ·cases he
  have hl:0≤e.loc∧e.loc<g.init.length:=by
   have hf:=(h.events (d.t-1).toNat (by have:=hT.1;have:=hT.2.1;omega)).2 d.i.toNat (by have:=hT.2.2;omega)
   rw [event_T hT] at he
   rw [Option.some.inj he] at hf
   unfold fineM at hf
   simp only [Bool.and_eq_true] at hf
   have:=hf.2
   rw [if_neg (by intro e4;unfold writesM at hw;rw [e4] at hw;simp at hw),decide_eq_true_eq] at this
   exact this
  unfold wrsM
  rw [if_pos hl]
  cases ef:(g.ord.getD e.loc.toNat []).findIdx? fun x=>decide (x=d) with
  | some k=>
   rw [List.findIdx?_eq_some_iff_getElem] at ef
   obtain ⟨h1,h2,h3⟩:=ef
   have h2:=of_decide_eq_true h2
   have:=numI_at (l:=⟨0,e.loc⟩ :: g.ord.getD e.loc.toNat []) (d:=d) (k:=k+1) (by rw [List.length_cons];omega) (by rw [List.getD_cons_succ,List.getD_eq_getElem?_getD,List.getElem?_eq_getElem h1];exact h2) fun j hj=>by
    cases j with
    | zero=>intro e2;have:=congrArg EId.t e2;simp at this;omega
    | succ j=>
     rw [List.getD_cons_succ]
     have:=h3 j (by omega)
     rw [decide_eq_true_eq] at this
     have hj':j<(g.ord.getD e.loc.toNat []).length:=by omega
     rw [show (g.ord.getD e.loc.toNat []).getD j id0=(g.ord.getD e.loc.toNat [])[j] from by rw [List.getD_eq_getElem?_getD,List.getElem?_eq_getElem hj'];rfl]
     exact this
   rw [this]
   push_cast
   rfl
  | none=>
   rw [List.findIdx?_eq_none_iff] at ef
   exact numI_no fun j hj=>by
    cases j with
    | zero=>intro e2;have:=congrArg EId.t e2;simp at this;omega
    | succ j=>
     rw [List.getD_cons_succ]
     rw [List.length_cons] at hj
     intro e2
     have hm:d∈g.ord.getD e.loc.toNat []:=by rw [←e2];exact getD_mem (by omega)
     have:=ef d hm
     simp at this
theorem plc_bd {g:Gr} (h:GOk g) (d:EId):-1≤plcM g d∧plcM g d≤57:=by
 unfold plcM
 split
 ·rename_i e _
  split
  ·have:=numI_lt (wrsM g e.loc) d
   have:=wrs_len h e.loc
   omega
  ·omega
 ·omega
theorem updB_iff {g:Gr} (h:GOk g) {k:Nat} (hk:k<nG g):updB (viewG g) k=(decide (((idsG g).getD k id0).t≠0) && (decide (((g.th.getD (((idsG g).getD k id0).t-1).toNat []).getD ((idsG g).getD k id0).i.toNat ev0).kind=3) && decide (plcM g ((idsG g).getD k id0)≠plcM g (srcOf g ((idsG g).getD k id0))+1))):=by
 have he:=evsG_get g k hk
 have hm:(idsG g).getD k id0∈idsG g:=getD_mem hk
 have hev:(viewG g).ev.getD k ev0=(evsG g).getD k ev0:=rfl
 unfold updB
 rw [hev]
 by_cases h0:((idsG g).getD k id0).t=0
 ·rw [decide_eq_false (p:=((idsG g).getD k id0).t≠0) (fun x=>x h0),Bool.false_and]
  unfold eventM at he
  rw [if_pos h0] at he
  split at he
  ·rw [←Option.some.inj he];rfl
  ·cases he
 ·have hT:evT g ((idsG g).getD k id0):=by
   unfold eventM at he
   rw [if_neg h0] at he
   split at he
   ·rename_i h1;exact ⟨by omega,h1.2.1,h1.2.2.1,h1.2.2.2⟩
   ·cases he
  have e1:=event_T hT
  rw [he] at e1
  have e1:=Option.some.inj e1
  rw [decide_eq_true (p:=((idsG g).getD k id0).t≠0) h0,Bool.true_and,←e1]
  by_cases h3:((evsG g).getD k ev0).kind=3
  ·rw [decide_eq_true h3,Bool.true_and,Bool.true_and]
   have hr:readsM ((eventM g ((idsG g).getD k id0)).getD ev0)=true:=by rw [he,Option.getD_some];unfold readsM;rw [h3];rfl
   have hw:writesM ((evsG g).getD k ev0)=true:=by unfold writesM;rw [h3];rfl
   obtain ⟨w,hw1,_,hw2,_⟩:=source_mem (src_ok h hm h0) hr
   have hs:srcOf g ((idsG g).getD k id0)∈idsG g:=idsG_mem.2 (by rw [hw1];rfl)
   rw [plc_pl h he hw,plc_pl h hw1 hw2]
   have p1:(viewG g).pl.getD k 0=plOf g ((idsG g).getD k id0):=by
    show (tabI _ _).getD k 0=_
    rw [tabI_get _ _ _ hk]
   have f1:(viewG g).fr.getD k 0=(numOf (idsG g) (srcOf g ((idsG g).getD k id0)):Nat):=by
    show (tabI _ _).getD k 0=_
    rw [tabI_get _ _ _ hk]
    unfold frOf
    rw [if_neg h0,if_pos hr]
   have hl:numOf (idsG g) (srcOf g ((idsG g).getD k id0))<nG g:=numOf_lt hs
   have p2:(viewG g).pl.getD (numOf (idsG g) (srcOf g ((idsG g).getD k id0))) 0=plOf g (srcOf g ((idsG g).getD k id0)):=by
    show (tabI _ _).getD _ 0=_
    rw [tabI_get _ _ _ hl,numOf_get hs]
   rw [f1,p1]
   have:((numOf (idsG g) (srcOf g ((idsG g).getD k id0)):Nat):Int).toNat=numOf (idsG g) (srcOf g ((idsG g).getD k id0)):=by omega
   rw [this,p2]
  ·rw [decide_eq_false h3];rfl
theorem rupdate_ok (g:Gr) (hg:Rd g) (h:GOk g):Pure Tryz.prog γ false 90 [aGr g] (.i fun _=>fstI (leadM (updB (viewG g)) (nG g))):=by
 have ki:=ids14_ok (γ:=γ) g h.short
 have kp:=fun d=>rPlace_ok (γ:=γ) g hg h d
 have hn:=(viewG_wf h).small
 have hu:∀ k,k<nG g→_:=fun k hk=>updB_iff h hk
 have hmem:∀ k,k<nG g→(idsG g).getD k id0∈idsG g:=fun k hk=>getD_mem hk
 have hin:∀ k,k<nG g→((idsG g).getD k id0).t≠0→evT g ((idsG g).getD k id0):=fun k hk h0=>by
  have:=hmem k hk
  rw [idsG,List.mem_append,idsI_mem] at this
  rcases this with h1 | h1
  ·exact absurd h1.1 h0
  ·exact evT_iff.2 h1
 have hpos:∀ k,k<nG g→0≤((idsG g).getD k id0).t:=fun k hk=>by
  by_cases h0:((idsG g).getD k id0).t=0
  ·omega
  ·have:=(hin k hk h0).1;omega
 have hpb:=fun d=>plc_bd h d
 have hth:=h.short.th
 have hfr:=h.lfr
 have hfe:∀ t,t<g.th.length→(g.fr.getD t []).length=(g.th.getD t []).length:=fun t ht=>(h.events t ht).1
 have hlen:(idsG g).length=nG g:=rfl
 generalize updB (viewG g)=U at *
 generalize nG g=n at *
 generalize idsG g=L at *
 refine Pure.go (ty:=ty) ty_eq mo Tryz.func90 rfl Tryz.ntmps90 Tryz.results90 Tryz.call90 (by simp) fun P C CQ D W F E hF=>?_
 cbv
 repeat' (first
  |(refine E.c (SCalls.of_le (ki) ?_ ?_);(· (cbv;(try simp only [nc] at *);first|done|(simp;done)|(simp (disch:=(first|omega|(simp only [lnS];omega))) only [rdT,rdS,anT];first|done|omega|(refine ⟨?_,?_⟩<;>omega))|(simp (disch:=(first|omega|(simp only [lnS];omega))) [rdT,rdS];done)));cbv)
  |(refine ⟨fun _ h_s=>?_,fun _ h_s=>?_⟩<;>(cbv;(try simp only [nc] at *);try simp (disch:=(first|omega|(simp only [lnS];omega))) only [rdT,rdS,reduceCtorEq,trT] at h_s))
  |(refine hF ?_;intro _;clear hF)
  |(refine hF ?_;cbv;clear hF)
  |(refine ⟨fun _=>?_,?_⟩;(· ((try simp only [nc] at *);first|done|omega|exact ⟨by omega,rfl⟩|(simp (disch:=(first|omega|(simp only [lnS];omega))) only [rdT,rdS];first|done|omega|rfl|exact ⟨by omega,rfl⟩|(simp;done)|(simp;omega))|(intros;trivial)));(try (simp only [nc] at *));(try simp (disch:=(first|omega|(simp only [lnS];omega))) only [rdT,rdS]);(try cbv))
  |(refine E.d 13 (by decide +kernel) ?_;cbv;(fail_if_success guard_target =~ False))
  |(refine E.d 15 (by decide +kernel) ?_;cbv;(fail_if_success guard_target =~ False))
  | fail
 )
 refine E.loopS (ι:=Nat) (fun k=>k≤n∧(∀ j<k,U j=false)) (fun k=>n-k) (fun k=>[(4,.i fun _=>((k:Nat):Int))]) (fun k h=>h) 0 (fun _=>by first|rfl|simp) ⟨Nat.zero_le _,?_⟩ ?_ fun k hk I hI=>?_
 ·intro j hj;omega
 ·cbv;simp
 cbv
 obtain ⟨hk,hp⟩:=hk
 have k1:=kp (L.getD k id0)
 have k2:=kp ((g.fr.getD ((L.getD k id0).t-1).toNat []).getD (L.getD k id0).i.toNat id0)
 have b1:=hpb (L.getD k id0)
 have b2:=hpb ((g.fr.getD ((L.getD k id0).t-1).toNat []).getD (L.getD k id0).i.toNat id0)
 have huk:=hu k
 have hik:=hin k
 have hpk:=hpos k
 have hfk:=hfe ((L.getD k id0).t-1).toNat
 unfold evT at hik
 repeat' (first
  |(refine hI (k+1) ?_ ?_ ?_;rotate_left 1;(· ((try simp only [nc] at *);omega));(cbv;clear hI;(try clear hF);(try simp only [nc] at *);(try simp (disch:=(first|omega|(simp only [lnS];omega))) only [rdT,rdS,anT]));rotate_left 1;(try ((try simp only [nc] at *);omega)))
  |((first|refine E.c (SCalls.of_le (k2) ?_ ?_)|refine E.q (QCalls.of_le (k2) ?_ ?_));(· (cbv;(try simp only [nc] at *);first|done|(simp;done)|(simp (disch:=(first|omega|(simp only [lnS];omega))) only [rdT,rdS,anT];first|done|omega|(refine ⟨?_,?_⟩<;>omega))|(simp (disch:=(first|omega|(simp only [lnS];omega))) [rdT,rdS];done)));cbv)
  |((first|refine E.c (SCalls.of_le (k1) ?_ ?_)|refine E.q (QCalls.of_le (k1) ?_ ?_));(· (cbv;(try simp only [nc] at *);first|done|(simp;done)|(simp (disch:=(first|omega|(simp only [lnS];omega))) only [rdT,rdS,anT];first|done|omega|(refine ⟨?_,?_⟩<;>omega))|(simp (disch:=(first|omega|(simp only [lnS];omega))) [rdT,rdS];done)));cbv)
  |(refine E.c (SCalls.of_le (k2) ?_ ?_);(· (cbv;(try simp only [nc] at *);first|done|(simp;done)|(simp (disch:=(first|omega|(simp only [lnS];omega))) only [rdT,rdS,anT];first|done|omega|(refine ⟨?_,?_⟩<;>omega))|(simp (disch:=(first|omega|(simp only [lnS];omega))) [rdT,rdS];done)));cbv)
  |(refine E.c (SCalls.of_le (k1) ?_ ?_);(· (cbv;(try simp only [nc] at *);first|done|(simp;done)|(simp (disch:=(first|omega|(simp only [lnS];omega))) only [rdT,rdS,anT];first|done|omega|(refine ⟨?_,?_⟩<;>omega))|(simp (disch:=(first|omega|(simp only [lnS];omega))) [rdT,rdS];done)));cbv)
  |(refine ⟨fun _ h_s=>?_,fun _ h_s=>?_⟩<;>(cbv;(try simp only [nc] at *);try simp (disch:=(first|omega|(simp only [lnS];omega))) only [rdT,rdS,reduceCtorEq,trT] at h_s))
  |(refine hF ?_;intro _;clear hF)
  |(refine hF ?_;cbv;clear hF)
  |(refine ⟨fun _=>?_,?_⟩;(· ((try simp only [nc] at *);first|done|omega|exact ⟨by omega,rfl⟩|(simp (disch:=(first|omega|(simp only [lnS];omega))) only [rdT,rdS];first|done|omega|rfl|exact ⟨by omega,rfl⟩|(simp;done)|(simp;omega))|(intros;trivial)));(try (simp only [nc] at *));(try simp (disch:=(first|omega|(simp only [lnS];omega))) only [rdT,rdS]);(try cbv))
  |(refine E.d 13 (by decide +kernel) ?_;cbv;(fail_if_success guard_target =~ False))
  |(refine E.d 15 (by decide +kernel) ?_;cbv;(fail_if_success guard_target =~ False))
  | fail
 )
 ·rename_i h_e
  refine ⟨by ((try simp only [nc] at *);omega),fun j hj=>?_⟩
  rcases Nat.lt_or_ge j k with h1 | h1
  ·exact hp j h1
  ·obtain rfl:j=k:=by omega
   rw [huk (by ((try simp only [nc] at *);omega))]
   have e0:(L.getD j id0).t=0:=h_s
   rw [e0];rfl
 ·push_cast;rfl
 ·refine ⟨by ((try simp only [nc] at *);omega),fun j hj=>?_⟩
  rcases Nat.lt_or_ge j k with h1 | h1
  ·exact hp j h1
  ·obtain rfl:j=k:=by omega
   rw [huk (by ((try simp only [nc] at *);omega)),decide_eq_false (p:=_=(3:Int)) h_s]
   simp
 ·push_cast;rfl
 ·have e0:(L.getD k id0).t≠0:=by assumption
  have e3:((g.th.getD ((L.getD k id0).t-1).toNat []).getD (L.getD k id0).i.toNat ev0).kind=3:=by assumption
  refine (fstI_at (p:=U) (by ((try simp only [nc] at *);omega)) ?_ hp).symm
  rw [huk (by ((try simp only [nc] at *);omega)),decide_eq_true e0,decide_eq_true e3]
  exact decide_eq_true h_s
 ·refine ⟨by ((try simp only [nc] at *);omega),fun j hj=>?_⟩
  rcases Nat.lt_or_ge j k with h1 | h1
  ·exact hp j h1
  ·obtain rfl:j=k:=by omega
   rw [huk (by ((try simp only [nc] at *);omega))]
   have e9:decide (plcM g (L.getD j id0)≠plcM g (srcOf g (L.getD j id0))+1)=false:=decide_eq_false fun x=>x h_s
   rw [e9]
   simp
 ·push_cast;rfl
 ·have e:k=n:=by ((try simp only [nc] at *);omega)
  subst e
  exact (fstI_no (p:=U) hp).symm
end Go.AL.Rl
namespace Go.AL.Rl
open Go Go.AL Go.Proofs
set_option maxRecDepth 100000
set_option maxHeartbeats 3200000
variable {γ:Nat→Option AV}
abbrev aGiven (n:Int) (po rf co fr:List (BitVec 64)):AV:=.agg [.i fun _=>n,.vs 1 fun _=>us po,.i fun _=>n,.vs 1 fun _=>us rf,.i fun _=>n,.vs 1 fun _=>us co,.i fun _=>n,.vs 1 fun _=>us fr]
theorem wgiven_ok (g:Gr) (hg:Rd g) (h:GOk g):Pure Tryz.prog γ false 85 [pW g] (aGiven (nG g:Nat) (poF (viewG g) (nG g)) (rfF (viewG g) (nG g)) (coF (viewG g) (nG g)) (frF (viewG g) (nG g))):=by
 have hn:=(viewG_wf h).small
 have c1:=fun a b=>wpo_ok (γ:=γ) g a b
 have c2:=fun a b=>wrf_ok (γ:=γ) g h a b
 have c3:=fun a b=>wco_ok (γ:=γ) g hg h a b
 have c4:=fun a b=>wfr_ok (γ:=γ) g hg h a b
 unfold poF rfF coF frF
 generalize poM (viewG g)=p1 at *
 generalize rfM (viewG g)=p2 at *
 generalize coM (viewG g)=p3 at *
 generalize frM (viewG g)=p4 at *
 obtain ⟨L,hL⟩:∃ L:(Nat→Nat→Bool)→Nat→Nat→List (Int × Int),∀ p a b,L p a b=prA p (nG g) a++prE p a b:=⟨_,fun _ _ _=>rfl⟩
 obtain ⟨G,hG⟩:∃ G:List (Int × Int)→Nat,∀ l,G l=l.length:=⟨_,fun _=>rfl⟩
 have hG0:G []=0:=by rw [hG];rfl
 have l0:∀ p,L p 0 0=[]:=fun p=>by rw [hL];rfl
 have lS:∀ p a b,L p a (b+1)=L p a b++if p a b=true then [((a:Int),(b:Int))] else []:=fun p a b=>by rw [hL,hL,prE_succ];simp only [List.append_assoc]
 have lE:∀ p a,L p a (nG g)=L p (a+1) 0:=fun p a=>by rw [hL,hL,prA_succ];simp [prE]
 have lL:∀ p a b,a≤nG g→b≤nG g→(L p a b).length≤4000:=fun p a b ha hb=>by
  have q1:=prA_len p (nG g) a
  have q2:=prE_len p a b
  have q3:a * nG g≤62 * 62:=Nat.mul_le_mul (by omega) hn
  rw [hL,List.length_append];omega
 have lF:∀ p,L p (nG g) 0=prA p (nG g) (nG g):=fun p=>by rw [hL];simp [prE]
 have hlen:∀ p,(prA p (nG g) (nG g)).length≤4000:=fun p=>by rw [←lF];exact lL p _ _ (Nat.le_refl _) (Nat.zero_le _)
 have o2:∀ p,Pure Tryz.prog γ false 88 [.i fun _=>(nG g:Int),.vs 2 fun _=>ps (prA p (nG g) (nG g))] (encRel (nG g) (relRows (nG g) p)):=fun p=>by
  have:=rof_in (γ:=γ) (nG g:Int) (prA p (nG g) (nG g)) (by omega) (by omega) (by have:=hlen p;omega)
  rwa [ofTo_rel (nG g) (by omega) p] at this
 have k1:=o2 p1
 have k2:=o2 p2
 have k3:=o2 p3
 have k4:=o2 p4
 clear o2
 refine Pure.goL (ty:=ty) ty_eq mo Tryz.func85 rfl Tryz.ntmps85 Tryz.results85 Tryz.call85 (by simp) fun P C CQ D W F E hF=>?_
 refine E.cut 4 (told 95 [(0,pW g),(2,.ptr 0 0),(3,.ptr 1 0)] [.box (.agg [.lit 0,.nils,.lit 0,.nils,.lit 0,.nils,.lit 0,.nils]),.box (.agg [.vs 2 fun _=>ps (prA p1 (nG g) (nG g)),.vs 2 fun _=>ps (prA p2 (nG g) (nG g)),.vs 2 fun _=>ps (prA p3 (nG g) (nG g)),.vs 2 fun _=>ps (prA p4 (nG g) (nG g))])]) (by kernel_rfl) (Nat.zero_le _) (fun I hI=>?_) (E.bl ?_)
 ·cbv
  repeat' (first
   |(refine ⟨fun _ h_s=>?_,fun _ h_s=>?_⟩<;>(cbv;(try simp only [nc] at *);try simp (disch:=(first|omega|(simp only [lnS];omega))) only [rdT,rdS,reduceCtorEq,trT] at h_s))
   |(refine hF ?_;intro _;clear hF)
   |(refine hF ?_;cbv;clear hF)
   |(refine ⟨fun _=>?_,?_⟩;(· ((try simp only [nc] at *);first|done|omega|exact ⟨by omega,rfl⟩|(simp (disch:=(first|omega|(simp only [lnS];omega))) only [rdT,rdS];first|done|omega|rfl|exact ⟨by omega,rfl⟩|(simp;done)|(simp;omega))|(intros;trivial)));(try (simp only [nc] at *));(try simp (disch:=(first|omega|(simp only [lnS];omega))) only [rdT,rdS]);(try cbv))
   |(refine E.d 27 (by decide +kernel) ?_;cbv;(fail_if_success guard_target =~ False))
   | fail
  )
  refine E.w (AWP.ghostField 1 0 2 rfl rfl ?_)
  refine AWP.ghostField 1 1 2 rfl rfl ?_
  refine AWP.ghostField 1 2 2 rfl rfl ?_
  refine AWP.ghostField 1 3 2 rfl rfl ?_
  refine E.loopSA (ι:=Nat) (fun a=>a≤nG g) (fun a=>nG g-a) (fun a=>[(4,.i fun _=>((a:Nat):Int))]) (fun a h=>(((((h.set 1 (.box (.agg [.sl 2 (G (L p1 a 0)) 2 (fun _=>0) fun _=>(L p1 a 0).length,.sl 3 (G (L p2 a 0)) 2 (fun _=>0) fun _=>(L p2 a 0).length,.sl 4 (G (L p3 a 0)) 2 (fun _=>0) fun _=>(L p3 a 0).length,.sl 5 (G (L p4 a 0)) 2 (fun _=>0) fun _=>(L p4 a 0).length]))).set 2 (.run (G (L p1 a 0)) 2 fun _=>ps (L p1 a 0))).set 3 (.run (G (L p2 a 0)) 2 fun _=>ps (L p2 a 0))).set 4 (.run (G (L p3 a 0)) 2 fun _=>ps (L p3 a 0))).set 5 (.run (G (L p4 a 0)) 2 fun _=>ps (L p4 a 0)))) 0 (fun _=>by first|rfl|simp) (Nat.zero_le _) ?_ fun a ha I1 hJ=>?_
  ·cbv
   simp [l0,hG0,ps,LV.of]
  cbv
  repeat' (first
   |(refine ⟨fun _ h_s=>?_,fun _ h_s=>?_⟩<;>(cbv;(try simp only [nc] at *);try simp (disch:=(first|omega|(simp only [lnS];omega))) only [rdT,rdS,reduceCtorEq,trT] at h_s))
   |(refine hF ?_;intro _;clear hF)
   |(refine hF ?_;cbv;clear hF)
   |(refine ⟨fun _=>?_,?_⟩;(· ((try simp only [nc] at *);first|done|omega|exact ⟨by omega,rfl⟩|(simp (disch:=(first|omega|(simp only [lnS];omega))) only [rdT,rdS];first|done|omega|rfl|exact ⟨by omega,rfl⟩|(simp;done)|(simp;omega))|(intros;trivial)));(try (simp only [nc] at *));(try simp (disch:=(first|omega|(simp only [lnS];omega))) only [rdT,rdS]);(try cbv))
   |(refine E.d 27 (by decide +kernel) ?_;cbv;(fail_if_success guard_target =~ False))
   | fail
  )
  ·refine E.loopS (ι:=Nat) (fun b=>b≤(nG g)) (fun b=>(nG g)-b) (fun b=>[(5,.i fun _=>((b:Nat):Int))]) (fun b h=>(((((h.set 1 (.box (.agg [.sl 2 (G (L p1 a b)) 2 (fun _=>0) fun _=>(L p1 a b).length,.sl 3 (G (L p2 a b)) 2 (fun _=>0) fun _=>(L p2 a b).length,.sl 4 (G (L p3 a b)) 2 (fun _=>0) fun _=>(L p3 a b).length,.sl 5 (G (L p4 a b)) 2 (fun _=>0) fun _=>(L p4 a b).length]))).set 2 (.run (G (L p1 a b)) 2 fun _=>ps (L p1 a b))).set 3 (.run (G (L p2 a b)) 2 fun _=>ps (L p2 a b))).set 4 (.run (G (L p3 a b)) 2 fun _=>ps (L p3 a b))).set 5 (.run (G (L p4 a b)) 2 fun _=>ps (L p4 a b)))) 0 (fun _=>by first|rfl|simp) (Nat.zero_le _) ?_ fun b hb I2 hI2=>?_
   ·cbv;simp
   cbv
   have d1:=lL p1 a b ha hb
   have d2:=lL p2 a b ha hb
   have d3:=lL p3 a b ha hb
   have d4:=lL p4 a b ha hb
   skip
   repeat' (first
    |(refine hI2 (b+1) ?_ ?_ ?_;rotate_left 1;(· ((try simp only [nc] at *);omega));(cbv;clear hI2;(try clear hF);(try simp only [nc] at *);(try simp (disch:=(first|omega|(simp only [lnS];omega))) only [rdT,rdS,anT]));rotate_left 1;(try ((try simp only [nc] at *);omega)))
    |(refine E.c (SCalls.of_le (c4 a b (by ((try simp only [nc] at *);omega)) (by ((try simp only [nc] at *);omega))) ?_ ?_);(· (cbv;(try simp only [nc] at *);first|done|(simp;done)|(simp (disch:=(first|omega|(simp only [lnS];omega))) only [rdT,rdS,anT];first|done|omega|(refine ⟨?_,?_⟩<;>omega))|(simp (disch:=(first|omega|(simp only [lnS];omega))) [rdT,rdS];done)));cbv)
    |(refine E.c (SCalls.of_le (c3 a b (by ((try simp only [nc] at *);omega)) (by ((try simp only [nc] at *);omega))) ?_ ?_);(· (cbv;(try simp only [nc] at *);first|done|(simp;done)|(simp (disch:=(first|omega|(simp only [lnS];omega))) only [rdT,rdS,anT];first|done|omega|(refine ⟨?_,?_⟩<;>omega))|(simp (disch:=(first|omega|(simp only [lnS];omega))) [rdT,rdS];done)));cbv)
    |(refine E.c (SCalls.of_le (c2 a b (by ((try simp only [nc] at *);omega)) (by ((try simp only [nc] at *);omega))) ?_ ?_);(· (cbv;(try simp only [nc] at *);first|done|(simp;done)|(simp (disch:=(first|omega|(simp only [lnS];omega))) only [rdT,rdS,anT];first|done|omega|(refine ⟨?_,?_⟩<;>omega))|(simp (disch:=(first|omega|(simp only [lnS];omega))) [rdT,rdS];done)));cbv)
    |(refine E.c (SCalls.of_le (c1 a b (by ((try simp only [nc] at *);omega)) (by ((try simp only [nc] at *);omega))) ?_ ?_);(· (cbv;(try simp only [nc] at *);first|done|(simp;done)|(simp (disch:=(first|omega|(simp only [lnS];omega))) only [rdT,rdS,anT];first|done|omega|(refine ⟨?_,?_⟩<;>omega))|(simp (disch:=(first|omega|(simp only [lnS];omega))) [rdT,rdS];done)));cbv)
    |(refine ⟨fun _ h_s=>?_,fun _ h_s=>?_⟩<;>(cbv;(try simp only [nc] at *);try simp (disch:=(first|omega|(simp only [lnS];omega))) only [rdT,rdS,reduceCtorEq,trT] at h_s))
    |(refine hF ?_;intro _;clear hF)
    |(refine hF ?_;cbv;clear hF)
    |(refine ⟨fun _=>?_,?_⟩;(· ((try simp only [nc] at *);first|done|omega|exact ⟨by omega,rfl⟩|(simp (disch:=(first|omega|(simp only [lnS];omega))) only [rdT,rdS];first|done|omega|rfl|exact ⟨by omega,rfl⟩|(simp;done)|(simp;omega))|(intros;trivial)|exact ⟨by first|trivial|rfl,by first|trivial|rfl|simp,by first|trivial|simp,by simp;omega,by simp;omega,by simp [AV.flat,AV.cells,AV.one]⟩));(try (simp only [nc] at *));(try simp (disch:=(first|omega|(simp only [lnS];omega))) only [rdT,rdS]);(try cbv))
    |(refine E.d 27 (by decide +kernel) ?_;cbv;(fail_if_success guard_target =~ False))
    | fail
   )
   all_goals clear c1 c2 c3 c4 E lL lF l0 hG0 d1 d2 d3 d4
   rotate_right 1
   ·have eb:b=nG g:=by ((try simp only [nc] at *);omega)
    subst eb
    simp only [lE]
    refine hJ (a+1) (by ((try simp only [nc] at *);omega)) (by ((try simp only [nc] at *);omega)) ?_
    cbv
    clear hJ hI hI2
    have e:=w64_of (n:=(a:Int)+1) (by omega) (by omega)
    simp [e]
   all_goals clear lE
   all_goals simp_all [hG,setAll,ps,AV.nrm]
   all_goals omega
  ·have ea:a=nG g:=by ((try simp only [nc] at *);omega)
   subst ea
   simp only [lF]
   refine hI ?_
   cbv
   clear hI hJ
   simp only [List.drop_zero,nc]
   simp
   refine ⟨?_,?_,?_,?_⟩<;>exact List.take_of_length_le (by simp)
 ·cbv
  repeat' (first
   |((first|refine E.c (SCalls.of_le (k4) ?_ ?_)|refine E.q (QCalls.of_le (k4) ?_ ?_));(· (cbv;(try simp only [nc] at *);first|done|(simp;done)|(simp (disch:=(first|omega|(simp only [lnS];omega))) only [rdT,rdS,anT];first|done|omega|(refine ⟨?_,?_⟩<;>omega))|(simp (disch:=(first|omega|(simp only [lnS];omega))) [rdT,rdS];done)));cbv)
   |((first|refine E.c (SCalls.of_le (k3) ?_ ?_)|refine E.q (QCalls.of_le (k3) ?_ ?_));(· (cbv;(try simp only [nc] at *);first|done|(simp;done)|(simp (disch:=(first|omega|(simp only [lnS];omega))) only [rdT,rdS,anT];first|done|omega|(refine ⟨?_,?_⟩<;>omega))|(simp (disch:=(first|omega|(simp only [lnS];omega))) [rdT,rdS];done)));cbv)
   |((first|refine E.c (SCalls.of_le (k2) ?_ ?_)|refine E.q (QCalls.of_le (k2) ?_ ?_));(· (cbv;(try simp only [nc] at *);first|done|(simp;done)|(simp (disch:=(first|omega|(simp only [lnS];omega))) only [rdT,rdS,anT];first|done|omega|(refine ⟨?_,?_⟩<;>omega))|(simp (disch:=(first|omega|(simp only [lnS];omega))) [rdT,rdS];done)));cbv)
   |((first|refine E.c (SCalls.of_le (k1) ?_ ?_)|refine E.q (QCalls.of_le (k1) ?_ ?_));(· (cbv;(try simp only [nc] at *);first|done|(simp;done)|(simp (disch:=(first|omega|(simp only [lnS];omega))) only [rdT,rdS,anT];first|done|omega|(refine ⟨?_,?_⟩<;>omega))|(simp (disch:=(first|omega|(simp only [lnS];omega))) [rdT,rdS];done)));cbv)
   |(refine ⟨fun _ h_s=>?_,fun _ h_s=>?_⟩<;>(cbv;(try simp only [nc] at *);try simp (disch:=(first|omega|(simp only [lnS];omega))) only [rdT,rdS,reduceCtorEq,trT] at h_s))
   |(refine hF ?_;intro _;clear hF)
   |(refine hF ?_;cbv;clear hF)
   |(refine ⟨fun _=>?_,?_⟩;(· ((try simp only [nc] at *);first|done|omega|exact ⟨by omega,rfl⟩|(simp (disch:=(first|omega|(simp only [lnS];omega))) only [rdT,rdS];first|done|omega|rfl|exact ⟨by omega,rfl⟩|(simp;done)|(simp;omega))|(intros;trivial)|exact ⟨by first|trivial|rfl,by first|trivial|rfl|simp,by first|trivial|simp,by simp;omega,by simp;omega,by simp [AV.flat,AV.cells,AV.one]⟩));(try (simp only [nc] at *));(try simp (disch:=(first|omega|(simp only [lnS];omega))) only [rdT,rdS]);(try cbv))
   |(refine E.d 27 (by decide +kernel) ?_;cbv;(fail_if_success guard_target =~ False))
   | fail
  )
end Go.AL.Rl
