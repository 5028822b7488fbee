import Derived.Test.YtjcioienjlonmaaGreatMa4
set_option linter.unusedVariables false
set_option linter.unusedSimpArgs false
namespace Go.AL.Rl
open Go Go.AL Go.Proofs
set_option maxRecDepth 100000
variable {γ:Nat→Option AV}
theorem gevent_ok (g:Gr) (hg:Rd g) (d:EId):Pure Tryz.prog γ false 77 [aGr g,aId d] (.tup [aEv ((eventM g d).getD ev0),.b fun _=>(eventM g d).isSome]):=by
 have hg1:=hg.init
 have hg2:=hg.th
 refine Pure.go (ty:=ty) ty_eq mo Tryz.func77 rfl Tryz.ntmps77 Tryz.results77 Tryz.call77 (by simp) fun P C CQ D W F E hF=>?_
 cbv
 repeat' (first
  |(refine ⟨fun _ h_s=>?_,fun _ h_s=>?_⟩<;>(cbv;(try simp only [nc] at *);try simp (disch:=(first|omega|(simp only [lnS];omega))) only [rdT,rdS,reduceCtorEq,trT] at h_s))
  |(refine hF ?_;intro _;clear hF)
  |(refine hF ?_;cbv;clear hF)
  |(refine ⟨fun _=>?_,?_⟩;(· ((try simp only [nc] at *);first|done|omega|exact ⟨by omega,rfl⟩|(simp (disch:=(first|omega|(simp only [lnS];omega))) only [rdT,rdS];first|done|omega|rfl|exact ⟨by omega,rfl⟩|(simp;done)|(simp;omega))|(intros;trivial)));try cbv)
  |(refine E.d 8 (by decide +kernel) ?_;cbv;(fail_if_success guard_target =~ False))
  |(refine E.d 9 (by decide +kernel) ?_;cbv;(fail_if_success guard_target =~ False))
  |(refine E.d 10 (by decide +kernel) ?_;cbv;(fail_if_success guard_target =~ False))
  | fail
 )
 all_goals (try simp only [nc] at *)
 all_goals (try simp (disch:=(first|omega|(simp only [lnS];omega))) only [rdT,rdS])
 all_goals first
  | (
    have e:eventM g d=none:=by (unfold eventM;split<;>split<;>first | rfl | omega)
    rw [e];simp;done)
  | (
    have e:eventM g d=some ⟨2,d.i,1,0,g.init.getD d.i.toNat 0⟩:=by (unfold eventM;split<;>split<;>first | rfl | omega)
    rw [e];simp;done)
  | (
    have e:eventM g d=some ((g.th.getD (d.t-1).toNat []).getD d.i.toNat ev0):=by (unfold eventM;split<;>split<;>first | rfl | omega)
    rw [e];simp;done)
  | skip
theorem rightFrom_ok (g:Gr) (hg:Rd g) (d f:EId):Pure Tryz.prog γ false 50 [aGr g,aId d,aId f] (.b fun _=>sourceM g d f):=by
 refine Pure.go (ty:=ty) ty_eq mo Tryz.func50 rfl Tryz.ntmps50 Tryz.results50 Tryz.call50 (by simp) fun P C CQ D W F E hF=>?_
 cbv
 repeat' (first
  |(refine E.c (SCalls.of_le (gwrites_ok ((eventM g f).getD ev0)) ?_ ?_);(· (cbv;(try simp only [nc] at *);first|done|(simp;done)|(simp (disch:=(first|omega|(simp only [lnS];omega))) only [rdT,rdS,anT];first|done|omega|(refine ⟨?_,?_⟩<;>omega))|(simp (disch:=(first|omega|(simp only [lnS];omega))) [rdT,rdS];done)));cbv)
  |(refine E.c (SCalls.of_le (greads_ok ((eventM g d).getD ev0)) ?_ ?_);(· (cbv;(try simp only [nc] at *);first|done|(simp;done)|(simp (disch:=(first|omega|(simp only [lnS];omega))) only [rdT,rdS,anT];first|done|omega|(refine ⟨?_,?_⟩<;>omega))|(simp (disch:=(first|omega|(simp only [lnS];omega))) [rdT,rdS];done)));cbv)
  |(refine E.c (SCalls.of_le (gevent_ok g hg f) ?_ ?_);(· (cbv;(try simp only [nc] at *);first|done|(simp;done)|(simp (disch:=(first|omega|(simp only [lnS];omega))) only [rdT,rdS,anT];first|done|omega|(refine ⟨?_,?_⟩<;>omega))|(simp (disch:=(first|omega|(simp only [lnS];omega))) [rdT,rdS];done)));cbv)
  |(refine E.c (SCalls.of_le (gevent_ok g hg d) ?_ ?_);(· (cbv;(try simp only [nc] at *);first|done|(simp;done)|(simp (disch:=(first|omega|(simp only [lnS];omega))) only [rdT,rdS,anT];first|done|omega|(refine ⟨?_,?_⟩<;>omega))|(simp (disch:=(first|omega|(simp only [lnS];omega))) [rdT,rdS];done)));cbv)
  |(refine ⟨fun _ h_s=>?_,fun _ h_s=>?_⟩<;>(cbv;(try simp only [nc] at *);try simp (disch:=(first|omega|(simp only [lnS];omega))) only [rdT,rdS,reduceCtorEq,trT] at h_s))
  |(refine hF ?_;intro _;clear hF)
  |(refine hF ?_;cbv;clear hF)
  |(refine ⟨fun _=>?_,?_⟩;(· ((try simp only [nc] at *);first|done|omega|exact ⟨by omega,rfl⟩|(simp (disch:=(first|omega|(simp only [lnS];omega))) only [rdT,rdS];first|done|omega|rfl|exact ⟨by omega,rfl⟩|(simp;done)|(simp;omega))|(intros;trivial)));try cbv)
  | fail
 )
 all_goals (try simp only [nc] at *)
 all_goals (try simp (disch:=(first|omega|(simp only [lnS];omega))) only [rdT,rdS])
 all_goals (unfold sourceM;cases hf:eventM g f<;>simp_all [eid_iff])
def longE (l:List Ev):Bool:=decide (14<(l.length:Int))
theorem tooLong1_ok (l:List Ev):Pure Tryz.prog γ false 75 [.vs 5 fun _=>evs l] (.b fun _=>longE l):=by
 refine Pure.go (ty:=ty) ty_eq mo Tryz.func75 rfl Tryz.ntmps75 Tryz.results75 Tryz.call75 (by simp) fun P C CQ D W F E hF=>?_
 cbv
 repeat' (first
  |(refine ⟨fun _ h_s=>?_,fun _ h_s=>?_⟩<;>(cbv;(try simp only [nc] at *);try simp (disch:=(first|omega|(simp only [lnS];omega))) only [rdT,rdS,reduceCtorEq,trT] at h_s))
  |(refine hF ?_;intro _;clear hF)
  |(refine hF ?_;cbv;clear hF)
  |(refine ⟨fun _=>?_,?_⟩;(· ((try simp only [nc] at *);first|done|omega|exact ⟨by omega,rfl⟩|(simp (disch:=(first|omega|(simp only [lnS];omega))) only [rdT,rdS];first|done|omega|rfl|exact ⟨by omega,rfl⟩|(simp;done)|(simp;omega))|(intros;trivial)));try cbv)
  | fail
 )
 all_goals (try simp only [nc] at *)
 all_goals (try simp (disch:=(first|omega|(simp only [lnS];omega))) only [rdT,rdS])
 simp [longE]
def firstM {α:Type} (p:α→Bool) (l:List α):Int:=match l.findIdx? p with | some i=>i | none=>-1
theorem firstM_at {α:Type} {p:α→Bool} {l:List α} (d:α) (i:Nat) (hi:i<l.length) (h:p (l.getD i d)=true) (h2:∀ j<i,p (l.getD j d)=false):firstM p l=i:=by
 unfold firstM
 have:l.findIdx? p=some i:=by
  rw [List.findIdx?_eq_some_iff_getElem]
  refine ⟨hi,by simpa [hi] using h,fun j hj=>?_⟩
  have hjl:j<l.length:=by omega
  have:=h2 j hj
  simp only [List.getD_eq_getElem?_getD,List.getElem?_eq_getElem hjl,Option.getD_some] at this
  simp [this]
 rw [this]
theorem firstM_none {α:Type} {p:α→Bool} {l:List α} (d:α) (h:∀ j<l.length,p (l.getD j d)=false):firstM p l = -1:=by
 unfold firstM
 have:l.findIdx? p=none:=by
  rw [List.findIdx?_eq_none_iff]
  intro a ha
  obtain ⟨j,hj,rfl⟩:=List.getElem_of_mem ha
  simpa [hj] using h j hj
 rw [this]
theorem firstM_any {α:Type} {p:α→Bool} {l:List α}:decide (0≤firstM p l)=l.any p:=by
 unfold firstM
 cases h:l.findIdx? p with
 | none=>rw [List.findIdx?_eq_none_iff] at h;simp;exact h
 | some i=>
  rw [List.findIdx?_eq_some_iff_getElem] at h
  obtain ⟨h1,h2,_⟩:=h
  simp
  exact ⟨_,List.getElem_mem h1,h2⟩
theorem indexFunc_ok (l:List (List Ev)) (hl:(l.length:Int)≤9223372036854775807):Pure Tryz.prog γ false 114 [.vs 1 fun _=>evss l,.fn 75 [] []] (.i fun _=>firstM longE l):=by
 refine Pure.go (ty:=ty) ty_eq mo Tryz.func114 rfl Tryz.ntmps114 Tryz.results114 Tryz.call114 (by simp) fun P C CQ D W F E hF=>?_
 cbv
 refine E.loopS (ι:=Nat) (fun i=>i≤l.length∧(∀ j<i,longE (l.getD j [])=false)) (fun i=>l.length-i) (fun i=>[(8,.i fun _=>((i:Nat):Int))]) (fun i h=>h) 0 (fun _=>by first|rfl|simp) ⟨Nat.zero_le _,?_⟩ ?_ fun i hi I hI=>?_
 ·intro j hj;omega
 ·cbv;simp
 obtain ⟨hi,hok⟩:=hi
 cbv
 repeat' (first
  |(refine hI (i+1) ?_ ?_ ?_;rotate_left 1;(· ((try simp only [nc] at *);omega));(cbv;clear hI;(try clear hF);(try simp only [nc] at *);(try simp (disch:=(first|omega|(simp only [lnS];omega))) only [rdT,rdS,anT]));rotate_left 1;(try ((try simp only [nc] at *);omega)))
  |(refine E.c (SCalls.of_le (tooLong1_ok (l.getD i [])) ?_ ?_);(· (cbv;(try simp only [nc] at *);first|done|(simp;done)|(simp (disch:=(first|omega|(simp only [lnS];omega))) only [rdT,rdS,anT];first|done|omega|(refine ⟨?_,?_⟩<;>omega))|(simp (disch:=(first|omega|(simp only [lnS];omega))) [rdT,rdS];done)));cbv)
  |(refine ⟨fun _ h_s=>?_,fun _ h_s=>?_⟩<;>(cbv;(try simp only [nc] at *);try simp (disch:=(first|omega|(simp only [lnS];omega))) only [rdT,rdS,reduceCtorEq,trT] at h_s))
  |(refine hF ?_;intro _;clear hF)
  |(refine hF ?_;cbv;clear hF)
  |(refine ⟨fun _=>?_,?_⟩;(· ((try simp only [nc] at *);first|done|omega|exact ⟨by omega,rfl⟩|(simp (disch:=(first|omega|(simp only [lnS];omega))) only [rdT,rdS];first|done|omega|rfl|exact ⟨by omega,rfl⟩|(simp;done)|(simp;omega))|(intros;trivial)));try cbv)
  | fail
 )
 all_goals (try simp only [nc] at *)
 all_goals (try simp (disch:=(first|omega|(simp only [lnS];omega))) only [rdT,rdS])
 ·exact (firstM_at [] i (by omega) (by assumption) hok).symm
 ·refine ⟨by omega,fun j hj=>?_⟩
  rcases Nat.lt_or_ge j i with h | h
  ·exact hok j h
  ·obtain rfl:j=i:=by omega
   assumption
 ·omega
 ·exact (firstM_none [] fun j hj=>hok j (by omega)).symm
theorem containsFunc_ok (l:List (List Ev)) (hl:(l.length:Int)≤9223372036854775807):Pure Tryz.prog γ false 74 [.vs 1 fun _=>evss l,.fn 75 [] []] (.b fun _=>l.any longE):=by
 refine Pure.go (ty:=ty) ty_eq mo Tryz.func74 rfl Tryz.ntmps74 Tryz.results74 Tryz.call74 (by simp) fun P C CQ D W F E hF=>?_
 cbv
 repeat' (first
  |(refine E.c (SCalls.of_le (indexFunc_ok l hl) ?_ ?_);(· (cbv;(try simp only [nc] at *);first|done|(simp;done)|(simp (disch:=(first|omega|(simp only [lnS];omega))) only [rdT,rdS,anT];first|done|omega|(refine ⟨?_,?_⟩<;>omega))|(simp (disch:=(first|omega|(simp only [lnS];omega))) [rdT,rdS];done)));cbv)
  |(refine ⟨fun _ h_s=>?_,fun _ h_s=>?_⟩<;>(cbv;(try simp only [nc] at *);try simp (disch:=(first|omega|(simp only [lnS];omega))) only [rdT,rdS,reduceCtorEq,trT] at h_s))
  |(refine hF ?_;intro _;clear hF)
  |(refine hF ?_;cbv;clear hF)
  |(refine ⟨fun _=>?_,?_⟩;(· ((try simp only [nc] at *);first|done|omega|exact ⟨by omega,rfl⟩|(simp (disch:=(first|omega|(simp only [lnS];omega))) only [rdT,rdS];first|done|omega|rfl|exact ⟨by omega,rfl⟩|(simp;done)|(simp;omega))|(intros;trivial)));try cbv)
  | fail
 )
 all_goals (try simp only [nc] at *)
 all_goals (try simp (disch:=(first|omega|(simp only [lnS];omega))) only [rdT,rdS])
 exact firstM_any
theorem short_iff (g:Gr):Short g↔g.th.length≤4∧g.init.length≤6∧g.th.any longE=false:=by
 constructor
 ·intro h
  refine ⟨h.th,h.init,?_⟩
  rw [List.any_eq_false]
  intro l hl
  have:=h.ths l hl
  simp [longE];omega
 ·rintro ⟨h1,h2,h3⟩
  refine ⟨h1,h2,fun l hl=>?_⟩
  rw [List.any_eq_false] at h3
  have:=h3 l hl
  simp [longE] at this;omega
theorem tooLong_ok (g:Gr) (hg:Rd g):Pure Tryz.prog γ false 48 [aGr g] (.b fun _=>!decide (Short g)):=by
 have hg2:=hg.th
 refine Pure.go (ty:=ty) ty_eq mo Tryz.func48 rfl Tryz.ntmps48 Tryz.results48 Tryz.call48 (by simp) fun P C CQ D W F E hF=>?_
 cbv
 repeat' (first
  |((first|refine E.c (SCalls.of_le (containsFunc_ok g.th hg2) ?_ ?_)|refine E.q (QCalls.of_le (containsFunc_ok g.th hg2) ?_ ?_));(· (cbv;(try simp only [nc] at *);first|done|(simp;done)|(simp (disch:=(first|omega|(simp only [lnS];omega))) only [rdT,rdS,anT];first|done|omega|(refine ⟨?_,?_⟩<;>omega))|(simp (disch:=(first|omega|(simp only [lnS];omega))) [rdT,rdS];done)));cbv)
  |(refine ⟨fun _ h_s=>?_,fun _ h_s=>?_⟩<;>(cbv;(try simp only [nc] at *);try simp (disch:=(first|omega|(simp only [lnS];omega))) only [rdT,rdS,reduceCtorEq,trT] at h_s))
  |(refine hF ?_;intro _;clear hF)
  |(refine hF ?_;cbv;clear hF)
  |(refine ⟨fun _=>?_,?_⟩;(· ((try simp only [nc] at *);first|done|omega|exact ⟨by omega,rfl⟩|(simp (disch:=(first|omega|(simp only [lnS];omega))) only [rdT,rdS];first|done|omega|rfl|exact ⟨by omega,rfl⟩|(simp;done)|(simp;omega))|(intros;trivial)));try cbv)
  | fail
 )
 all_goals (try simp only [nc] at *)
 all_goals (try simp (disch:=(first|omega|(simp only [lnS];omega))) only [rdT,rdS])
 all_goals
  have key:decide (Short g)=(decide (g.th.length≤4) && decide (g.init.length≤6) && !(g.th.any longE)):=by
   rw [Bool.eq_iff_iff,decide_eq_true_iff,short_iff];simp only [Bool.and_eq_true,decide_eq_true_eq,Bool.not_eq_true',and_assoc]
  rw [key]
  cases hA:g.th.any longE
  all_goals (simp only [Bool.not_true,Bool.not_false,Bool.and_true,Bool.and_false])
  all_goals (try rw [decide_eq_true (show g.th.length≤4 by omega)])
  all_goals (try rw [decide_eq_true (show g.init.length≤6 by omega)])
  all_goals (try rw [decide_eq_false (show ¬ g.th.length≤4 by omega)])
  all_goals (try rw [decide_eq_false (show ¬ g.init.length≤6 by omega)])
  all_goals simp_all
end Go.AL.Rl
namespace Go.AL.Rl
open Go Go.AL Go.Proofs
set_option maxRecDepth 100000
variable {γ:Nat→Option AV}
theorem knums_id (d:EId):knums [.i,.i] (aId d)=[d.t,d.i]:=rfl
theorem mfind_ids (l:List EId) (d:EId):mfind [.i,.i] (ids l) [d.t,d.i]=l.findIdx? fun x=>decide (x=d):=by
 unfold mfind ids
 rw [LV.l_of,List.findIdx?_map]
 congr 1
 funext x
 simp only [Function.comp,knums_id]
 by_cases h:x=d
 ·subst h;simp
 ·simp [h]
  intro h1
  exact fun h2=>h (EId.ext' h1 h2)
theorem mok_ids (l:List EId):mok [.i,.i] (ids l):=by
 intro v hv
 simp only [ids,LV.l_of,List.mem_map] at hv
 obtain ⟨x,_,rfl⟩:=hv
 rfl
abbrev mapB (m:List (EId × Int)):Blk:=.map (fun _=>ids (m.map (·.1))) fun _=>is (m.map (·.2))
def wsE (t:Nat) (l:List Ev) (n:Nat):List (EId × Int):=(List.range n).flatMap fun i=>if writesM (l.getD i ev0) then [(⟨t+1,i⟩,(l.getD i ev0).loc)] else []
def wsT (g:Gr) (t:Nat):List (EId × Int):=(List.range t).flatMap fun k=>wsE k (g.th.getD k []) (g.th.getD k []).length
theorem wsE_succ (t:Nat) (l:List Ev) (n:Nat):wsE t l (n+1)=wsE t l n++if writesM (l.getD n ev0) then [(⟨t+1,n⟩,(l.getD n ev0).loc)] else []:=by
 unfold wsE;rw [List.range_succ,List.flatMap_append];simp
theorem wsT_succ (g:Gr) (t:Nat):wsT g (t+1)=wsT g t++wsE t (g.th.getD t []) (g.th.getD t []).length:=by
 unfold wsT;rw [List.range_succ,List.flatMap_append];simp
theorem wsE_mem {t:Nat} {l:List Ev} {n:Nat} {p:EId × Int}:p∈wsE t l n↔∃ i<n,writesM (l.getD i ev0)=true∧p=(⟨t+1,i⟩,(l.getD i ev0).loc):=by
 unfold wsE
 simp only [List.mem_flatMap,List.mem_range]
 constructor
 ·rintro ⟨i,hi,h⟩
  split at h
  ·exact ⟨i,hi,by assumption,by simpa using h⟩
  ·cases h
 ·rintro ⟨i,hi,h1,h2⟩
  exact ⟨i,hi,by rw [if_pos h1];simp [h2]⟩
theorem wsT_mem {g:Gr} {t:Nat} {p:EId × Int}:p∈wsT g t↔∃ k<t,∃ i<(g.th.getD k []).length,writesM ((g.th.getD k []).getD i ev0)=true∧p=(⟨k+1,i⟩,((g.th.getD k []).getD i ev0).loc):=by
 unfold wsT
 simp only [List.mem_flatMap,List.mem_range,wsE_mem]
theorem fresh_find {l:List EId} {d:EId} (h:d∉l):(l.findIdx? fun x=>decide (x=d))=none:=by
 rw [List.findIdx?_eq_none_iff]
 intro x hx
 simp
 rintro rfl
 exact h hx
theorem mput_new (l:List EId) (d:EId) (h:d∉l) (k:List Int) (hk:k=[d.t,d.i]) (v:AV) (hv:v=aId d):mputK (mfind [.i,.i] (ids l) k) (ids l) v=ids (l++[d]):=by
 subst hk;subst hv
 rw [mfind_ids,fresh_find h]
 simp [mputK,ids]
theorem mputV_new (l:List EId) (d:EId) (h:d∉l) (k:List Int) (hk:k=[d.t,d.i]) (vs:List Int) (n:Int) (v:AV) (hv:v=.i fun _=>n):mputV (mfind [.i,.i] (ids l) k) (is vs) v=is (vs++[n]):=by
 subst hk;subst hv
 rw [mfind_ids,fresh_find h]
 simp [mputV,is]
theorem ws_fresh (g:Gr) (t i:Nat):(⟨t+1,i⟩:EId)∉(wsT g t++wsE t (g.th.getD t []) i).map (·.1):=by
 intro h
 obtain ⟨p,hp,he⟩:=List.mem_map.1 h
 rcases List.mem_append.1 hp with hp | hp
 ·obtain ⟨k,hk,j,_,_,rfl⟩:=wsT_mem.1 hp
  have:=congrArg EId.t he
  simp at this;omega
 ·obtain ⟨j,hj,_,rfl⟩:=wsE_mem.1 hp
  have:=congrArg EId.i he
  simp at this;omega
def qsT (g:Gr) (x:Nat):List (EId × Int):=(List.range x).flatMap fun k=>(g.ord.getD k []).map fun d=>(d,(k:Int))
def qsE (g:Gr) (x i:Nat):List (EId × Int):=((g.ord.getD x []).take i).map fun d=>(d,(x:Int))
theorem qsT_succ (g:Gr) (x:Nat):qsT g (x+1)=qsT g x++qsE g x (g.ord.getD x []).length:=by
 unfold qsT qsE;rw [List.range_succ,List.flatMap_append];simp
theorem qsE_succ (g:Gr) (x i:Nat) (h:i<(g.ord.getD x []).length):qsE g x (i+1)=qsE g x i++[((g.ord.getD x []).getD i id0,(x:Int))]:=by
 unfold qsE;rw [take_succ' _ i id0 h,List.map_append];simp
def strike:List (EId × Int)→List (EId × Int)→Option (List (EId × Int))
 | [],m=>some m
 | q :: qs,m=>if q∈m then strike qs (m.erase q) else none
theorem strike_app:∀ (a b m:List (EId × Int)),strike (a++b) m=(strike a m).bind (strike b)
 | [],b,m=>rfl
 | q :: a,b,m=>by
  simp only [List.cons_append,strike]
  split
  ·exact strike_app a b _
  ·rfl
theorem strike_perm:∀ (q m:List (EId × Int)),strike q m=some []↔q.Perm m
 | [],m=>by
  simp only [strike,Option.some.injEq]
  constructor
  ·rintro rfl;exact .refl _
  ·intro h;exact h.symm.eq_nil
 | a :: q,m=>by
  simp only [strike]
  split
  ·rename_i h
   rw [strike_perm q]
   constructor
   ·intro h2;exact (h2.cons a).trans (List.perm_cons_erase h).symm
   ·intro h2;exact List.Perm.cons_inv (h2.trans (List.perm_cons_erase h))
  ·rename_i h
   constructor
   ·intro h2;cases h2
   ·intro h2;exact absurd (h2.subset (by simp)) h
def Keyed (m:List (EId × Int)):Prop:=(m.map (·.1)).Nodup
def mlook (d:EId):List (EId × Int)→Option Int
 | []=>none
 | p :: m=>if p.1=d then some p.2 else mlook d m
abbrev mfd (m:List (EId × Int)) (d:EId):Option Nat:=(m.map (·.1)).findIdx? fun x=>decide (x=d)
theorem mfd_cons (p:EId × Int) (m:List (EId × Int)) (d:EId):mfd (p :: m) d=if p.1=d then some 0 else (mfd m d).map (· + 1):=by
 simp only [mfd,List.map_cons,List.findIdx?_cons]
 by_cases h:p.1=d<;>simp [h]
theorem mlook_isSome (d:EId):∀ (m:List (EId × Int)),(mfd m d).isSome=(mlook d m).isSome
 | []=>rfl
 | p :: m=>by
  rw [mfd_cons,mlook]
  split
  ·rfl
  ·rw [Option.isSome_map,mlook_isSome d m]
theorem mlook_val (d:EId):∀ (m:List (EId × Int)) (i:Nat),mfd m d=some i→i<m.length∧mlook d m=some ((m.map (·.2)).getD i 0)
 | [],i,h=>by simp [mfd] at h
 | p :: m,i,h=>by
  rw [mfd_cons] at h
  rw [mlook]
  split at h
  ·rename_i e;cases h;rw [if_pos e];simp
  ·rename_i e
   rw [Option.map_eq_some_iff] at h
   obtain ⟨j,hj,rfl⟩:=h
   obtain ⟨h1,h2⟩:=mlook_val d m j hj
   rw [if_neg e,h2]
   exact ⟨by simp;omega,by simp⟩
theorem mlook_mem (d:EId) (x:Int):∀ (m:List (EId × Int)),Keyed m→(mlook d m=some x↔(d,x)∈m)
 | [],_=>by simp [mlook]
 | p :: m,hk=>by
  have hk':Keyed m:=(List.nodup_cons.1 hk).2
  have hn:p.1∉m.map (·.1):=(List.nodup_cons.1 hk).1
  rw [mlook,List.mem_cons]
  split
  ·rename_i e
   constructor
   ·intro h;left;cases h;subst e;rfl
   ·rintro (h | h)
    ·rw [←h]
    ·exact absurd (e ▸ List.mem_map.2 ⟨_,h,rfl⟩:p.1∈m.map (·.1)) hn
  ·rename_i e
   rw [mlook_mem d x m hk']
   constructor
   ·exact .inr
   ·rintro (h | h)
    ·exact absurd (by rw [←h]) e
    ·exact h
theorem mlook_del (d:EId) (x:Int):∀ (m:List (EId × Int)) (i:Nat),mfd m d=some i→mlook d m=some x→m.eraseIdx i=m.erase (d,x)
 | [],i,h,_=>by simp [mfd] at h
 | p :: m,i,h,h2=>by
  rw [mfd_cons] at h
  rw [mlook] at h2
  split at h
  ·rename_i e
   rw [if_pos e] at h2
   cases h;cases h2
   have:p=(d,p.2):=by rw [←e]
   rw [this];simp
  ·rename_i e
   rw [if_neg e] at h2
   rw [Option.map_eq_some_iff] at h
   obtain ⟨j,hj,rfl⟩:=h
   have ih:=mlook_del d x m j hj h2
   have hne:¬ (p == (d,x))=true:=by
    intro h;rw [beq_iff_eq] at h;exact e (by rw [h])
   rw [List.eraseIdx_cons_succ,ih,List.erase_cons_tail hne]
theorem lk_some (m:List (EId × Int)) (d:EId) (k:List Int) (hk:k=[d.t,d.i]):(mfind [.i,.i] (ids (m.map (·.1))) k).isSome=(mlook d m).isSome:=by
 subst hk;rw [mfind_ids];exact mlook_isSome d m
theorem lk_val (m:List (EId × Int)) (d:EId) (k:List Int) (hk:k=[d.t,d.i]) (z:AV) (hz:(z.at 0).asI=0):((mval (mfind [.i,.i] (ids (m.map (·.1))) k) (is (m.map (·.2))) z).at 0).asI=(mlook d m).getD 0:=by
 subst hk;rw [mfind_ids]
 show ((mval (mfd m d) _ z).at 0).asI=_
 cases h:mfd m d with
 | none=>
  have:=mlook_isSome d m
  rw [h] at this
  cases h2:mlook d m with
  | none=>exact hz
  | some v=>rw [h2] at this;cases this
 | some i=>
  obtain ⟨h1,h2⟩:=mlook_val d m i h
  rw [h2]
  simp only [mval]
  rw [is_get _ i (by simpa using h1)];rfl
theorem lk_del (m:List (EId × Int)) (d:EId) (x:Int) (k:List Int) (hk:k=[d.t,d.i]) (h:mlook d m=some x) :
  mdel (mfind [.i,.i] (ids (m.map (·.1))) k) (ids (m.map (·.1)))=ids ((m.erase (d,x)).map (·.1))∧mdel (mfind [.i,.i] (ids (m.map (·.1))) k) (is (m.map (·.2)))=is ((m.erase (d,x)).map (·.2)):=by
 subst hk;rw [mfind_ids]
 show mdel (mfd m d) _=_∧mdel (mfd m d) _=_
 have h1:=mlook_isSome d m
 rw [h] at h1
 cases hf:mfd m d with
 | none=>rw [hf] at h1;cases h1
 | some i=>
  have:=mlook_del d x m i hf h
  rw [←this]
  simp only [mdel,ids,is,LV.l_of]
  constructor<;>(rw [map_erase,map_erase])
theorem keyed_erase {m:List (EId × Int)} (h:Keyed m) (p:EId × Int):Keyed (m.erase p):=List.Nodup.sublist (List.Sublist.map _ List.erase_sublist) h
theorem is_vals (l:List Int):∀ v∈(is l).l,v=ckv .i (fun _=>v) 0:=by
 intro v hv
 simp only [is,LV.l_of,List.mem_map] at hv
 obtain ⟨x,_,rfl⟩:=hv
 rfl
theorem strike_no {q1 q2 m m1:List (EId × Int)} {p:EId × Int} (h:strike q1 m=some m1) (hp:p∉m1):¬ (q1++p :: q2).Perm m:=by
 intro hq
 have:=(strike_perm _ _).2 hq
 rw [strike_app,h,Option.bind_some,strike,if_neg hp] at this
 cases this
theorem qsT_split (g:Gr) (x i:Nat) (hx:x<g.ord.length) (hi:i<(g.ord.getD x []).length):∃ r,qsT g g.ord.length=(qsT g x++qsE g x i)++((g.ord.getD x []).getD i id0,(x:Int)) :: r:=by
 have h1:∀ n,∃ r,qsT g (x+1+n)=qsT g (x+1)++r:=by
  intro n
  induction n with
  | zero=>exact ⟨[],by simp⟩
  | succ n ih=>obtain ⟨r,hr⟩:=ih;exact ⟨r++qsE g (x+1+n) (g.ord.getD (x+1+n) []).length,by rw [←Nat.add_assoc,qsT_succ,hr,List.append_assoc]⟩
 have h2:∀ n,∃ r,i+1+n≤(g.ord.getD x []).length→qsE g x (i+1+n)=qsE g x (i+1)++r:=by
  intro n
  induction n with
  | zero=>exact ⟨[],by simp⟩
  | succ n ih=>
   obtain ⟨r,hr⟩:=ih
   refine ⟨r++[((g.ord.getD x []).getD (i+1+n) id0,(x:Int))],fun h=>?_⟩
   rw [←Nat.add_assoc,qsE_succ g x _ (by omega),hr (by omega),List.append_assoc]
 obtain ⟨r1,hr1⟩:=h1 (g.ord.length-(x+1))
 obtain ⟨r2,hr2⟩:=h2 ((g.ord.getD x []).length-(i+1))
 have hr2:=hr2 (by omega)
 rw [show x+1+(g.ord.length-(x+1))=g.ord.length by omega] at hr1
 rw [show i+1+((g.ord.getD x []).length-(i+1))=(g.ord.getD x []).length by omega] at hr2
 refine ⟨r2++r1,?_⟩
 rw [hr1,qsT_succ,hr2,qsE_succ g x i hi]
 simp
theorem wsE_keyed (t:Nat) (l:List Ev):∀ n,Keyed (wsE t l n)
 | 0=>by simp [wsE,Keyed]
 | n+1=>by
  rw [wsE_succ]
  unfold Keyed
  rw [List.map_append,List.nodup_append]
  refine ⟨wsE_keyed t l n,by split<;>simp,?_⟩
  intro a ha b hb
  obtain ⟨p,hp,rfl⟩:=List.mem_map.1 ha
  obtain ⟨i,hi,_,rfl⟩:=wsE_mem.1 hp
  split at hb
  ·simp at hb;subst hb;intro h;have:=congrArg EId.i h;simp at this;omega
  ·simp at hb
theorem wsT_keyed (g:Gr):∀ t,Keyed (wsT g t)
 | 0=>by simp [wsT,Keyed]
 | t+1=>by
  rw [wsT_succ]
  unfold Keyed
  rw [List.map_append,List.nodup_append]
  refine ⟨wsT_keyed g t,wsE_keyed _ _ _,?_⟩
  intro a ha b hb
  obtain ⟨p,hp,rfl⟩:=List.mem_map.1 ha
  obtain ⟨q,hq,rfl⟩:=List.mem_map.1 hb
  obtain ⟨k,hk,j,_,_,rfl⟩:=wsT_mem.1 hp
  obtain ⟨j',_,_,rfl⟩:=wsE_mem.1 hq
  intro h;have:=congrArg EId.t h;simp at this;omega
theorem knums_i2 (a b:Unit→Int):knums [.i,.i] (.agg [.i a,.i b])=[a (),b ()]:=rfl
theorem rightOrder_ok (g:Gr) (hg:Rd g) (hs:Short g):Pure Tryz.prog γ false 51 [aGr g] (.b fun _=>decide ((qsT g g.ord.length).Perm (wsT g g.th.length))):=by
 have hs1:=hs.th
 have hg2:=hg.ord
 skip
 refine Pure.go (ty:=ty) ty_eq mo Tryz.func51 rfl Tryz.ntmps51 Tryz.results51 Tryz.call51 (by simp) fun P C CQ D W F E hF=>?_
 cbv
 refine E.loopS (ι:=Nat) (fun t=>t≤g.th.length) (fun t=>g.th.length-t) (fun t=>[(18,.i fun _=>((t:Nat):Int))]) (fun t h=>h.set 1 (mapB (wsT g t))) 0 (fun _=>by first|rfl|simp) (Nat.zero_le _) ?_ fun t ht I hI=>?_
 ·cbv;simp [wsT,ids,is,LV.of]
 cbv
 refine ⟨fun _ h4=>?_,fun _ h4=>?_⟩
 ·(try simp only [nc] at *)
  simp (disch:=(first|omega|(simp only [lnS];omega))) only [rdT,rdS,reduceCtorEq,trT] at h4
  have hht:=hs.at t
  cbv
  repeat' (first
   |(refine ⟨fun _ h_s=>?_,fun _ h_s=>?_⟩<;>(cbv;(try simp only [nc] at *);try simp (disch:=(first|omega|(simp only [lnS];omega))) only [rdT,rdS,reduceCtorEq,trT] at h_s))
   |(refine hF ?_;intro _;clear hF)
   |(refine hF ?_;cbv;clear hF)
   |(refine ⟨fun _=>?_,?_⟩;(· ((try simp only [nc] at *);first|done|omega|exact ⟨by omega,rfl⟩|(simp (disch:=(first|omega|(simp only [lnS];omega))) only [rdT,rdS];first|done|omega|rfl|exact ⟨by omega,rfl⟩|(simp;done)|(simp;omega))|(intros;trivial)|exact mok_ids _));try cbv)
   | fail
  )
  refine E.loopS (ι:=Nat) (fun i=>i≤(g.th.getD t []).length) (fun i=>(g.th.getD t []).length-i) (fun i=>[(25,.i fun _=>((i:Nat):Int))]) (fun i h=>h.set 1 (mapB (wsT g t++wsE t (g.th.getD t []) i))) 0 (fun _=>by first|rfl|simp) (Nat.zero_le _) ?_ fun i hi I2 hI2=>?_
  ·cbv;simp [wsE]
  cbv
  repeat' (first
   |(refine hI (t+1) ?_ ?_ ?_;rotate_left 1;(· ((try simp only [nc] at *);omega));(cbv;clear hI;(try clear hF);(try simp only [nc] at *);(try simp (disch:=(first|omega|(simp only [lnS];omega))) only [rdT,rdS,anT]));rotate_left 1;(try ((try simp only [nc] at *);omega)))
   |(refine hI2 (i+1) ?_ ?_ ?_;rotate_left 1;(· ((try simp only [nc] at *);omega));(cbv;clear hI2;(try clear hF);(try simp only [nc] at *);(try simp (disch:=(first|omega|(simp only [lnS];omega))) only [rdT,rdS,anT]));rotate_left 1;(try ((try simp only [nc] at *);omega)))
   |(refine E.c (SCalls.of_le (gwrites_ok ((g.th.getD t []).getD i ev0)) ?_ ?_);(· (cbv;(try simp only [nc] at *);first|done|(simp;done)|(simp (disch:=(first|omega|(simp only [lnS];omega))) only [rdT,rdS,anT];first|done|omega|(refine ⟨?_,?_⟩<;>omega))|(simp (disch:=(first|omega|(simp only [lnS];omega))) [rdT,rdS];done)));cbv)
   |(refine ⟨fun _ h_s=>?_,fun _ h_s=>?_⟩<;>(cbv;(try simp only [nc] at *);try simp (disch:=(first|omega|(simp only [lnS];omega))) only [rdT,rdS,reduceCtorEq,trT] at h_s))
   |(refine hF ?_;intro _;clear hF)
   |(refine hF ?_;cbv;clear hF)
   |(refine ⟨fun _=>?_,?_⟩;(· ((try simp only [nc] at *);first|done|omega|exact ⟨by omega,rfl⟩|(simp (disch:=(first|omega|(simp only [lnS];omega))) only [rdT,rdS];first|done|omega|rfl|exact ⟨by omega,rfl⟩|(simp;done)|(simp;omega))|(intros;trivial)|exact mok_ids _));try cbv)
   | fail
  )
  all_goals (try simp only [nc] at *)
  all_goals (try simp (disch:=(first|omega|(simp only [lnS];omega))) only [rdT,rdS])
  ·refine ⟨by omega,?_,?_⟩
   ·refine (mput_new _ ⟨t+1,i⟩ (ws_fresh g t i) _ rfl _ rfl).trans ?_
    rw [wsE_succ,if_pos (by assumption)]
    simp
   ·refine (mputV_new _ ⟨t+1,i⟩ (ws_fresh g t i) _ rfl _ ((g.th.getD t []).getD i ev0).loc _ rfl).trans ?_
    rw [wsE_succ,if_pos (by assumption)]
    simp
  ·refine ⟨by omega,?_⟩
   rw [wsE_succ,if_neg (by simp_all)]
   simp
  ·have e:i=(g.th.getD t []).length:=by omega
   rw [e,wsT_succ]
   exact ⟨by omega,rfl,rfl⟩
 clear hI
 (try simp only [nc] at *)
 simp (disch:=(first|omega|(simp only [lnS];omega))) only [rdT,rdS,reduceCtorEq,trT] at h4
 have e:t=g.th.length:=by omega
 subst e
 cbv
 repeat' (first
  |(refine ⟨fun _ h_s=>?_,fun _ h_s=>?_⟩<;>(cbv;(try simp only [nc] at *);try simp (disch:=(first|omega|(simp only [lnS];omega))) only [rdT,rdS,reduceCtorEq,trT] at h_s))
  |(refine hF ?_;intro _;clear hF)
  |(refine hF ?_;cbv;clear hF)
  |(refine ⟨fun _=>?_,?_⟩;(· ((try simp only [nc] at *);first|done|omega|exact ⟨by omega,rfl⟩|(simp (disch:=(first|omega|(simp only [lnS];omega))) only [rdT,rdS];first|done|omega|rfl|exact ⟨by omega,rfl⟩|(simp;done)|(simp;omega))|(intros;trivial)|exact mok_ids _));try cbv)
  | fail
 )
 generalize hm0:wsT g g.th.length=m0 at *
 have hk0:Keyed m0:=hm0 ▸ wsT_keyed g _
 refine E.loopS (ι:=Nat × List (EId × Int)) (fun j=>j.1≤g.ord.length∧strike (qsT g j.1) m0=some j.2∧Keyed j.2) (fun j=>g.ord.length-j.1) (fun j=>[(44,.i fun _=>((j.1:Nat):Int))]) (fun j h=>h.set 1 (mapB j.2)) (0,m0) (fun _=>rfl) ⟨Nat.zero_le _,rfl,hk0⟩ ?_ fun j hj I hI=>?_
 ·cbv;simp
 obtain ⟨x,m⟩:=j
 obtain ⟨hx,hst,hk⟩:=hj
 simp only at hx hst hk ⊢
 cbv
 refine ⟨fun _ h5=>?_,fun _ h5=>?_⟩
 ·(try simp only [nc] at *)
  simp (disch:=(first|omega|(simp only [lnS];omega))) only [rdT,rdS,reduceCtorEq,trT] at h5
  have hol:((g.ord.getD x []).length:Int)≤9223372036854775807:=hg.ords _ (getD_mem (by omega))
  cbv
  repeat' (first
   |(refine ⟨fun _ h_s=>?_,fun _ h_s=>?_⟩<;>(cbv;(try simp only [nc] at *);try simp (disch:=(first|omega|(simp only [lnS];omega))) only [rdT,rdS,reduceCtorEq,trT] at h_s))
   |(refine hF ?_;intro _;clear hF)
   |(refine hF ?_;cbv;clear hF)
   |(refine ⟨fun _=>?_,?_⟩;(· ((try simp only [nc] at *);first|done|omega|exact ⟨by omega,rfl⟩|(simp (disch:=(first|omega|(simp only [lnS];omega))) only [rdT,rdS];first|done|omega|rfl|exact ⟨by omega,rfl⟩|(simp;done)|(simp;omega))|(intros;trivial)|exact mok_ids _));try cbv)
   | fail
  )
  refine E.loopS (ι:=Nat × List (EId × Int)) (fun j=>j.1≤(g.ord.getD x []).length∧strike (qsT g x++qsE g x j.1) m0=some j.2∧Keyed j.2) (fun j=>(g.ord.getD x []).length-j.1) (fun j=>[(51,.i fun _=>((j.1:Nat):Int))]) (fun j h=>h.set 1 (mapB j.2)) (0,m) (fun _=>rfl) ⟨Nat.zero_le _,by simpa [qsE] using hst,hk⟩ ?_ fun j hj I2 hI2=>?_
  ·cbv;simp
  obtain ⟨i,m1⟩:=j
  obtain ⟨hi,hst1,hk1⟩:=hj
  simp only at hi hst1 hk1 ⊢
  cbv
  have hlk:=lk_some m1 ((g.ord.getD x []).getD i id0) _ rfl
  have hlv:=lk_val m1 ((g.ord.getD x []).getD i id0) _ rfl (.lit 0) rfl
  skip
  skip
  repeat' (first
   |(refine ⟨fun _ h_s=>?_,fun _ h_s=>?_⟩<;>(cbv;(try simp only [nc] at *);try simp (disch:=(first|omega|(simp only [lnS];omega))) only [rdT,rdS,knums_i2,reduceCtorEq,trT] at h_s))
   |(refine hF ?_;intro _;clear hF)
   |(refine hF ?_;cbv;clear hF)
   |(refine ⟨fun _=>?_,?_⟩;(· ((try simp only [nc] at *);first|done|omega|exact ⟨by omega,rfl⟩|(simp (disch:=(first|omega|(simp only [lnS];omega))) only [rdT,rdS,knums_i2];first|done|omega|rfl|exact ⟨by omega,rfl⟩|(simp;done)|(simp;omega))|(intros;trivial)|exact mok_ids _|exact ⟨mok_ids _,is_vals _⟩));(try (simp only [nc] at *));(try simp (disch:=(first|omega|(simp only [lnS];omega))) only [rdT,rdS,knums_i2]);(try cbv))
   | fail
  )
  all_goals (try simp only [nc] at *)
  all_goals (try simp (disch:=(first|omega|(simp only [lnS];omega))) only [rdT,rdS,knums_i2])
  ·obtain ⟨r,hr⟩:=qsT_split g x i (by omega) (by omega)
   rw [hr]
   refine decide_eq_false (strike_no hst1 fun hm=>?_)
   rw [←mlook_mem _ _ _ hk1] at hm
   simp_all
  ·obtain ⟨r,hr⟩:=qsT_split g x i (by omega) (by omega)
   rw [hr]
   refine decide_eq_false (strike_no hst1 fun hm=>?_)
   rw [←mlook_mem _ _ _ hk1] at hm
   simp_all
  ·have hm:mlook ((g.ord.getD x []).getD i id0) m1=some (x:Int):=by
    cases h:mlook ((g.ord.getD x []).getD i id0) m1<;>simp_all
   have hmm:=(mlook_mem _ _ _ hk1).1 hm
   obtain ⟨hd1,hd2⟩:=lk_del m1 _ _ _ rfl hm
   refine hI2 (i+1,m1.erase ((g.ord.getD x []).getD i id0,(x:Int))) ⟨by simp only;omega,?_,keyed_erase hk1 _⟩ (by simp only;omega) ?_
   ·simp only
    rw [qsE_succ g x i (by omega),←List.append_assoc,strike_app,hst1,Option.bind_some]
    simp only [strike,if_pos hmm]
   ·cbv
    clear hI hI2 hF
    (try simp only [nc] at *)
    (try simp (disch:=(first|omega|(simp only [lnS];omega))) only [rdT,rdS,knums_i2,anT])
    refine ⟨by omega,hd1,hd2⟩
  ·have e:i=(g.ord.getD x []).length:=by omega
   subst e
   refine hI (x+1,m1) ⟨by simp only;omega,by simp only;rw [qsT_succ];exact hst1,hk1⟩ (by simp only;omega) ?_
   cbv
   clear hI hI2 hF
   (try simp only [nc] at *)
   (try simp (disch:=(first|omega|(simp only [lnS];omega))) only [rdT,rdS,knums_i2,anT])
   omega
 ·clear hI
  (try simp only [nc] at *)
  simp (disch:=(first|omega|(simp only [lnS];omega))) only [rdT,rdS,knums_i2,reduceCtorEq,trT] at h5
  have e:x=g.ord.length:=by omega
  subst e
  cbv
  repeat' (first
   |(refine ⟨fun _ h_s=>?_,fun _ h_s=>?_⟩<;>(cbv;(try simp only [nc] at *);try simp (disch:=(first|omega|(simp only [lnS];omega))) only [rdT,rdS,knums_i2,reduceCtorEq,trT] at h_s))
   |(refine hF ?_;intro _;clear hF)
   |(refine hF ?_;cbv;clear hF)
   |(refine ⟨fun _=>?_,?_⟩;(· ((try simp only [nc] at *);first|done|omega|exact ⟨by omega,rfl⟩|(simp (disch:=(first|omega|(simp only [lnS];omega))) only [rdT,rdS,knums_i2];first|done|omega|rfl|exact ⟨by omega,rfl⟩|(simp;done)|(simp;omega))|(intros;trivial)|exact mok_ids _|exact ⟨mok_ids _,is_vals _⟩));try cbv)
   | fail
  )
  all_goals (try simp only [nc] at *)
  all_goals (try simp (disch:=(first|omega|(simp only [lnS];omega))) only [rdT,rdS,knums_i2])
  have hp:=strike_perm (qsT g g.ord.length) m0
  rw [hst] at hp
  rw [decide_eq_decide,←hp]
  simp
end Go.AL.Rl
namespace Go.AL.Rl
open Go Go.AL Go.Proofs
set_option maxRecDepth 100000
variable {γ:Nat→Option AV}
theorem perm_of_sub {α:Type} [DecidableEq α]:∀ {a b:List α},a.Nodup→(∀ x∈a,x∈b)→b.length≤a.length→a.Perm b
 | [],b,_,_,h=>by
  have:b=[]:=List.eq_nil_of_length_eq_zero (by simpa using h)
  rw [this]
 | x :: a,b,hn,hs,hl=>by
  have hx:x∈b:=hs x (by simp)
  have hn':=List.nodup_cons.1 hn
  have:=perm_of_sub (a:=a) (b:=b.erase x) hn'.2 (fun y hy=>by
   have hne:y≠x:=fun e=>hn'.1 (e ▸ hy)
   exact (List.mem_erase_of_ne hne).2 (hs y (by simp [hy]))) (by
   rw [List.length_erase_of_mem hx];simp at hl;omega)
  exact (this.cons x).trans (List.perm_cons_erase hx).symm
theorem wsE_count (x:Int) (t:Nat) (l:List Ev):∀ n,n≤l.length→((wsE t l n).filter fun p=>decide (p.2=x)).length=cntE x (l.take n)
 | 0,_=>by simp [wsE,cntE]
 | n+1,h=>by
  rw [wsE_succ,cntE_succ x l n (by omega),List.filter_append,List.length_append,wsE_count x t l n (by omega)]
  cases hw:writesM (l.getD n ev0)
  ·simp
  ·by_cases h2:(l.getD n ev0).loc=x
   ·simp only [h2,if_true,decide_true,Bool.and_self,List.filter_cons,List.filter_nil,List.length_cons,List.length_nil]
   ·simp only [h2,if_true,decide_false,Bool.and_false,List.filter_cons,List.filter_nil,List.length_nil,if_false,Bool.false_eq_true]
theorem wsT_count (g:Gr) (x:Int):∀ t,t≤g.th.length→((wsT g t).filter fun p=>decide (p.2=x)).length=cntT x (g.th.take t)
 | 0,_=>by simp [wsT,cntT]
 | t+1,h=>by
  rw [wsT_succ,cntT_succ x g.th t (by omega),List.filter_append,List.length_append,wsT_count g x t (by omega),wsE_count x t _ _ (Nat.le_refl _),List.take_length]
theorem event_thread {g:Gr} {k i:Nat} (hk:k<g.th.length) (hi:i<(g.th.getD k []).length):eventM g ⟨k+1,i⟩=some ((g.th.getD k []).getD i ev0):=by
 unfold eventM
 have e:((k:Int)+1-1).toNat=k:=by omega
 rw [if_neg (by simp only;omega),e,if_pos ⟨by simp only;omega,by simp only;omega,by simp only;omega,by simp only;omega⟩]
 simp
theorem isW_mem (g:Gr) (x:Int) (d:EId):isW g x d=true↔(d,x)∈wsT g g.th.length:=by
 rw [wsT_mem]
 constructor
 ·intro h
  unfold isW at h
  split at h
  ·rename_i e he
   simp only [Bool.and_eq_true,decide_eq_true_eq] at h
   obtain ⟨⟨h1,h2⟩,h3⟩:=h
   unfold eventM at he
   rw [if_neg h1] at he
   split at he
   ·rename_i hc
    cases he
    refine ⟨(d.t-1).toNat,by omega,d.i.toNat,by omega,h2,?_⟩
    rw [h3]
    congr 1
    exact EId.ext' (by simp only;omega) (by simp only;omega)
   ·cases he
  ·cases h
 ·rintro ⟨k,hk,i,hi,hw,he⟩
  obtain ⟨rfl,rfl⟩:=Prod.mk.inj he
  unfold isW
  rw [event_thread hk hi]
  simp only [hw,Bool.and_true,decide_true,decide_eq_true_eq]
  omega
theorem keyed_filter {m:List (EId × Int)} (h:Keyed m) (x:Int):((m.filter fun p=>decide (p.2=x)).map (·.1)).Nodup:=List.Nodup.sublist (List.Sublist.map _ List.filter_sublist) h
theorem perm_split {m:List (EId × Int)}:∀ (n:Nat),(∀ p∈m,∃ k<n,p.2=((k:Nat):Int))→((List.range n).flatMap fun k:Nat=>m.filter fun p=>decide (p.2=(k:Int))).Perm m:=by
 induction m with
 | nil=>
  intro n _
  have:((List.range n).flatMap fun k:Nat=>([]:List (EId × Int)).filter fun p=>decide (p.2=(k:Int)))=[]:=by
   rw [List.flatMap_eq_nil_iff];intro k _;rfl
  rw [this]
 | cons p m ih=>
  intro n h
  obtain ⟨k,hk,hpk⟩:=h p (by simp)
  have ih:=ih n fun q hq=>h q (by simp [hq])
  refine List.Perm.trans ?_ (ih.cons p)
  obtain ⟨r,hr⟩:∃ r,List.range n=List.range k++k :: r:=⟨(List.range n).drop (k+1),by
   have h1:(List.range n).take k=List.range k:=by rw [List.take_range];congr 1;omega
   have h2:(List.range n).drop k=k :: (List.range n).drop (k+1):=by
    rw [List.drop_eq_getElem_cons (by simpa using hk)];simp
   rw [←h1,←h2,List.take_append_drop]⟩
  have hnk:∀ j∈List.range k,decide (p.2=((j:Nat):Int))=false:=fun j hj=>by
   have:=List.mem_range.1 hj;rw [hpk];simp;omega
  have hnr:∀ j∈r,decide (p.2=((j:Nat):Int))=false:=fun j hj=>by
   have hnd:(List.range n).Nodup:=List.nodup_range
   rw [hr,List.nodup_append] at hnd
   have:=(List.nodup_cons.1 hnd.2.1).1
   refine decide_eq_false ?_;rw [hpk];intro e;have e':k=j:=by omega
   subst e'
   exact this hj
  have key:∀ (L:List Nat),(∀ j∈L,decide (p.2=((j:Nat):Int))=false)→(L.flatMap fun k:Nat=>(p :: m).filter fun p=>decide (p.2=(k:Int)))=L.flatMap fun k:Nat=>m.filter fun p=>decide (p.2=(k:Int)):=by
   intro L hL
   induction L with
   | nil=>rfl
   | cons j L ihL=>
    simp only [List.flatMap_cons]
    rw [ihL fun j hj=>hL j (by simp [hj]),List.filter_cons,hL j (by simp)]
    simp
  rw [hr,List.flatMap_append,List.flatMap_append,List.flatMap_cons,List.flatMap_cons,key _ hnk,key _ hnr,List.filter_cons]
  rw [if_pos (by simp [hpk])]
  exact List.perm_middle
theorem flatMap_perm {α β:Type} {f g:α→List β}:∀ {L:List α},(∀ x∈L,(f x).Perm (g x))→(L.flatMap f).Perm (L.flatMap g)
 | [],_=>.refl _
 | x :: L,h=>by
  rw [List.flatMap_cons,List.flatMap_cons]
  exact (h x (by simp)).append (flatMap_perm fun y hy=>h y (by simp [hy]))
theorem filter_flat (f:Nat→List (EId × Int)) (hf:∀ k,∀ p∈f k,p.2=((k:Nat):Int)) (x:Nat):∀ n,((List.range n).flatMap f).filter (fun p=>decide (p.2=(x:Int)))=if x<n then f x else []
 | 0=>rfl
 | n+1=>by
  rw [List.range_succ,List.flatMap_append,List.filter_append,filter_flat f hf x n,List.flatMap_singleton]
  by_cases h:x=n
  ·subst h
   rw [if_neg (by omega),if_pos (by omega),List.filter_eq_self.2 fun p hp=>by simp [hf x p hp],List.nil_append]
  ·have:(f n).filter (fun p=>decide (p.2=(x:Int)))=[]:=by
    rw [List.filter_eq_nil_iff]
    intro p hp
    simp [hf n p hp];omega
   rw [this,List.append_nil]
   by_cases h2:x<n
   ·rw [if_pos h2,if_pos (by omega)]
   ·rw [if_neg h2,if_neg (by omega)]
theorem ordered_iff (g:Gr) (x:Nat):orderedM g x=true↔(g.ord.getD x []).Nodup∧(∀ d∈g.ord.getD x [],isW g x d=true)∧(g.ord.getD x []).length=cntT x g.th:=by
 unfold orderedM
 generalize g.ord.getD x []=l
 rw [Bool.and_eq_true,decide_eq_true_iff,decide_eq_true_iff]
 constructor
 ·rintro ⟨h1,h2⟩
  refine ⟨?_,fun d hd=>?_,h2⟩
  ·unfold List.Nodup
   rw [List.pairwise_iff_getElem]
   intro i j hi hj hij
   have:=(h1 j hj).2 i hij
   simpa [hi,hj] using this
  ·obtain ⟨i,hi,rfl⟩:=List.getElem_of_mem hd
   simpa [hi] using (h1 i hi).1
 ·rintro ⟨h1,h2,h3⟩
  refine ⟨fun i hi=>⟨h2 _ (getD_mem hi),fun k hk=>?_⟩,h3⟩
  unfold List.Nodup at h1
  rw [List.pairwise_iff_getElem] at h1
  have:=h1 k i (by omega) hi hk
  simpa [hi,show k<l.length by omega] using this
theorem map_pair (l:List EId) (x:Int):((l.map fun d=>(d,x)).map (·.1))=l:=by rw [List.map_map];exact List.map_id _
theorem nodup_pair {l:List EId} (h:l.Nodup) (x:Int):(l.map fun d=>(d,x)).Nodup:=by
 unfold List.Nodup at *
 rw [List.pairwise_map]
 exact h.imp fun hab he=>hab (Prod.mk.inj he).1
theorem orders_perm {g:Gr} (hl:g.ord.length=g.init.length) (he:eventsOk g):ordersOk g↔(qsT g g.ord.length).Perm (wsT g g.th.length):=by
 have hws:∀ p∈wsT g g.th.length,∃ k<g.ord.length,p.2=((k:Nat):Int):=by
  intro p hp
  obtain ⟨k,hk,i,hi,hw,rfl⟩:=wsT_mem.1 hp
  have hf:=(he k hk).2 i hi
  generalize (g.th.getD k []).getD i ev0=e at *
  refine ⟨e.loc.toNat,?_⟩
  simp only [fineM,Bool.and_eq_true,decide_eq_true_eq] at hf
  simp only [writesM,Bool.or_eq_true,decide_eq_true_eq] at hw
  have:=hf.2
  rw [if_neg (by omega)] at this
  simp only [decide_eq_true_eq] at this
  omega
 have hcnt:∀ x:Nat,((wsT g g.th.length).filter fun p=>decide (p.2=(x:Int))).length=cntT x g.th:=fun x=>by
  have:=wsT_count g x g.th.length (Nat.le_refl _)
  rwa [List.take_length] at this
 have hq:∀ x<g.ord.length,(qsT g g.ord.length).filter (fun p=>decide (p.2=(x:Int)))=(g.ord.getD x []).map fun d=>(d,(x:Int)):=fun x hx=>by
  unfold qsT
  rw [filter_flat (fun k=>(g.ord.getD k []).map fun d=>(d,(k:Int))) (fun k p hp=>by
   obtain ⟨d,_,rfl⟩:=List.mem_map.1 hp;rfl) x,if_pos hx]
 constructor
 ·intro ho
  refine List.Perm.trans ?_ (perm_split g.ord.length hws)
  unfold qsT
  refine flatMap_perm fun x hx=>?_
  obtain ⟨h1,h2,h3⟩:=(ordered_iff g x).1 (ho x (by have:=List.mem_range.1 hx;omega))
  refine perm_of_sub ?_ (fun p hp=>?_) ?_
  ·exact nodup_pair h1 _
  ·obtain ⟨d,hd,rfl⟩:=List.mem_map.1 hp
   rw [List.mem_filter]
   exact ⟨(isW_mem g x d).1 (h2 d hd),by simp⟩
  ·rw [hcnt,List.length_map,h3];exact Nat.le_refl _
 ·intro hp x hx
  rw [ordered_iff]
  have h1:=hp.filter (fun p=>decide (p.2=(x:Int)))
  rw [hq x (by omega)] at h1
  have h2:=h1.map (·.1)
  rw [map_pair] at h2
  refine ⟨(h2.nodup_iff).2 (keyed_filter (wsT_keyed g _) x),fun d hd=>?_,?_⟩
  ·rw [isW_mem]
   have:=h1.subset (List.mem_map.2 ⟨d,hd,rfl⟩)
   exact (List.mem_filter.1 this).1
  ·rw [←hcnt,←h1.length_eq,List.length_map]
theorem gcheck_ok (g:Gr) (hg:Rd g):Pure Tryz.prog γ false 30 [aGr g] (.i fun _=>gcheckM g):=by
 have hg2:=hg.th
 refine Pure.go (ty:=ty) ty_eq mo Tryz.func30 rfl Tryz.ntmps30 Tryz.results30 Tryz.call30 (by simp) fun P C CQ D W F E hF=>?_
 cbv
 repeat' (first
  |(refine E.c (SCalls.of_le (tooLong_ok g hg) ?_ ?_);(· (cbv;(try simp only [nc] at *);first|done|(simp;done)|(simp (disch:=(first|omega|(simp only [lnS];omega))) only [rdT,rdS,anT];first|done|omega|(refine ⟨?_,?_⟩<;>omega))|(simp (disch:=(first|omega|(simp only [lnS];omega))) [rdT,rdS];done)));cbv)
  |(refine ⟨fun _ h_s=>?_,fun _ h_s=>?_⟩<;>(cbv;(try simp only [nc] at *);try simp (disch:=(first|omega|(simp only [lnS];omega))) only [rdT,rdS,reduceCtorEq,trT] at h_s))
  |(refine hF ?_;intro _;clear hF)
  |(refine hF ?_;cbv;clear hF)
  |(refine ⟨fun _=>?_,?_⟩;(· ((try simp only [nc] at *);first|done|omega|exact ⟨by omega,rfl⟩|(simp (disch:=(first|omega|(simp only [lnS];omega))) only [rdT,rdS];first|done|omega|rfl|exact ⟨by omega,rfl⟩|(simp;done)|(simp;omega))|(intros;trivial)));try cbv)
  |(refine E.d 20 (by decide +kernel) ?_;cbv;(fail_if_success guard_target =~ False))
  | fail
 )
 all_goals (try simp only [nc] at *)
 all_goals (try simp (disch:=(first|omega|(simp only [lnS];omega))) only [rdT,rdS])
 ·exact (gcheck3 (by simp_all)).symm
 ·exact (gcheck2 (by simp_all) fun h=>by have:=h.lfr;omega).symm
 ·exact (gcheck2 (by simp_all) fun h=>by have:=h.lord;omega).symm
 have hsh:Short g:=by simp_all
 have hlf:g.fr.length=g.th.length:=by omega
 have hlo:g.ord.length=g.init.length:=by omega
 refine E.loopS (ι:=Nat) (fun t=>t≤g.th.length∧(∀ j<t,((g.fr.getD j []).length=(g.th.getD j []).length∧∀ i<(g.th.getD j []).length,fineM g.init.length ((g.th.getD j []).getD i ev0)=true)∧∀ i<(g.th.getD j []).length,sourceM g ⟨j+1,i⟩ ((g.fr.getD j []).getD i id0)=true)) (fun t=>g.th.length-t) (fun t=>[(28,.i fun _=>((t:Nat):Int))]) (fun t h=>h) 0 (fun _=>by first|rfl|simp) ⟨Nat.zero_le _,?_⟩ ?_ fun t ht I hI=>?_
 ·intro j hj;omega
 ·cbv;simp
 obtain ⟨ht,hok⟩:=ht
 cbv
 refine ⟨fun _ h4=>?_,fun _ h4=>?_⟩
 ·(try simp only [nc] at *)
  simp (disch:=(first|omega|(simp only [lnS];omega))) only [rdT,rdS,reduceCtorEq,trT] at h4
  have hht:=hsh.at t
  cbv
  repeat' (first
   |(refine ⟨fun _ h_s=>?_,fun _ h_s=>?_⟩<;>(cbv;(try simp only [nc] at *);try simp (disch:=(first|omega|(simp only [lnS];omega))) only [rdT,rdS,reduceCtorEq,trT] at h_s))
   |(refine hF ?_;intro _;clear hF)
   |(refine hF ?_;cbv;clear hF)
   |(refine ⟨fun _=>?_,?_⟩;(· ((try simp only [nc] at *);first|done|omega|exact ⟨by omega,rfl⟩|(simp (disch:=(first|omega|(simp only [lnS];omega))) only [rdT,rdS];first|done|omega|rfl|exact ⟨by omega,rfl⟩|(simp;done)|(simp;omega))|(intros;trivial)));try cbv)
   |(refine E.d 20 (by decide +kernel) ?_;cbv;(fail_if_success guard_target =~ False))
   | fail
  )
  all_goals (try simp only [nc] at *)
  all_goals (try simp (disch:=(first|omega|(simp only [lnS];omega))) only [rdT,rdS])
  ·exact (gcheck2 hsh fun h=>by have:=(h.events t (by omega)).1;omega).symm
  refine E.loopS (ι:=Nat) (fun i=>i≤(g.th.getD t []).length∧(∀ j<i,fineM g.init.length ((g.th.getD t []).getD j ev0)=true∧sourceM g ⟨t+1,j⟩ ((g.fr.getD t []).getD j id0)=true)) (fun i=>(g.th.getD t []).length-i) (fun i=>[(44,.i fun _=>((i:Nat):Int))]) (fun i h=>h) 0 (fun _=>by first|rfl|simp) ⟨Nat.zero_le _,?_⟩ ?_ fun i hi I2 hI2=>?_
  ·intro j hj;omega
  ·cbv;simp
  obtain ⟨hi,hoki⟩:=hi
  cbv
  repeat' (first
   |(refine hI (t+1) ?_ ?_ ?_;rotate_left 1;(· ((try simp only [nc] at *);omega));(cbv;clear hI;(try clear hF);(try simp only [nc] at *);(try simp (disch:=(first|omega|(simp only [lnS];omega))) only [rdT,rdS,anT]));rotate_left 1;(try ((try simp only [nc] at *);omega)))
   |(refine hI2 (i+1) ?_ ?_ ?_;rotate_left 1;(· ((try simp only [nc] at *);omega));(cbv;clear hI2;(try clear hF);(try simp only [nc] at *);(try simp (disch:=(first|omega|(simp only [lnS];omega))) only [rdT,rdS,anT]));rotate_left 1;(try ((try simp only [nc] at *);omega)))
   |((first|refine E.c (SCalls.of_le (rightFrom_ok g hg ⟨t+1,i⟩ ((g.fr.getD t []).getD i id0)) ?_ ?_)|refine E.q (QCalls.of_le (rightFrom_ok g hg ⟨t+1,i⟩ ((g.fr.getD t []).getD i id0)) ?_ ?_));(· (cbv;(try simp only [nc] at *);first|done|(simp;done)|(simp (disch:=(first|omega|(simp only [lnS];omega))) only [rdT,rdS,anT];first|done|omega|(refine ⟨?_,?_⟩<;>omega))|(simp (disch:=(first|omega|(simp only [lnS];omega))) [rdT,rdS];done)));cbv)
   |((first|refine E.c (SCalls.of_le (rightEvent_ok ((g.th.getD t []).getD i ev0) g.init.length) ?_ ?_)|refine E.q (QCalls.of_le (rightEvent_ok ((g.th.getD t []).getD i ev0) g.init.length) ?_ ?_));(· (cbv;(try simp only [nc] at *);first|done|(simp;done)|(simp (disch:=(first|omega|(simp only [lnS];omega))) only [rdT,rdS,anT];first|done|omega|(refine ⟨?_,?_⟩<;>omega))|(simp (disch:=(first|omega|(simp only [lnS];omega))) [rdT,rdS];done)));cbv)
   |(refine ⟨fun _ h_s=>?_,fun _ h_s=>?_⟩<;>(cbv;(try simp only [nc] at *);try simp (disch:=(first|omega|(simp only [lnS];omega))) only [rdT,rdS,reduceCtorEq,trT] at h_s))
   |(refine hF ?_;intro _;clear hF)
   |(refine hF ?_;cbv;clear hF)
   |(refine ⟨fun _=>?_,?_⟩;(· ((try simp only [nc] at *);first|done|omega|exact ⟨by omega,rfl⟩|(simp (disch:=(first|omega|(simp only [lnS];omega))) only [rdT,rdS];first|done|omega|rfl|exact ⟨by omega,rfl⟩|(simp;done)|(simp;omega))|(intros;trivial)));try cbv)
   |(refine E.d 20 (by decide +kernel) ?_;cbv;(fail_if_success guard_target =~ False))
   | fail
  )
  all_goals (try simp only [nc] at *)
  all_goals (try simp (disch:=(first|omega|(simp only [lnS];omega))) only [rdT,rdS])
  ·refine (gcheck2 hsh fun h=>?_).symm
   have:=(h.events t (by omega)).2 i (by omega)
   simp_all
  ·refine (gcheck2 hsh fun h=>?_).symm
   have:=h.sources t (by omega) i (by omega)
   simp_all
  ·refine ⟨by omega,fun j hj=>?_⟩
   rcases Nat.lt_or_ge j i with h | h
   ·exact hoki j h
   ·obtain rfl:j=i:=by omega
    exact ⟨by assumption,by assumption⟩
  ·omega
  ·refine ⟨by omega,fun j hj=>?_⟩
   rcases Nat.lt_or_ge j t with h | h
   ·exact hok j h
   ·obtain rfl:j=t:=by omega
    exact ⟨⟨by omega,fun k hk=>(hoki k (by omega)).1⟩,fun k hk=>(hoki k (by omega)).2⟩
  ·omega
 clear hI
 (try simp only [nc] at *)
 simp (disch:=(first|omega|(simp only [lnS];omega))) only [rdT,rdS,reduceCtorEq,trT] at h4
 have e:t=g.th.length:=by omega
 subst e
 have hev:eventsOk g:=fun j hj=>(hok j hj).1
 have hso:sourcesOk g:=fun j hj=>(hok j hj).2
 have hp:=orders_perm (by omega) hev
 cbv
 repeat' (first
  |(refine E.c (SCalls.of_le (rightOrder_ok g hg hsh) ?_ ?_);(· (cbv;(try simp only [nc] at *);first|done|(simp;done)|(simp (disch:=(first|omega|(simp only [lnS];omega))) only [rdT,rdS,anT];first|done|omega|(refine ⟨?_,?_⟩<;>omega))|(simp (disch:=(first|omega|(simp only [lnS];omega))) [rdT,rdS];done)));cbv)
  |(refine ⟨fun _ h_s=>?_,fun _ h_s=>?_⟩<;>(cbv;(try simp only [nc] at *);try simp (disch:=(first|omega|(simp only [lnS];omega))) only [rdT,rdS,reduceCtorEq,trT] at h_s))
  |(refine hF ?_;intro _;clear hF)
  |(refine hF ?_;cbv;clear hF)
  |(refine ⟨fun _=>?_,?_⟩;(· ((try simp only [nc] at *);first|done|omega|exact ⟨by omega,rfl⟩|(simp (disch:=(first|omega|(simp only [lnS];omega))) only [rdT,rdS];first|done|omega|rfl|exact ⟨by omega,rfl⟩|(simp;done)|(simp;omega))|(intros;trivial)));try cbv)
  |(refine E.d 20 (by decide +kernel) ?_;cbv;(fail_if_success guard_target =~ False))
  | fail
 )
 all_goals (try simp only [nc] at *)
 all_goals (try simp (disch:=(first|omega|(simp only [lnS];omega))) only [rdT,rdS])
 ·refine (gcheck2 hsh fun h=>?_).symm
  have:=hp.1 h.orders
  simp_all
 ·refine (gcheck0 ⟨hsh,by omega,by omega,hev,hso,hp.2 ?_⟩).symm
  simp_all
end Go.AL.Rl
namespace Go.AL.Rl
open Go Go.AL Go.Proofs
set_option maxRecDepth 100000
variable {γ:Nat→Option AV}
structure Vw where
 ids:List EId
 ev:List Ev
 fr:List Int
 pl:List Int
abbrev aVw (V:Vw):AV:=.agg [.vs 2 fun _=>ids V.ids,.vs 5 fun _=>evs V.ev,.vs 1 fun _=>is V.fr,.vs 1 fun _=>is V.pl]
abbrev pVw (V:Vw):AV:=.vp (fun _=>aVw V) 0
structure Wf (V:Vw) (n:Nat):Prop where
 ids:V.ids.length=n
 ev:V.ev.length=n
 fr:V.fr.length=n
 pl:V.pl.length=n
 small:n≤62
 frl:∀ i<n,V.fr.getD i 0<n
 frg:∀ i<n,readsM (V.ev.getD i ev0)=true→0≤V.fr.getD i 0
def poM (V:Vw) (a b:Nat):Bool:=decide ((V.ids.getD b id0).t≠0) && (decide ((V.ids.getD a id0).t=0) || decide ((V.ids.getD a id0).t=(V.ids.getD b id0).t) && decide ((V.ids.getD a id0).i<(V.ids.getD b id0).i))
def rfM (V:Vw) (a b:Nat):Bool:=decide (V.fr.getD b 0=a)
def fenceM (e:Ev):Bool:=decide (e.kind=4)
def nearM (V:Vw) (a b:Nat):Bool:=!fenceM (V.ev.getD a ev0) && !fenceM (V.ev.getD b ev0) && decide ((V.ev.getD a ev0).loc=(V.ev.getD b ev0).loc)
def coM (V:Vw) (a b:Nat):Bool:=decide (0≤V.pl.getD a 0) && nearM V a b && decide (V.pl.getD a 0<V.pl.getD b 0)
def frM (V:Vw) (a b:Nat):Bool:=decide (a≠b) && decide (0≤V.fr.getD a 0) && coM V (V.fr.getD a 0).toNat b
def locM (V:Vw) (a b:Nat):Bool:=decide (a≠b) && nearM V a b
def acqM (e:Ev):Bool:=decide (e.order=3) || decide (e.order=5) || decide (e.order=6)
def relM (e:Ev):Bool:=decide (e.order=4) || decide (e.order=5) || decide (e.order=6)
theorem dpo_ok (V:Vw) {n:Nat} (hV:Wf V n) (a b:Nat) (ha:a<n) (hb:b<n):Pure Tryz.prog γ false 64 [pVw V,.i fun _=>(a:Int),.i fun _=>(b:Int)] (.b fun _=>poM V a b):=by
 have h1:=hV.ids
 refine Pure.go (ty:=ty) ty_eq mo Tryz.func64 rfl Tryz.ntmps64 Tryz.results64 Tryz.call64 (by simp) fun P C CQ D W F E hF=>?_
 cbv
 repeat' (first
  |(refine E.de 17 [] [none,none] (by decide +kernel) ?_;cbv;(fail_if_success guard_target =~ False))
  |(refine ⟨fun _ h_s=>?_,fun _ h_s=>?_⟩<;>(cbv;(try simp only [nc] at *);try simp (disch:=(first|omega|(simp only [lnS];omega))) only [rdT,rdS,reduceCtorEq,trT] at h_s))
  |(refine hF ?_;intro _;clear hF)
  |(refine hF ?_;cbv;clear hF)
  |(refine ⟨fun _=>?_,?_⟩;(· ((try simp only [nc] at *);first|done|omega|exact ⟨by omega,rfl⟩|(simp (disch:=(first|omega|(simp only [lnS];omega))) only [rdT,rdS];first|done|omega|rfl|exact ⟨by omega,rfl⟩|(simp;done)|(simp;omega))|(intros;trivial)));(try (simp only [nc] at *));(try simp (disch:=(first|omega|(simp only [lnS];omega))) only [rdT,rdS]);(try cbv))
  | fail
 )
 all_goals (try simp only [nc] at *)
 all_goals (try simp (disch:=(first|omega|(simp only [lnS];omega))) only [rdT,rdS])
 all_goals simp_all [poM]
theorem dreads0_ok (V:Vw) (a:Nat) (h1:a<V.ev.length):Pure Tryz.prog γ false 97 [pVw V,.i fun _=>(a:Int)] (.b fun _=>readsM (V.ev.getD a ev0)):=by
 refine Pure.go (ty:=ty) ty_eq mo Tryz.func97 rfl Tryz.ntmps97 Tryz.results97 Tryz.call97 (by simp) fun P C CQ D W F E hF=>?_
 cbv
 repeat' (first
  |(refine ⟨fun _ h_s=>?_,fun _ h_s=>?_⟩<;>(cbv;(try simp only [nc] at *);try simp (disch:=(first|omega|(simp only [lnS];omega))) only [rdT,rdS,reduceCtorEq,trT] at h_s))
  |(refine hF ?_;intro _;clear hF)
  |(refine hF ?_;cbv;clear hF)
  |(refine ⟨fun _=>?_,?_⟩;(· ((try simp only [nc] at *);first|done|omega|exact ⟨by omega,rfl⟩|(simp (disch:=(first|omega|(simp only [lnS];omega))) only [rdT,rdS];first|done|omega|rfl|exact ⟨by omega,rfl⟩|(simp;done)|(simp;omega))|(intros;trivial)));(try (simp only [nc] at *));(try simp (disch:=(first|omega|(simp only [lnS];omega))) only [rdT,rdS]);(try cbv))
  | fail
 )
 all_goals (try simp only [nc] at *)
 all_goals (try simp (disch:=(first|omega|(simp only [lnS];omega))) only [rdT,rdS])
 all_goals simp_all [readsM]
theorem dreads_ok (V:Vw) {n:Nat} (hV:Wf V n) (a:Nat) (ha:a<n):Pure Tryz.prog γ false 97 [pVw V,.i fun _=>(a:Int)] (.b fun _=>readsM (V.ev.getD a ev0)):=
 dreads0_ok V a (by rw [hV.ev];exact ha)
theorem dwrites_ok (V:Vw) {n:Nat} (hV:Wf V n) (a:Nat) (ha:a<n):Pure Tryz.prog γ false 102 [pVw V,.i fun _=>(a:Int)] (.b fun _=>writesM (V.ev.getD a ev0)):=by
 have h1:=hV.ev
 refine Pure.go (ty:=ty) ty_eq mo Tryz.func102 rfl Tryz.ntmps102 Tryz.results102 Tryz.call102 (by simp) fun P C CQ D W F E hF=>?_
 cbv
 repeat' (first
  |(refine ⟨fun _ h_s=>?_,fun _ h_s=>?_⟩<;>(cbv;(try simp only [nc] at *);try simp (disch:=(first|omega|(simp only [lnS];omega))) only [rdT,rdS,reduceCtorEq,trT] at h_s))
  |(refine hF ?_;intro _;clear hF)
  |(refine hF ?_;cbv;clear hF)
  |(refine ⟨fun _=>?_,?_⟩;(· ((try simp only [nc] at *);first|done|omega|exact ⟨by omega,rfl⟩|(simp (disch:=(first|omega|(simp only [lnS];omega))) only [rdT,rdS];first|done|omega|rfl|exact ⟨by omega,rfl⟩|(simp;done)|(simp;omega))|(intros;trivial)));(try (simp only [nc] at *));(try simp (disch:=(first|omega|(simp only [lnS];omega))) only [rdT,rdS]);(try cbv))
  | fail
 )
 all_goals (try simp only [nc] at *)
 all_goals (try simp (disch:=(first|omega|(simp only [lnS];omega))) only [rdT,rdS])
 all_goals simp_all [writesM]
theorem dfence_ok (V:Vw) {n:Nat} (hV:Wf V n) (a:Nat) (ha:a<n):Pure Tryz.prog γ false 110 [pVw V,.i fun _=>(a:Int)] (.b fun _=>fenceM (V.ev.getD a ev0)):=by
 have h1:=hV.ev
 refine Pure.go (ty:=ty) ty_eq mo Tryz.func110 rfl Tryz.ntmps110 Tryz.results110 Tryz.call110 (by simp) fun P C CQ D W F E hF=>?_
 cbv
 repeat' (first
  |(refine ⟨fun _ h_s=>?_,fun _ h_s=>?_⟩<;>(cbv;(try simp only [nc] at *);try simp (disch:=(first|omega|(simp only [lnS];omega))) only [rdT,rdS,reduceCtorEq,trT] at h_s))
  |(refine hF ?_;intro _;clear hF)
  |(refine hF ?_;cbv;clear hF)
  |(refine ⟨fun _=>?_,?_⟩;(· ((try simp only [nc] at *);first|done|omega|exact ⟨by omega,rfl⟩|(simp (disch:=(first|omega|(simp only [lnS];omega))) only [rdT,rdS];first|done|omega|rfl|exact ⟨by omega,rfl⟩|(simp;done)|(simp;omega))|(intros;trivial)));(try (simp only [nc] at *));(try simp (disch:=(first|omega|(simp only [lnS];omega))) only [rdT,rdS]);(try cbv))
  | fail
 )
 all_goals (try simp only [nc] at *)
 all_goals (try simp (disch:=(first|omega|(simp only [lnS];omega))) only [rdT,rdS])
 all_goals simp_all [fenceM]
theorem dacq_ok (V:Vw) {n:Nat} (hV:Wf V n) (a:Nat) (ha:a<n):Pure Tryz.prog γ false 107 [pVw V,.i fun _=>(a:Int)] (.b fun _=>acqM (V.ev.getD a ev0)):=by
 have h1:=hV.ev
 refine Pure.go (ty:=ty) ty_eq mo Tryz.func107 rfl Tryz.ntmps107 Tryz.results107 Tryz.call107 (by simp) fun P C CQ D W F E hF=>?_
 cbv
 repeat' (first
  |(refine ⟨fun _ h_s=>?_,fun _ h_s=>?_⟩<;>(cbv;(try simp only [nc] at *);try simp (disch:=(first|omega|(simp only [lnS];omega))) only [rdT,rdS,reduceCtorEq,trT] at h_s))
  |(refine hF ?_;intro _;clear hF)
  |(refine hF ?_;cbv;clear hF)
  |(refine ⟨fun _=>?_,?_⟩;(· ((try simp only [nc] at *);first|done|omega|exact ⟨by omega,rfl⟩|(simp (disch:=(first|omega|(simp only [lnS];omega))) only [rdT,rdS];first|done|omega|rfl|exact ⟨by omega,rfl⟩|(simp;done)|(simp;omega))|(intros;trivial)));(try (simp only [nc] at *));(try simp (disch:=(first|omega|(simp only [lnS];omega))) only [rdT,rdS]);(try cbv))
  | fail
 )
 all_goals (try simp only [nc] at *)
 all_goals (try simp (disch:=(first|omega|(simp only [lnS];omega))) only [rdT,rdS])
 all_goals simp_all [acqM]
theorem drel_ok (V:Vw) {n:Nat} (hV:Wf V n) (a:Nat) (ha:a<n):Pure Tryz.prog γ false 109 [pVw V,.i fun _=>(a:Int)] (.b fun _=>relM (V.ev.getD a ev0)):=by
 have h1:=hV.ev
 refine Pure.go (ty:=ty) ty_eq mo Tryz.func109 rfl Tryz.ntmps109 Tryz.results109 Tryz.call109 (by simp) fun P C CQ D W F E hF=>?_
 cbv
 repeat' (first
  |(refine ⟨fun _ h_s=>?_,fun _ h_s=>?_⟩<;>(cbv;(try simp only [nc] at *);try simp (disch:=(first|omega|(simp only [lnS];omega))) only [rdT,rdS,reduceCtorEq,trT] at h_s))
  |(refine hF ?_;intro _;clear hF)
  |(refine hF ?_;cbv;clear hF)
  |(refine ⟨fun _=>?_,?_⟩;(· ((try simp only [nc] at *);first|done|omega|exact ⟨by omega,rfl⟩|(simp (disch:=(first|omega|(simp only [lnS];omega))) only [rdT,rdS];first|done|omega|rfl|exact ⟨by omega,rfl⟩|(simp;done)|(simp;omega))|(intros;trivial)));(try (simp only [nc] at *));(try simp (disch:=(first|omega|(simp only [lnS];omega))) only [rdT,rdS]);(try cbv))
  | fail
 )
 all_goals (try simp only [nc] at *)
 all_goals (try simp (disch:=(first|omega|(simp only [lnS];omega))) only [rdT,rdS])
 all_goals simp_all [relM]
theorem drf_ok (V:Vw) {n:Nat} (hV:Wf V n) (a b:Nat) (ha:a<n) (hb:b<n):Pure Tryz.prog γ false 65 [pVw V,.i fun _=>(a:Int),.i fun _=>(b:Int)] (.b fun _=>rfM V a b):=by
 have h1:=hV.fr
 refine Pure.go (ty:=ty) ty_eq mo Tryz.func65 rfl Tryz.ntmps65 Tryz.results65 Tryz.call65 (by simp) fun P C CQ D W F E hF=>?_
 cbv
 repeat' (first
  |(refine ⟨fun _ h_s=>?_,fun _ h_s=>?_⟩<;>(cbv;(try simp only [nc] at *);try simp (disch:=(first|omega|(simp only [lnS];omega))) only [rdT,rdS,reduceCtorEq,trT] at h_s))
  |(refine hF ?_;intro _;clear hF)
  |(refine hF ?_;cbv;clear hF)
  |(refine ⟨fun _=>?_,?_⟩;(· ((try simp only [nc] at *);first|done|omega|exact ⟨by omega,rfl⟩|(simp (disch:=(first|omega|(simp only [lnS];omega))) only [rdT,rdS];first|done|omega|rfl|exact ⟨by omega,rfl⟩|(simp;done)|(simp;omega))|(intros;trivial)));(try (simp only [nc] at *));(try simp (disch:=(first|omega|(simp only [lnS];omega))) only [rdT,rdS]);(try cbv))
  | fail
 )
 all_goals (try simp only [nc] at *)
 all_goals (try simp (disch:=(first|omega|(simp only [lnS];omega))) only [rdT,rdS])
 all_goals simp_all [rfM]
theorem dnear_ok (V:Vw) {n:Nat} (hV:Wf V n) (a b:Nat) (ha:a<n) (hb:b<n):Pure Tryz.prog γ false 99 [pVw V,.i fun _=>(a:Int),.i fun _=>(b:Int)] (.b fun _=>nearM V a b):=by
 have h1:=hV.ev
 refine Pure.go (ty:=ty) ty_eq mo Tryz.func99 rfl Tryz.ntmps99 Tryz.results99 Tryz.call99 (by simp) fun P C CQ D W F E hF=>?_
 cbv
 repeat' (first
  |((first|refine E.c (SCalls.of_le (dfence_ok V hV b hb) ?_ ?_)|refine E.q (QCalls.of_le (dfence_ok V hV b hb) ?_ ?_));(· (cbv;(try simp only [nc] at *);first|done|(simp;done)|(simp (disch:=(first|omega|(simp only [lnS];omega))) only [rdT,rdS,anT];first|done|omega|(refine ⟨?_,?_⟩<;>omega))|(simp (disch:=(first|omega|(simp only [lnS];omega))) [rdT,rdS];done)));cbv)
  |((first|refine E.c (SCalls.of_le (dfence_ok V hV a ha) ?_ ?_)|refine E.q (QCalls.of_le (dfence_ok V hV a ha) ?_ ?_));(· (cbv;(try simp only [nc] at *);first|done|(simp;done)|(simp (disch:=(first|omega|(simp only [lnS];omega))) only [rdT,rdS,anT];first|done|omega|(refine ⟨?_,?_⟩<;>omega))|(simp (disch:=(first|omega|(simp only [lnS];omega))) [rdT,rdS];done)));cbv)
  |(refine ⟨fun _ h_s=>?_,fun _ h_s=>?_⟩<;>(cbv;(try simp only [nc] at *);try simp (disch:=(first|omega|(simp only [lnS];omega))) only [rdT,rdS,reduceCtorEq,trT] at h_s))
  |(refine hF ?_;intro _;clear hF)
  |(refine hF ?_;cbv;clear hF)
  |(refine ⟨fun _=>?_,?_⟩;(· ((try simp only [nc] at *);first|done|omega|exact ⟨by omega,rfl⟩|(simp (disch:=(first|omega|(simp only [lnS];omega))) only [rdT,rdS];first|done|omega|rfl|exact ⟨by omega,rfl⟩|(simp;done)|(simp;omega))|(intros;trivial)));(try (simp only [nc] at *));(try simp (disch:=(first|omega|(simp only [lnS];omega))) only [rdT,rdS]);(try cbv))
  |(refine E.d 27 (by decide +kernel) ?_;cbv;(fail_if_success guard_target =~ False))
  | fail
 )
 all_goals (try simp only [nc] at *)
 all_goals (try simp (disch:=(first|omega|(simp only [lnS];omega))) only [rdT,rdS])
 all_goals simp_all [nearM]
theorem dco_ok (V:Vw) {n:Nat} (hV:Wf V n) (a b:Nat) (ha:a<n) (hb:b<n):Pure Tryz.prog γ false 66 [pVw V,.i fun _=>(a:Int),.i fun _=>(b:Int)] (.b fun _=>coM V a b):=by
 have h1:=hV.pl
 refine Pure.go (ty:=ty) ty_eq mo Tryz.func66 rfl Tryz.ntmps66 Tryz.results66 Tryz.call66 (by simp) fun P C CQ D W F E hF=>?_
 cbv
 repeat' (first
  |((first|refine E.c (SCalls.of_le (dnear_ok V hV a b ha hb) ?_ ?_)|refine E.q (QCalls.of_le (dnear_ok V hV a b ha hb) ?_ ?_));(· (cbv;(try simp only [nc] at *);first|done|(simp;done)|(simp (disch:=(first|omega|(simp only [lnS];omega))) only [rdT,rdS,anT];first|done|omega|(refine ⟨?_,?_⟩<;>omega))|(simp (disch:=(first|omega|(simp only [lnS];omega))) [rdT,rdS];done)));cbv)
  |(refine ⟨fun _ h_s=>?_,fun _ h_s=>?_⟩<;>(cbv;(try simp only [nc] at *);try simp (disch:=(first|omega|(simp only [lnS];omega))) only [rdT,rdS,reduceCtorEq,trT] at h_s))
  |(refine hF ?_;intro _;clear hF)
  |(refine hF ?_;cbv;clear hF)
  |(refine ⟨fun _=>?_,?_⟩;(· ((try simp only [nc] at *);first|done|omega|exact ⟨by omega,rfl⟩|(simp (disch:=(first|omega|(simp only [lnS];omega))) only [rdT,rdS];first|done|omega|rfl|exact ⟨by omega,rfl⟩|(simp;done)|(simp;omega))|(intros;trivial)));(try (simp only [nc] at *));(try simp (disch:=(first|omega|(simp only [lnS];omega))) only [rdT,rdS]);(try cbv))
  |(refine E.d 29 (by decide +kernel) ?_;cbv;(fail_if_success guard_target =~ False))
  | fail
 )
 all_goals (try simp only [nc] at *)
 all_goals (try simp (disch:=(first|omega|(simp only [lnS];omega))) only [rdT,rdS])
 all_goals (try simp only [coM])
 all_goals grind
theorem dfr_ok (V:Vw) {n:Nat} (hV:Wf V n) (a b:Nat) (ha:a<n) (hb:b<n):Pure Tryz.prog γ false 67 [pVw V,.i fun _=>(a:Int),.i fun _=>(b:Int)] (.b fun _=>frM V a b):=by
 have h1:=hV.fr
 have h2:=hV.frl a ha
 refine Pure.go (ty:=ty) ty_eq mo Tryz.func67 rfl Tryz.ntmps67 Tryz.results67 Tryz.call67 (by simp) fun P C CQ D W F E hF=>?_
 cbv
 repeat' (first
  |((first|refine E.c (SCalls.of_le (dco_ok V hV (V.fr.getD a 0).toNat b (by ((try simp only [nc] at *);omega)) hb) ?_ ?_)|refine E.q (QCalls.of_le (dco_ok V hV (V.fr.getD a 0).toNat b (by ((try simp only [nc] at *);omega)) hb) ?_ ?_));(· (cbv;(try simp only [nc] at *);first|done|(simp;done)|(simp (disch:=(first|omega|(simp only [lnS];omega))) only [rdT,rdS,anT];first|done|omega|(refine ⟨?_,?_⟩<;>omega))|(simp (disch:=(first|omega|(simp only [lnS];omega))) [rdT,rdS];done)));cbv)
  |(refine ⟨fun _ h_s=>?_,fun _ h_s=>?_⟩<;>(cbv;(try simp only [nc] at *);try simp (disch:=(first|omega|(simp only [lnS];omega))) only [rdT,rdS,reduceCtorEq,trT] at h_s))
  |(refine hF ?_;intro _;clear hF)
  |(refine hF ?_;cbv;clear hF)
  |(refine ⟨fun _=>?_,?_⟩;(· ((try simp only [nc] at *);first|done|omega|exact ⟨by omega,rfl⟩|(simp (disch:=(first|omega|(simp only [lnS];omega))) only [rdT,rdS];first|done|omega|rfl|exact ⟨by omega,rfl⟩|(simp;done)|(simp;omega))|(intros;trivial)));(try (simp only [nc] at *));(try simp (disch:=(first|omega|(simp only [lnS];omega))) only [rdT,rdS]);(try cbv))
  | fail
 )
 all_goals (try simp only [nc] at *)
 all_goals (try simp (disch:=(first|omega|(simp only [lnS];omega))) only [rdT,rdS])
 all_goals (have e:((a:Int)=b)↔a=b:=Int.ofNat_inj;try simp only [frM,e] at *)
 all_goals grind
theorem dloc_ok (V:Vw) {n:Nat} (hV:Wf V n) (a b:Nat) (ha:a<n) (hb:b<n):Pure Tryz.prog γ false 69 [pVw V,.i fun _=>(a:Int),.i fun _=>(b:Int)] (.b fun _=>locM V a b):=by
 refine Pure.go (ty:=ty) ty_eq mo Tryz.func69 rfl Tryz.ntmps69 Tryz.results69 Tryz.call69 (by simp) fun P C CQ D W F E hF=>?_
 cbv
 repeat' (first
  |((first|refine E.c (SCalls.of_le (dnear_ok V hV a b ha hb) ?_ ?_)|refine E.q (QCalls.of_le (dnear_ok V hV a b ha hb) ?_ ?_));(· (cbv;(try simp only [nc] at *);first|done|(simp;done)|(simp (disch:=(first|omega|(simp only [lnS];omega))) only [rdT,rdS,anT];first|done|omega|(refine ⟨?_,?_⟩<;>omega))|(simp (disch:=(first|omega|(simp only [lnS];omega))) [rdT,rdS];done)));cbv)
  |(refine ⟨fun _ h_s=>?_,fun _ h_s=>?_⟩<;>(cbv;(try simp only [nc] at *);try simp (disch:=(first|omega|(simp only [lnS];omega))) only [rdT,rdS,reduceCtorEq,trT] at h_s))
  |(refine hF ?_;intro _;clear hF)
  |(refine hF ?_;cbv;clear hF)
  |(refine ⟨fun _=>?_,?_⟩;(· ((try simp only [nc] at *);first|done|omega|exact ⟨by omega,rfl⟩|(simp (disch:=(first|omega|(simp only [lnS];omega))) only [rdT,rdS];first|done|omega|rfl|exact ⟨by omega,rfl⟩|(simp;done)|(simp;omega))|(intros;trivial)));(try (simp only [nc] at *));(try simp (disch:=(first|omega|(simp only [lnS];omega))) only [rdT,rdS]);(try cbv))
  | fail
 )
 all_goals (try simp only [nc] at *)
 all_goals (try simp (disch:=(first|omega|(simp only [lnS];omega))) only [rdT,rdS])
 all_goals (have e:((a:Int)=b)↔a=b:=Int.ofNat_inj;simp_all [locM])
end Go.AL.Rl
namespace Go.AL.Rl
open Go Go.AL Go.Proofs
set_option maxRecDepth 100000
variable {γ:Nat→Option AV}
def maskTo (p:Nat→Bool):Nat→BitVec 64
 | 0=>0#64
 | n+1=>if p n=true then maskTo p n ||| 1#64 <<< n else maskTo p n
theorem mask_bit (p:Nat→Bool):∀ (n:Nat),n≤64→∀ j,(maskTo p n).getLsbD j=(decide (j<n) && p j)
 | 0,_,j=>by simp [maskTo]
 | n+1,h,j=>by
  have ih:=mask_bit p n (by omega) j
  unfold maskTo
  split
  ·rename_i hp
   rw [BitVec.getLsbD_or,ih,BitVec.getLsbD_shiftLeft,BitVec.getLsbD_one]
   by_cases hj:j=n
   ·subst hj;simp [hp];omega
   ·by_cases hlt:j<n
    ·simp [hlt,show j<n+1 by omega]
    ·simp [hlt,show ¬ j<n+1 by omega];omega
  ·rename_i hp
   rw [ih]
   by_cases hj:j=n
   ·subst hj;simp at hp;simp [hp]
   ·by_cases hlt:j<n
    ·simp [hlt,show j<n+1 by omega]
    ·simp [hlt,show ¬ j<n+1 by omega]
theorem bofInt {k:Nat} (h:k<9223372036854775808):(BitVec.ofInt 64 (k:Int)).toNat=k:=by simp;omega
theorem dmask3_ok (V:Vw) {n:Nat} (hV:Wf V n) (f:Nat) (v u:Unit→AV) (p:Nat→Bool) (hp:∀ k<n,Pure Tryz.prog γ false f [.i fun _=>(k:Int),.vp v 0,.vp u 0] (.b fun _=>p k)) :
  Pure Tryz.prog γ false 104 [pVw V,.fn f [] [.vp v 0,.vp u 0]] (.u fun _=>maskTo p n):=by
 have h1:=hV.ids
 have h2:=hV.small
 refine Pure.go (ty:=ty) ty_eq mo Tryz.func104 rfl Tryz.ntmps104 Tryz.results104 Tryz.call104 (by simp) fun P C CQ D W F E hF=>?_
 cbv
 repeat' (first
  |(refine ⟨fun _ h_s=>?_,fun _ h_s=>?_⟩<;>(cbv;(try simp only [nc] at *);try simp (disch:=(first|omega|(simp only [lnS];omega))) only [rdT,rdS,reduceCtorEq,trT] at h_s))
  |(refine hF ?_;intro _;clear hF)
  |(refine hF ?_;cbv;clear hF)
  |(refine ⟨fun _=>?_,?_⟩;(· ((try simp only [nc] at *);first|done|omega|exact ⟨by omega,rfl⟩|(simp (disch:=(first|omega|(simp only [lnS];omega))) only [rdT,rdS];first|done|omega|rfl|exact ⟨by omega,rfl⟩|(simp;done)|(simp;omega))|(intros;trivial)));(try (simp only [nc] at *));(try simp (disch:=(first|omega|(simp only [lnS];omega))) only [rdT,rdS]);(try cbv))
  | fail
 )
 refine E.loopS (ι:=Nat) (fun k=>k≤n) (fun k=>n-k) (fun k=>[(12,.i fun _=>((k:Nat):Int)),(5,.u fun _=>maskTo p k)]) (fun k h=>h) 0 (fun _=>by first|rfl|simp) (Nat.zero_le _) ?_ fun k hk I hI=>?_
 ·cbv;simp [h1,maskTo]
 cbv
 have hpk:=hp k
 have hbk:=bofInt (k:=k) (by omega)
 repeat' (first
  |(refine hI (k+1) ?_ ?_ ?_;rotate_left 1;(· ((try simp only [nc] at *);omega));(cbv;clear hI;(try clear hF);(try simp only [nc] at *);(try simp (disch:=(first|omega|(simp only [lnS];omega))) only [rdT,rdS,anT]));rotate_left 1;(try ((try simp only [nc] at *);omega)))
  |(refine E.c (SCalls.of_le (hpk (by ((try simp only [nc] at *);omega))) ?_ ?_);(· (cbv;(try simp only [nc] at *);first|done|(simp;done)|(simp (disch:=(first|omega|(simp only [lnS];omega))) only [rdT,rdS,anT];first|done|omega|(refine ⟨?_,?_⟩<;>omega))|(simp (disch:=(first|omega|(simp only [lnS];omega))) [rdT,rdS];done)));cbv)
  |(refine ⟨fun _ h_s=>?_,fun _ h_s=>?_⟩<;>(cbv;(try simp only [nc] at *);try simp (disch:=(first|omega|(simp only [lnS];omega))) only [rdT,rdS,reduceCtorEq,trT] at h_s))
  |(refine hF ?_;intro _;clear hF)
  |(refine hF ?_;cbv;clear hF)
  |(refine ⟨fun _=>?_,?_⟩;(· ((try simp only [nc] at *);first|done|omega|exact ⟨by omega,rfl⟩|(simp (disch:=(first|omega|(simp only [lnS];omega))) only [rdT,rdS];first|done|omega|rfl|exact ⟨by omega,rfl⟩|(simp;done)|(simp;omega))|(intros;trivial)));(try (simp only [nc] at *));(try simp (disch:=(first|omega|(simp only [lnS];omega))) only [rdT,rdS]);(try cbv))
  | fail
 )
 all_goals (try simp only [nc] at *)
 all_goals (try simp (disch:=(first|omega|(simp only [lnS];omega))) only [rdT,rdS])
 ·refine ⟨?_,by omega⟩
  (try simp only [hbk])
  rw [maskTo,if_pos (by assumption)]
  (try rfl)
 ·refine ⟨?_,by omega⟩
  rw [maskTo,if_neg (by simp_all)]
 ·have e:k=n:=by omega
  rw [e]
theorem rowsEq {n:Nat} {a b:List (BitVec 64)} (ha:a.length=n) (hb:b.length=n) (h:∀ i j,bit a i j=bit b i j):a=b:=by
 apply List.ext_getElem (by omega)
 intro i h1 h2
 apply BitVec.eq_of_getLsbD_eq
 intro j hj
 have:=h i j
 unfold bit at this
 simpa [h1,h2] using this
def relRows (n:Nat) (p:Nat→Nat→Bool):List (BitVec 64):=tab n fun i=>maskTo (p i) n
theorem relRows_len (n:Nat) (p:Nat→Nat→Bool):(relRows n p).length=n:=by simp [relRows]
theorem bit_rel {n:Nat} (hn:n≤64) (p:Nat→Nat→Bool) (i j:Nat):bit (relRows n p) i j=(decide (i<n) && (decide (j<n) && p i j)):=by
 by_cases hi:i<n
 ·unfold bit relRows
  rw [tab_get n _ i hi,mask_bit _ _ hn];simp [hi]
 ·rw [bit_out (by rw [relRows_len];omega)];simp [hi]
theorem fits_rel {n:Nat} (hn:n≤64) (p:Nat→Nat→Bool):Fits n (relRows n p):=fits_mk hn (relRows_len n p) fun i j h=>by
 rw [bit_rel hn] at h;simp at h;exact h.2.1
def prE (p:Nat→Nat→Bool) (a b:Nat):List (Int × Int):=(List.range b).flatMap fun j=>if p a j=true then [((a:Int),(j:Int))] else []
def prA (p:Nat→Nat→Bool) (n a:Nat):List (Int × Int):=(List.range a).flatMap fun i=>prE p i n
theorem prE_succ (p:Nat→Nat→Bool) (a b:Nat):prE p a (b+1)=prE p a b++if p a b=true then [((a:Int),(b:Int))] else []:=by
 unfold prE;rw [List.range_succ,List.flatMap_append];simp
theorem prA_succ (p:Nat→Nat→Bool) (n a:Nat):prA p n (a+1)=prA p n a++prE p a n:=by
 unfold prA;rw [List.range_succ,List.flatMap_append];simp
theorem prE_len (p:Nat→Nat→Bool) (a:Nat):∀ b,(prE p a b).length≤b
 | 0=>by simp [prE]
 | b+1=>by rw [prE_succ,List.length_append];have:=prE_len p a b;split<;>simp<;>omega
theorem prA_len (p:Nat→Nat→Bool) (n:Nat):∀ a,(prA p n a).length≤a * n
 | 0=>by simp [prA]
 | a+1=>by rw [prA_succ,List.length_append,Nat.add_mul];have:=prA_len p n a;have:=prE_len p a n;omega
theorem prA_mem (p:Nat→Nat→Bool) (n a:Nat) (q:Int × Int):q∈prA p n a↔∃ i<a,∃ j<n,p i j=true∧q=((i:Int),(j:Int)):=by
 unfold prA prE
 simp only [List.mem_flatMap,List.mem_range]
 constructor
 ·rintro ⟨i,hi,j,hj,h⟩
  split at h
  ·exact ⟨i,hi,j,hj,by assumption,by simpa using h⟩
  ·cases h
 ·rintro ⟨i,hi,j,hj,h1,h2⟩
  exact ⟨i,hi,j,hj,by rw [if_pos h1];simp [h2]⟩
theorem bit_ofStep (n:Nat) (acc:List (BitVec 64)) (hl:acc.length=n) (hn:n≤64) (a b:Nat) (ha:a<n) (hb:b<n) (i j:Nat):bit (ofStep n acc ((a:Int),(b:Int))) i j=(bit acc i j || (decide (i=a) && decide (j=b))):=by
 unfold ofStep
 rw [if_pos (by simp only;omega)]
 simp only [Int.toNat_natCast]
 unfold bit
 by_cases h:i=a
 ·subst h
  rw [getD_set_self _ _ _ (by omega),BitVec.getLsbD_or,BitVec.getLsbD_shiftLeft,BitVec.getLsbD_one]
  by_cases h2:j=b
  ·subst h2;simp;right;omega
  ·simp [h2];omega
 ·rw [getD_set_ne' _ _ _ _ (by omega)];simp [h]
theorem bit_ofTo (n:Nat) (hn:n≤64) (l:List (Int × Int)) (hl:∀ q∈l,∃ a<n,∃ b<n,q=(((a:Nat):Int),((b:Nat):Int))) (i j:Nat):∀ k,k≤l.length→bit (ofTo n l k) i j=decide (((i:Int),(j:Int))∈l.take k)
 | 0,_=>by
  simp only [ofTo,List.take_zero,List.foldl_nil,List.not_mem_nil,decide_false]
  exact bit_zero _ _ _
 | k+1,hk=>by
  have ih:=bit_ofTo n hn l hl i j k (by omega)
  obtain ⟨a,ha,b,hb,he⟩:=hl _ (getD_mem (d:=(0,0)) (show k<l.length by omega))
  rw [ofTo_succ n l k (by omega),he,bit_ofStep n _ (by rw [ofTo_len];simp) hn a b ha hb,ih,take_succ' l k (0,0) (by omega),he]
  simp only [List.mem_append,List.mem_singleton,Prod.mk.injEq,Int.ofNat_inj,Bool.decide_or,Bool.decide_and]
theorem ofTo_rel (n:Nat) (hn:n≤64) (p:Nat→Nat→Bool):ofTo n (prA p n n) (prA p n n).length=relRows n p:=by
 refine rowsEq (n:=n) (by rw [ofTo_len];simp) (relRows_len n p) fun i j=>?_
 rw [bit_ofTo n hn _ (fun q hq=>by
  obtain ⟨a,ha,b,hb,_,he⟩:=(prA_mem p n n q).1 hq
  exact ⟨a,ha,b,hb,he⟩) i j _ (Nat.le_refl _),List.take_length,bit_rel hn,Bool.eq_iff_iff,decide_eq_true_iff,prA_mem]
 simp only [Bool.and_eq_true,decide_eq_true_eq,Prod.mk.injEq,Int.ofNat_inj]
 constructor
 ·rintro ⟨a,ha,b,hb,h1,h2,h3⟩;subst h2;subst h3;exact ⟨ha,hb,h1⟩
 ·rintro ⟨ha,hb,h1⟩;exact ⟨i,ha,j,hb,h1,rfl,rfl⟩
theorem drel1_ok (V:Vw) {n:Nat} (hV:Wf V n) (f:Nat) (v:Unit→AV) (p:Nat→Nat→Bool) (hp:∀ a<n,∀ b<n,Pure Tryz.prog γ false f [.vp v 0,.i fun _=>(a:Int),.i fun _=>(b:Int)] (.b fun _=>p a b)) :
  Pure Tryz.prog γ false 63 [pVw V,.fn f [.vp v 0] []] (encRel n (relRows n p)):=by
 have h1:=hV.ids
 have h2:=hV.small
 obtain ⟨G,hG⟩:∃ G:Nat→Nat→Nat,∀ a b,G a b=(prA p n a++prE p a b).length:=⟨_,fun _ _=>rfl⟩
 have hG0:G 0 0=0:=by rw [hG];rfl
 have hof:=of_in (γ:=γ) (n:Int) (prA p n n) (by omega) (by omega) (by have:=prA_len p n n;have:n * n≤62 * 62:=Nat.mul_le_mul h2 h2;omega)
 rw [ofTo_rel n (by omega) p] at hof
 refine Pure.goL (ty:=ty) ty_eq mo Tryz.func63 rfl Tryz.ntmps63 Tryz.results63 Tryz.call63 (by simp) fun P C CQ D W F E hF=>?_
 refine E.cut 4 (told 43 [(0,pVw V),(4,.ptr 0 0),(5,.vs 2 fun _=>ps (prA p n n))] [.box (.agg [.lit 0,.nils])]) (by kernel_rfl) (Nat.zero_le _) (fun I hI=>?_) (E.bl ?_)
 ·cbv
  repeat' (first
   |(refine ⟨fun _ h_s=>?_,fun _ h_s=>?_⟩<;>(cbv;(try simp only [nc] at *);try simp (disch:=(first|omega|(simp only [lnS];omega))) only [rdT,rdS,reduceCtorEq,trT] at h_s))
   |(refine hF ?_;intro _;clear hF)
   |(refine hF ?_;cbv;clear hF)
   |(refine ⟨fun _=>?_,?_⟩;(· ((try simp only [nc] at *);first|done|omega|exact ⟨by omega,rfl⟩|(simp (disch:=(first|omega|(simp only [lnS];omega))) only [rdT,rdS];first|done|omega|rfl|exact ⟨by omega,rfl⟩|(simp;done)|(simp;omega))|(intros;trivial)));(try (simp only [nc] at *));(try simp (disch:=(first|omega|(simp only [lnS];omega))) only [rdT,rdS]);(try cbv))
   | fail
  )
  refine E.w (AWP.ghostSlot 5 2 rfl (by omega) (E.loopSA (ι:=Nat) (fun a=>a≤n) (fun a=>n-a) (fun a=>[(13,.i fun _=>((a:Nat):Int)),(5,.sl 1 (G a 0) 2 (fun _=>0) fun _=>(prA p n a).length)]) (fun a h=>h.set 1 (.run (G a 0) 2 fun _=>ps (prA p n a))) 0 (fun _=>by first | rfl | simp) (Nat.zero_le _) ?_ fun a ha I hI'=>?_))
  ·cbv;simp [h1,prA,hG0,ps,LV.of]
  cbv
  have hla:=prA_len p n a
  have hsa:=prA_succ p n a
  have hma:a * n≤62 * 62:=Nat.mul_le_mul (by omega) h2
  skip
  repeat' (first
   |(refine ⟨fun _ h_s=>?_,fun _ h_s=>?_⟩<;>(cbv;(try simp only [nc] at *);try simp (disch:=(first|omega|(simp only [lnS];omega))) only [rdT,rdS,reduceCtorEq,trT] at h_s))
   |(refine hF ?_;intro _;clear hF)
   |(refine hF ?_;cbv;clear hF)
   |(refine ⟨fun _=>?_,?_⟩;(· ((try simp only [nc] at *);first|done|omega|exact ⟨by omega,rfl⟩|(simp (disch:=(first|omega|(simp only [lnS];omega))) only [rdT,rdS];first|done|omega|rfl|exact ⟨by omega,rfl⟩|(simp;done)|(simp;omega))|(intros;trivial)|exact ⟨by first|trivial|rfl,by first|trivial|rfl|simp,by first|trivial|simp,by simp;omega,by simp;omega,by simp [AV.flat,AV.cells,AV.one]⟩));(try (simp only [nc] at *));(try simp (disch:=(first|omega|(simp only [lnS];omega))) only [rdT,rdS]);(try cbv))
   | fail
  )
  ·refine E.loopS (ι:=Nat) (fun b=>b≤n) (fun b=>n-b) (fun b=>[(21,.i fun _=>((b:Nat):Int)),(5,.sl 1 (G a b) 2 (fun _=>0) fun _=>(prA p n a++prE p a b).length)]) (fun b h=>h.set 1 (.run (G a b) 2 fun _=>ps (prA p n a++prE p a b))) 0 (fun _=>by first|rfl|simp) (Nat.zero_le _) ?_ fun b hb I2 hI2=>?_
   ·cbv;simp [h1,prE]
   cbv
   have hpk:=hp a
   have hlb:=prE_len p a b
   have hsb:=prE_succ p a b
   repeat' (first
    |(refine hI' (a+1) ?_ ?_ ?_;rotate_left 1;(· ((try simp only [nc] at *);omega));(cbv;clear hI';(try clear hF);(try simp only [nc] at *);(try simp (disch:=(first|omega|(simp only [lnS];omega))) only [rdT,rdS,anT]));rotate_left 1;(try ((try simp only [nc] at *);omega)))
    |(refine hI2 (b+1) ?_ ?_ ?_;rotate_left 1;(· ((try simp only [nc] at *);omega));(cbv;clear hI2;(try clear hF);(try simp only [nc] at *);(try simp (disch:=(first|omega|(simp only [lnS];omega))) only [rdT,rdS,anT]));rotate_left 1;(try ((try simp only [nc] at *);omega)))
    |(refine E.c (SCalls.of_le (hpk (by ((try simp only [nc] at *);omega)) b (by ((try simp only [nc] at *);omega))) ?_ ?_);(· (cbv;(try simp only [nc] at *);first|done|(simp;done)|(simp (disch:=(first|omega|(simp only [lnS];omega))) only [rdT,rdS,anT];first|done|omega|(refine ⟨?_,?_⟩<;>omega))|(simp (disch:=(first|omega|(simp only [lnS];omega))) [rdT,rdS];done)));cbv)
    |(refine ⟨fun _ h_s=>?_,fun _ h_s=>?_⟩<;>(cbv;(try simp only [nc] at *);try simp (disch:=(first|omega|(simp only [lnS];omega))) only [rdT,rdS,reduceCtorEq,trT] at h_s))
    |(refine hF ?_;intro _;clear hF)
    |(refine hF ?_;cbv;clear hF)
    |(refine ⟨fun _=>?_,?_⟩;(· ((try simp only [nc] at *);first|done|omega|exact ⟨by omega,rfl⟩|(simp (disch:=(first|omega|(simp only [lnS];omega))) only [rdT,rdS];first|done|omega|rfl|exact ⟨by omega,rfl⟩|(simp;done)|(simp;omega))|(intros;trivial)|exact ⟨by first|trivial|rfl,by first|trivial|rfl|simp,by first|trivial|simp,by simp;omega,by simp;omega,by simp [AV.flat,AV.cells,AV.one]⟩));(try (simp only [nc] at *));(try simp (disch:=(first|omega|(simp only [lnS];omega))) only [rdT,rdS]);(try cbv))
    | fail
   )
   all_goals (try simp only [nc] at *)
   all_goals (try simp (disch:=(first|omega|(simp only [lnS];omega))) only [rdT,rdS])
   ·rw [if_pos (by assumption)] at hsb
    simp [hG,hsb,ps]
    omega
   ·rw [if_neg (by simp_all)] at hsb
    simp [hG,hsb]
   ·have e:b=n:=by omega
    subst e
    have e0:prE p (a+1) 0=[]:=rfl
    simp only [hG,hsa,e0,List.append_nil]
    simp
  ·refine hI ?_
   cbv
   clear hI hI' hF
   have e:a=n:=by ((try simp only [nc] at *);omega)
   subst e
   (try simp only [nc] at *)
   (try simp (disch:=(first|omega|(simp only [lnS];omega))) only [rdT,rdS,anT])
   refine ⟨by omega,?_⟩
   rw [List.drop_zero,List.take_of_length_le (by simp)]
 ·cbv
  repeat' (first
   |(refine E.c (SCalls.of_le (hof) ?_ ?_);(· (cbv;(try simp only [nc] at *);first|done|(simp;done)|(simp (disch:=(first|omega|(simp only [lnS];omega))) only [rdT,rdS,anT];first|done|omega|(refine ⟨?_,?_⟩<;>omega))|(simp (disch:=(first|omega|(simp only [lnS];omega))) [rdT,rdS];done)));cbv)
   |(refine ⟨fun _ h_s=>?_,fun _ h_s=>?_⟩<;>(cbv;(try simp only [nc] at *);try simp (disch:=(first|omega|(simp only [lnS];omega))) only [rdT,rdS,reduceCtorEq,trT] at h_s))
   |(refine hF ?_;intro _;clear hF)
   |(refine hF ?_;cbv;clear hF)
   |(refine ⟨fun _=>?_,?_⟩;(· ((try simp only [nc] at *);first|done|omega|exact ⟨by omega,rfl⟩|(simp (disch:=(first|omega|(simp only [lnS];omega))) only [rdT,rdS];first|done|omega|rfl|exact ⟨by omega,rfl⟩|(simp;done)|(simp;omega))|(intros;trivial)|exact ⟨by first|trivial|rfl,by first|trivial|rfl|simp,by first|trivial|simp,by simp;omega,by simp;omega,by simp [AV.flat,AV.cells,AV.one]⟩));(try (simp only [nc] at *));(try simp (disch:=(first|omega|(simp only [lnS];omega))) only [rdT,rdS]);(try cbv))
   | fail
  )
  all_goals (try simp only [nc] at *)
  all_goals (try simp (disch:=(first|omega|(simp only [lnS];omega))) only [rdT,rdS])
theorem drel2_ok (V:Vw) {n:Nat} (hV:Wf V n) (f:Nat) (v:Unit→AV) (p:Nat→Nat→Bool) (hp:∀ a<n,∀ b<n,Pure Tryz.prog γ false f [.i fun _=>(a:Int),.i fun _=>(b:Int),.vp v 0] (.b fun _=>p a b)) :
  Pure Tryz.prog γ false 63 [pVw V,.fn f [] [.vp v 0]] (encRel n (relRows n p)):=by
 have h1:=hV.ids
 have h2:=hV.small
 obtain ⟨G,hG⟩:∃ G:Nat→Nat→Nat,∀ a b,G a b=(prA p n a++prE p a b).length:=⟨_,fun _ _=>rfl⟩
 have hG0:G 0 0=0:=by rw [hG];rfl
 have hof:=of_in (γ:=γ) (n:Int) (prA p n n) (by omega) (by omega) (by have:=prA_len p n n;have:n * n≤62 * 62:=Nat.mul_le_mul h2 h2;omega)
 rw [ofTo_rel n (by omega) p] at hof
 refine Pure.goL (ty:=ty) ty_eq mo Tryz.func63 rfl Tryz.ntmps63 Tryz.results63 Tryz.call63 (by simp) fun P C CQ D W F E hF=>?_
 refine E.cut 4 (told 43 [(0,pVw V),(4,.ptr 0 0),(5,.vs 2 fun _=>ps (prA p n n))] [.box (.agg [.lit 0,.nils])]) (by kernel_rfl) (Nat.zero_le _) (fun I hI=>?_) (E.bl ?_)
 ·cbv
  repeat' (first
   |(refine ⟨fun _ h_s=>?_,fun _ h_s=>?_⟩<;>(cbv;(try simp only [nc] at *);try simp (disch:=(first|omega|(simp only [lnS];omega))) only [rdT,rdS,reduceCtorEq,trT] at h_s))
   |(refine hF ?_;intro _;clear hF)
   |(refine hF ?_;cbv;clear hF)
   |(refine ⟨fun _=>?_,?_⟩;(· ((try simp only [nc] at *);first|done|omega|exact ⟨by omega,rfl⟩|(simp (disch:=(first|omega|(simp only [lnS];omega))) only [rdT,rdS];first|done|omega|rfl|exact ⟨by omega,rfl⟩|(simp;done)|(simp;omega))|(intros;trivial)|exact ⟨by first|trivial|rfl,by first|trivial|rfl|simp,by first|trivial|simp,by simp;omega,by simp;omega,by simp [AV.flat,AV.cells,AV.one]⟩));(try (simp only [nc] at *));(try simp (disch:=(first|omega|(simp only [lnS];omega))) only [rdT,rdS]);(try cbv))
   | fail
  )
  refine E.w (AWP.ghostSlot 5 2 rfl (by omega) (E.loopSA (ι:=Nat) (fun a=>a≤n) (fun a=>n-a) (fun a=>[(13,.i fun _=>((a:Nat):Int)),(5,.sl 1 (G a 0) 2 (fun _=>0) fun _=>(prA p n a).length)]) (fun a h=>h.set 1 (.run (G a 0) 2 fun _=>ps (prA p n a))) 0 (fun _=>by first | rfl | simp) (Nat.zero_le _) ?_ fun a ha I hI'=>?_))
  ·cbv;simp [h1,prA,hG0,ps,LV.of]
  cbv
  have hla:=prA_len p n a
  have hsa:=prA_succ p n a
  have hma:a * n≤62 * 62:=Nat.mul_le_mul (by omega) h2
  skip
  repeat' (first
   |(refine ⟨fun _ h_s=>?_,fun _ h_s=>?_⟩<;>(cbv;(try simp only [nc] at *);try simp (disch:=(first|omega|(simp only [lnS];omega))) only [rdT,rdS,reduceCtorEq,trT] at h_s))
   |(refine hF ?_;intro _;clear hF)
   |(refine hF ?_;cbv;clear hF)
   |(refine ⟨fun _=>?_,?_⟩;(· ((try simp only [nc] at *);first|done|omega|exact ⟨by omega,rfl⟩|(simp (disch:=(first|omega|(simp only [lnS];omega))) only [rdT,rdS];first|done|omega|rfl|exact ⟨by omega,rfl⟩|(simp;done)|(simp;omega))|(intros;trivial)|exact ⟨by first|trivial|rfl,by first|trivial|rfl|simp,by first|trivial|simp,by simp;omega,by simp;omega,by simp [AV.flat,AV.cells,AV.one]⟩|exact ⟨by first|trivial|rfl,by first|trivial|rfl|simp,by first|trivial|simp,by simp;omega,by simp;omega,by simp [AV.flat,AV.cells,AV.one]⟩));(try (simp only [nc] at *));(try simp (disch:=(first|omega|(simp only [lnS];omega))) only [rdT,rdS]);(try cbv))
   | fail
  )
  ·refine E.loopS (ι:=Nat) (fun b=>b≤n) (fun b=>n-b) (fun b=>[(21,.i fun _=>((b:Nat):Int)),(5,.sl 1 (G a b) 2 (fun _=>0) fun _=>(prA p n a++prE p a b).length)]) (fun b h=>h.set 1 (.run (G a b) 2 fun _=>ps (prA p n a++prE p a b))) 0 (fun _=>by first|rfl|simp) (Nat.zero_le _) ?_ fun b hb I2 hI2=>?_
   ·cbv;simp [h1,prE]
   cbv
   have hpk:=hp a
   have hlb:=prE_len p a b
   have hsb:=prE_succ p a b
   repeat' (first
    |(refine hI' (a+1) ?_ ?_ ?_;rotate_left 1;(· ((try simp only [nc] at *);omega));(cbv;clear hI';(try clear hF);(try simp only [nc] at *);(try simp (disch:=(first|omega|(simp only [lnS];omega))) only [rdT,rdS,anT]));rotate_left 1;(try ((try simp only [nc] at *);omega)))
    |(refine hI2 (b+1) ?_ ?_ ?_;rotate_left 1;(· ((try simp only [nc] at *);omega));(cbv;clear hI2;(try clear hF);(try simp only [nc] at *);(try simp (disch:=(first|omega|(simp only [lnS];omega))) only [rdT,rdS,anT]));rotate_left 1;(try ((try simp only [nc] at *);omega)))
    |(refine E.c (SCalls.of_le (hpk (by ((try simp only [nc] at *);omega)) b (by ((try simp only [nc] at *);omega))) ?_ ?_);(· (cbv;(try simp only [nc] at *);first|done|(simp;done)|(simp (disch:=(first|omega|(simp only [lnS];omega))) only [rdT,rdS,anT];first|done|omega|(refine ⟨?_,?_⟩<;>omega))|(simp (disch:=(first|omega|(simp only [lnS];omega))) [rdT,rdS];done)));cbv)
    |(refine ⟨fun _ h_s=>?_,fun _ h_s=>?_⟩<;>(cbv;(try simp only [nc] at *);try simp (disch:=(first|omega|(simp only [lnS];omega))) only [rdT,rdS,reduceCtorEq,trT] at h_s))
    |(refine hF ?_;intro _;clear hF)
    |(refine hF ?_;cbv;clear hF)
    |(refine ⟨fun _=>?_,?_⟩;(· ((try simp only [nc] at *);first|done|omega|exact ⟨by omega,rfl⟩|(simp (disch:=(first|omega|(simp only [lnS];omega))) only [rdT,rdS];first|done|omega|rfl|exact ⟨by omega,rfl⟩|(simp;done)|(simp;omega))|(intros;trivial)|exact ⟨by first|trivial|rfl,by first|trivial|rfl|simp,by first|trivial|simp,by simp;omega,by simp;omega,by simp [AV.flat,AV.cells,AV.one]⟩|exact ⟨by first|trivial|rfl,by first|trivial|rfl|simp,by first|trivial|simp,by simp;omega,by simp;omega,by simp [AV.flat,AV.cells,AV.one]⟩));(try (simp only [nc] at *));(try simp (disch:=(first|omega|(simp only [lnS];omega))) only [rdT,rdS]);(try cbv))
    | fail
   )
   all_goals (try simp only [nc] at *)
   all_goals (try simp (disch:=(first|omega|(simp only [lnS];omega))) only [rdT,rdS])
   ·rw [if_pos (by assumption)] at hsb
    simp [hG,hsb,ps]
    omega
   ·rw [if_neg (by simp_all)] at hsb
    simp [hG,hsb]
   ·have e:b=n:=by omega
    subst e
    have e0:prE p (a+1) 0=[]:=rfl
    simp only [hG,hsa,e0,List.append_nil]
    simp
  ·refine hI ?_
   cbv
   clear hI hI' hF
   have e:a=n:=by ((try simp only [nc] at *);omega)
   subst e
   (try simp only [nc] at *)
   (try simp (disch:=(first|omega|(simp only [lnS];omega))) only [rdT,rdS,anT])
   refine ⟨by omega,?_⟩
   rw [List.drop_zero,List.take_of_length_le (by simp)]
 ·cbv
  repeat' (first
   |(refine E.c (SCalls.of_le (hof) ?_ ?_);(· (cbv;(try simp only [nc] at *);first|done|(simp;done)|(simp (disch:=(first|omega|(simp only [lnS];omega))) only [rdT,rdS,anT];first|done|omega|(refine ⟨?_,?_⟩<;>omega))|(simp (disch:=(first|omega|(simp only [lnS];omega))) [rdT,rdS];done)));cbv)
   |(refine ⟨fun _ h_s=>?_,fun _ h_s=>?_⟩<;>(cbv;(try simp only [nc] at *);try simp (disch:=(first|omega|(simp only [lnS];omega))) only [rdT,rdS,reduceCtorEq,trT] at h_s))
   |(refine hF ?_;intro _;clear hF)
   |(refine hF ?_;cbv;clear hF)
   |(refine ⟨fun _=>?_,?_⟩;(· ((try simp only [nc] at *);first|done|omega|exact ⟨by omega,rfl⟩|(simp (disch:=(first|omega|(simp only [lnS];omega))) only [rdT,rdS];first|done|omega|rfl|exact ⟨by omega,rfl⟩|(simp;done)|(simp;omega))|(intros;trivial)|exact ⟨by first|trivial|rfl,by first|trivial|rfl|simp,by first|trivial|simp,by simp;omega,by simp;omega,by simp [AV.flat,AV.cells,AV.one]⟩|exact ⟨by first|trivial|rfl,by first|trivial|rfl|simp,by first|trivial|simp,by simp;omega,by simp;omega,by simp [AV.flat,AV.cells,AV.one]⟩));(try (simp only [nc] at *));(try simp (disch:=(first|omega|(simp only [lnS];omega))) only [rdT,rdS]);(try cbv))
   | fail
  )
  all_goals (try simp only [nc] at *)
  all_goals (try simp (disch:=(first|omega|(simp only [lnS];omega))) only [rdT,rdS])
end Go.AL.Rl
namespace Go.AL.Rl
open Go Go.AL Go.Proofs
set_option maxRecDepth 100000
variable {γ:Nat→Option AV}
inductive InSeq (V:Vw) (n w:Nat):Nat→Prop
 | base:InSeq V n w w
 | step {i:Nat}:i<n→(V.ev.getD i ev0).kind=3→InSeq V n w (V.fr.getD i 0).toNat→InSeq V n w i
theorem InSeq.lt {V:Vw} {n w:Nat} (hw:w<n) {i:Nat} (h:InSeq V n w i):i<n:=by
 cases h with
 | base=>exact hw
 | step h _ _=>exact h
noncomputable def seqM (V:Vw) (n w:Nat):BitVec 64:=maskTo (fun i=>@decide (InSeq V n w i) (Classical.propDecidable _)) n
theorem seq_bit {V:Vw} {n w:Nat} (hn:n≤64) (hw:w<n) (j:Nat):(seqM V n w).getLsbD j=true↔InSeq V n w j:=by
 unfold seqM
 simp only [mask_bit _ _ hn,Bool.and_eq_true,decide_eq_true_eq]
 exact ⟨fun h=>h.2,fun h=>⟨h.lt hw,h⟩⟩
theorem seq_unique {V:Vw} {n w:Nat} (hn:n≤64) (hw:w<n) {s:BitVec 64} (h1:s.getLsbD w=true) (h2:∀ j,s.getLsbD j=true→InSeq V n w j)
  (h3:∀ i<n,(V.ev.getD i ev0).kind=3→s.getLsbD (V.fr.getD i 0).toNat=true→s.getLsbD i=true):s=seqM V n w:=by
 have key:∀ j,InSeq V n w j→s.getLsbD j=true:=by
  intro j h
  induction h with
  | base=>exact h1
  | step hi hk _ ih=>exact h3 _ hi hk ih
 apply BitVec.eq_of_getLsbD_eq
 intro j _
 rw [Bool.eq_iff_iff,seq_bit hn hw]
 exact ⟨h2 j,key j⟩
def cntB:Nat→BitVec 64→Nat
 | 0,_=>0
 | k+1,x=>cntB k x+if x.getLsbD k=true then 1 else 0
theorem cntB_le (x:BitVec 64):∀ k,cntB k x≤k
 | 0=>Nat.le_refl _
 | k+1=>by unfold cntB;have:=cntB_le x k;split<;>omega
theorem cntB_mono {x y:BitVec 64} (h:∀ j,x.getLsbD j=true→y.getLsbD j=true):∀ k,cntB k x≤cntB k y
 | 0=>Nat.le_refl _
 | k+1=>by
  unfold cntB
  have:=cntB_mono h k
  have:=h k
  split<;>split<;>first | omega | simp_all
theorem cntB_lt {x y:BitVec 64} (h:∀ j,x.getLsbD j=true→y.getLsbD j=true) {i:Nat} (h1:x.getLsbD i=false) (h2:y.getLsbD i=true):∀ k,i<k→cntB k x<cntB k y
 | 0,hk=>by omega
 | k+1,hk=>by
  unfold cntB
  by_cases e:i=k
  ·subst e
   have:=cntB_mono h i
   rw [h1,h2];simp;omega
  ·have:=cntB_lt h h1 h2 k (by omega)
   have:=h k
   split<;>split<;>first | omega | simp_all
theorem cntB_ne {x y:BitVec 64} (h:∀ j,x.getLsbD j=true→y.getLsbD j=true) (hne:x≠y):cntB 64 x<cntB 64 y:=by
 have:∃ i,i<64∧x.getLsbD i≠y.getLsbD i:=by
  apply Classical.byContradiction
  intro hc
  apply hne
  apply BitVec.eq_of_getLsbD_eq
  intro i hi
  apply Classical.byContradiction
  intro hd
  exact hc ⟨i,hi,hd⟩
 obtain ⟨i,hi,hd⟩:=this
 have hx:x.getLsbD i=false:=by
  cases hx:x.getLsbD i with
  | false=>rfl
  | true=>rw [hx,h i hx] at hd;exact absurd rfl hd
 have hy:y.getLsbD i=true:=by
  cases hy:y.getLsbD i with
  | true=>rfl
  | false=>rw [hx,hy] at hd;exact absurd rfl hd
 exact cntB_lt h hx hy 64 hi
def upSeq (V:Vw) (s:BitVec 64) (i:Nat):Bool:=decide ((V.ev.getD i ev0).kind=3) && s.getLsbD (V.fr.getD i 0).toNat
theorem getLsb_and1 (x:BitVec 64) (k:Nat):(!decide ((x >>> k) &&& 1#64=0#64))=x.getLsbD k:=by
 cases h:x.getLsbD k with
 | false=>simp [and_one_zero,h]
 | true=>
  have:¬ (x >>> k) &&& 1#64=0#64:=fun h2=>by rw [and_one_zero,h] at h2;cases h2
  simp [this]
theorem seq1_ok (V:Vw) {n:Nat} (hV:Wf V n) (s:BitVec 64) (a:Nat) (ha:a<n):Pure Tryz.prog γ false 136 [.i fun _=>(a:Int),.vp (fun _=>pVw V) 0,.vp (fun _=>.u fun _=>s) 0] (.b fun _=>upSeq V s a):=by
 have h1:=hV.ev
 have h2:=hV.fr
 have h3:=hV.frl a ha
 have h4:=hV.frg a ha
 have h5:=hV.small
 refine Pure.go (ty:=ty) ty_eq mo Tryz.func136 rfl Tryz.ntmps136 Tryz.results136 Tryz.call136 (by simp) fun P C CQ D W F E hF=>?_
 cbv
 repeat' (first
  |(refine ⟨fun _ h_s=>?_,fun _ h_s=>?_⟩<;>(cbv;(try simp only [nc] at *);try simp (disch:=(first|omega|(simp only [lnS];omega))) only [rdT,rdS,reduceCtorEq,trT] at h_s))
  |(refine hF ?_;intro _;clear hF)
  |(refine hF ?_;cbv;clear hF)
  |(refine ⟨fun _=>?_,?_⟩;(· ((try simp only [nc] at *);first|done|omega|exact ⟨by omega,rfl⟩|(simp (disch:=(first|omega|(simp only [lnS];omega))) only [rdT,rdS];first|done|omega|rfl|exact ⟨by omega,rfl⟩|(simp;done)|(simp;omega))|(intros;trivial)));(try (simp only [nc] at *));(try simp (disch:=(first|omega|(simp only [lnS];omega))) only [rdT,rdS]);(try cbv))
  |(refine E.d 19 (by decide +kernel) ?_;cbv;(fail_if_success guard_target =~ False))
  | fail
 )
 all_goals (try simp only [nc] at *)
 all_goals (try simp (disch:=(first|omega|(simp only [lnS];omega))) only [rdT,rdS])
 ·have hsh:(BitVec.ofInt 64 (V.fr.getD a 0)).toNat=(V.fr.getD a 0).toNat:=bofZ (h4 (by simp_all [readsM])) (by omega)
  have e:(V.ev.getD a ev0).kind=3:=by assumption
  rw [upSeq,←getLsb_and1]
  (try rw [hsh])
  simp only [e,decide_true,Bool.true_and,decide_not]
 ·simp_all [upSeq]
theorem sequence_ok (V:Vw) {n:Nat} (hV:Wf V n) (w:Nat) (hw:w<n):Pure Tryz.prog γ false 103 [pVw V,.i fun _=>(w:Int)] (.u fun _=>seqM V n w):=by
 have h5:=hV.small
 have h64:n≤64:=by omega
 have hbw:=bofInt (k:=w) (by omega)
 refine Pure.go (ty:=ty) ty_eq mo Tryz.func103 rfl Tryz.ntmps103 Tryz.results103 Tryz.call103 (by simp) fun P C CQ D W F E hF=>?_
 cbv
 refine E.loopS (ι:=BitVec 64 × BitVec 64) (fun q=>(∀ j,q.1.getLsbD j=true→q.2.getLsbD j=true)∧(∀ j,q.2.getLsbD j=true→InSeq V n w j)∧q.2.getLsbD w=true∧(∀ i<n,upSeq V q.1 i=true→q.2.getLsbD i=true)) (fun q=>64-cntB 64 q.1) (fun q=>[(6,.u fun _=>q.1)]) (fun q h=>h.set 1 (.box (.u fun _=>q.2))) (0#64,1#64 <<< w) (fun _=>rfl) ?_ ?_ fun q hq I hI=>?_
 ·simp only
  refine ⟨fun j hj=>(by simp at hj),fun j hj=>?_,?_,fun i hi h=>(by simp [upSeq] at h)⟩
  ·rw [BitVec.getLsbD_shiftLeft,BitVec.getLsbD_one] at hj
   simp at hj
   obtain rfl:j=w:=by omega
   exact .base
  ·rw [BitVec.getLsbD_shiftLeft,BitVec.getLsbD_one];simp;omega
 ·cbv
  simp only [hbw,bof0,bof1]
  simp
 obtain ⟨g,a⟩:=q
 simp only at hq
 obtain ⟨hq1,hq2,hq3,hq4⟩:=hq
 cbv
 have hm:=dmask3_ok V hV 136 (fun _=>pVw V) (fun _=>.u fun _=>a) (upSeq V a) fun k hk=>seq1_ok (γ:=γ) V hV a k hk
 repeat' (first
  |(refine E.c (SCalls.of_bare (hm) rfl ?_ ?_);(· (cbv;(try simp only [nc] at *);first|done|(simp;done)|(simp (disch:=(first|omega|(simp only [lnS];omega))) only [rdT,rdS,anT];first|done|omega|(refine ⟨?_,?_⟩<;>omega))|(simp (disch:=(first|omega|(simp only [lnS];omega))) [rdT,rdS];done)));cbv)
  |(refine E.q (QCalls.of_bare (hm) rfl ?_ ?_);(· (cbv;(try simp only [nc] at *);first|done|(simp;done)|(simp (disch:=(first|omega|(simp only [lnS];omega))) only [rdT,rdS,anT];first|done|omega|(refine ⟨?_,?_⟩<;>omega))|(simp (disch:=(first|omega|(simp only [lnS];omega))) [rdT,rdS];done)));cbv)
  |(refine ⟨fun _ h_s=>?_,fun _ h_s=>?_⟩<;>(cbv;(try simp only [nc] at *);try simp (disch:=(first|omega|(simp only [lnS];omega))) only [rdT,rdS,reduceCtorEq,trT] at h_s))
  |(refine hF ?_;intro _;clear hF)
  |(refine hF ?_;cbv;clear hF)
  |(refine ⟨fun _=>?_,?_⟩;(· ((try simp only [nc] at *);first|done|omega|exact ⟨by omega,rfl⟩|(simp (disch:=(first|omega|(simp only [lnS];omega))) only [rdT,rdS];first|done|omega|rfl|exact ⟨by omega,rfl⟩|(simp;done)|(simp;omega))|(intros;trivial)));(try (simp only [nc] at *));(try simp (disch:=(first|omega|(simp only [lnS];omega))) only [rdT,rdS]);(try cbv))
  |(refine E.d 4 (by decide +kernel) ?_;cbv;(fail_if_success guard_target =~ False))
  | fail
 )
 ·have hbits:∀ j,(a ||| maskTo (upSeq V a) n).getLsbD j=(a.getLsbD j || (decide (j<n) && upSeq V a j)):=fun j=>by rw [BitVec.getLsbD_or,mask_bit _ _ h64]
  refine hI (a,a ||| maskTo (upSeq V a) n) ⟨fun j hj=>?_,fun j hj=>?_,?_,fun i hi h=>?_⟩ ?_ ?_
  ·simp only at hj ⊢
   rw [hbits,hj];rfl
  ·simp only at hj
   rw [hbits,Bool.or_eq_true] at hj
   rcases hj with hj | hj
   ·exact hq2 j hj
   ·simp only [upSeq,Bool.and_eq_true,decide_eq_true_eq] at hj
    exact .step hj.1 hj.2.1 (hq2 _ hj.2.2)
  ·simp only;rw [hbits,hq3];rfl
  ·simp only at h ⊢
   rw [hbits,h,decide_eq_true hi];simp
  ·simp only
   have:=cntB_ne hq1 (by assumption)
   have:=cntB_le a 64
   omega
  ·cbv
   clear hI hF
   simp
 ·all_goals (try simp only [nc] at *)
  all_goals (try simp (disch:=(first|omega|(simp only [lnS];omega))) only [rdT,rdS])
  have e:g=a:=by simp_all
  subst e
  exact seq_unique h64 hw hq3 hq2 fun i hi hk h=>hq4 i hi (by unfold upSeq;rw [hk,h];rfl)
def behM (V:Vw) (n:Nat) (s:BitVec 64) (a:Nat):Bool:=s.getLsbD a || (fenceM (V.ev.getD a ev0) && decide (s &&& maskTo (fun b=>poM V b a) n≠0#64))
theorem behind1_ok (V:Vw) {n:Nat} (hV:Wf V n) (a b:Nat) (ha:a<n) (hb:b<n):Pure Tryz.prog γ false 137 [.i fun _=>(b:Int),.vp (fun _=>pVw V) 0,.vp (fun _=>.i fun _=>(a:Int)) 0] (.b fun _=>poM V b a):=by
 refine Pure.go (ty:=ty) ty_eq mo Tryz.func137 rfl Tryz.ntmps137 Tryz.results137 Tryz.call137 (by simp) fun P C CQ D W F E hF=>?_
 cbv
 repeat' (first
  |((first|refine E.c (SCalls.of_le (dpo_ok V hV b a hb ha) ?_ ?_)|refine E.q (QCalls.of_le (dpo_ok V hV b a hb ha) ?_ ?_));(· (cbv;(try simp only [nc] at *);first|done|(simp;done)|(simp (disch:=(first|omega|(simp only [lnS];omega))) only [rdT,rdS,anT];first|done|omega|(refine ⟨?_,?_⟩<;>omega))|(simp (disch:=(first|omega|(simp only [lnS];omega))) [rdT,rdS];done)));cbv)
  |(refine ⟨fun _ h_s=>?_,fun _ h_s=>?_⟩<;>(cbv;(try simp only [nc] at *);try simp (disch:=(first|omega|(simp only [lnS];omega))) only [rdT,rdS,reduceCtorEq,trT] at h_s))
  |(refine hF ?_;intro _;clear hF)
  |(refine hF ?_;cbv;clear hF)
  |(refine ⟨fun _=>?_,?_⟩;(· ((try simp only [nc] at *);first|done|omega|exact ⟨by omega,rfl⟩|(simp (disch:=(first|omega|(simp only [lnS];omega))) only [rdT,rdS];first|done|omega|rfl|exact ⟨by omega,rfl⟩|(simp;done)|(simp;omega))|(intros;trivial)));(try (simp only [nc] at *));(try simp (disch:=(first|omega|(simp only [lnS];omega))) only [rdT,rdS]);(try cbv))
  | fail
 )
 all_goals (try simp only [nc] at *)
 all_goals (try simp (disch:=(first|omega|(simp only [lnS];omega))) only [rdT,rdS])
theorem behind_ok (V:Vw) {n:Nat} (hV:Wf V n) (s:BitVec 64) (a:Nat) (ha:a<n):Pure Tryz.prog γ false 108 [pVw V,.u fun _=>s,.i fun _=>(a:Int)] (.b fun _=>behM V n s a):=by
 have h5:=hV.small
 have hbw:=bofInt (k:=a) (by omega)
 have hm:=dmask3_ok V hV 137 (fun _=>pVw V) (fun _=>.i fun _=>(a:Int)) (fun b=>poM V b a) fun k hk=>behind1_ok (γ:=γ) V hV a k ha hk
 refine Pure.go (ty:=ty) ty_eq mo Tryz.func108 rfl Tryz.ntmps108 Tryz.results108 Tryz.call108 (by simp) fun P C CQ D W F E hF=>?_
 cbv
 repeat' (first
  |(refine E.c (SCalls.of_bare (hm) rfl ?_ ?_);(· (cbv;(try simp only [nc] at *);first|done|(simp;done)|(simp (disch:=(first|omega|(simp only [lnS];omega))) only [rdT,rdS,anT];first|done|omega|(refine ⟨?_,?_⟩<;>omega))|(simp (disch:=(first|omega|(simp only [lnS];omega))) [rdT,rdS];done)));cbv)
  |(refine E.q (QCalls.of_bare (hm) rfl ?_ ?_);(· (cbv;(try simp only [nc] at *);first|done|(simp;done)|(simp (disch:=(first|omega|(simp only [lnS];omega))) only [rdT,rdS,anT];first|done|omega|(refine ⟨?_,?_⟩<;>omega))|(simp (disch:=(first|omega|(simp only [lnS];omega))) [rdT,rdS];done)));cbv)
  |((first|refine E.c (SCalls.of_le (dfence_ok V hV a ha) ?_ ?_)|refine E.q (QCalls.of_le (dfence_ok V hV a ha) ?_ ?_));(· (cbv;(try simp only [nc] at *);first|done|(simp;done)|(simp (disch:=(first|omega|(simp only [lnS];omega))) only [rdT,rdS,anT];first|done|omega|(refine ⟨?_,?_⟩<;>omega))|(simp (disch:=(first|omega|(simp only [lnS];omega))) [rdT,rdS];done)));cbv)
  |(refine ⟨fun _ h_s=>?_,fun _ h_s=>?_⟩<;>(cbv;(try simp only [nc] at *);try simp (disch:=(first|omega|(simp only [lnS];omega))) only [rdT,rdS,reduceCtorEq,trT] at h_s))
  |(refine hF ?_;intro _;clear hF)
  |(refine hF ?_;cbv;clear hF)
  |(refine ⟨fun _=>?_,?_⟩;(· ((try simp only [nc] at *);first|done|omega|exact ⟨by omega,rfl⟩|(simp (disch:=(first|omega|(simp only [lnS];omega))) only [rdT,rdS];first|done|omega|rfl|exact ⟨by omega,rfl⟩|(simp;done)|(simp;omega))|(intros;trivial)));(try (simp only [nc] at *));(try simp (disch:=(first|omega|(simp only [lnS];omega))) only [rdT,rdS]);(try cbv))
  | fail
 )
 all_goals (try simp only [nc] at *)
 all_goals (try simp (disch:=(first|omega|(simp only [lnS];omega))) only [rdT,rdS])
 all_goals (have hg:=getLsb_and1 s a;simp_all [behM])
def rdrM (V:Vw) (s:BitVec 64) (b:Nat):Bool:=readsM (V.ev.getD b ev0) && decide ((V.ev.getD b ev0).order≠1) && s.getLsbD (V.fr.getD b 0).toNat
theorem sw1_ok (V:Vw) {n:Nat} (hV:Wf V n) (s:BitVec 64) (b:Nat) (hb:b<n):Pure Tryz.prog γ false 105 [.i fun _=>(b:Int),.vp (fun _=>pVw V) 0,.vp (fun _=>.u fun _=>s) 0] (.b fun _=>rdrM V s b):=by
 have h1:=hV.ev
 have h2:=hV.fr
 have h3:=hV.frl b hb
 have h4:=hV.frg b hb
 have h5:=hV.small
 refine Pure.go (ty:=ty) ty_eq mo Tryz.func105 rfl Tryz.ntmps105 Tryz.results105 Tryz.call105 (by simp) fun P C CQ D W F E hF=>?_
 cbv
 repeat' (first
  |((first|refine E.c (SCalls.of_le (dreads_ok V hV b hb) ?_ ?_)|refine E.q (QCalls.of_le (dreads_ok V hV b hb) ?_ ?_));(· (cbv;(try simp only [nc] at *);first|done|(simp;done)|(simp (disch:=(first|omega|(simp only [lnS];omega))) only [rdT,rdS,anT];first|done|omega|(refine ⟨?_,?_⟩<;>omega))|(simp (disch:=(first|omega|(simp only [lnS];omega))) [rdT,rdS];done)));cbv)
  |(refine ⟨fun _ h_s=>?_,fun _ h_s=>?_⟩<;>(cbv;(try simp only [nc] at *);try simp (disch:=(first|omega|(simp only [lnS];omega))) only [rdT,rdS,reduceCtorEq,trT] at h_s))
  |(refine hF ?_;intro _;clear hF)
  |(refine hF ?_;cbv;clear hF)
  |(refine ⟨fun _=>?_,?_⟩;(· ((try simp only [nc] at *);first|done|omega|exact ⟨by omega,rfl⟩|(simp (disch:=(first|omega|(simp only [lnS];omega))) only [rdT,rdS];first|done|omega|rfl|exact ⟨by omega,rfl⟩|(simp;done)|(simp;omega))|(intros;trivial)));(try (simp only [nc] at *));(try simp (disch:=(first|omega|(simp only [lnS];omega))) only [rdT,rdS]);(try cbv))
  |(refine E.d 24 (by decide +kernel) ?_;cbv;(fail_if_success guard_target =~ False))
  | fail
 )
 all_goals (try simp only [nc] at *)
 all_goals (try simp (disch:=(first|omega|(simp only [lnS];omega))) only [rdT,rdS])
 ·have hsh:(BitVec.ofInt 64 (V.fr.getD b 0)).toNat=(V.fr.getD b 0).toNat:=bofZ (h4 (by assumption)) (by omega)
  have e1:readsM (V.ev.getD b ev0)=true:=by assumption
  have e2:¬ (V.ev.getD b ev0).order=1:=by assumption
  rw [rdrM,←getLsb_and1]
  (try rw [hsh])
  simp only [e1,ne_eq,e2,not_false_eq_true,decide_true,Bool.true_and,decide_not]
 ·simp_all [rdrM]
 ·simp_all [rdrM]
theorem sw2_ok (V:Vw) {n:Nat} (hV:Wf V n) (s:BitVec 64) (a:Nat) (ha:a<n):Pure Tryz.prog γ false 106 [.i fun _=>(a:Int),.vp (fun _=>pVw V) 0,.vp (fun _=>.u fun _=>s) 0] (.b fun _=>acqM (V.ev.getD a ev0) && behM V n s a):=by
 refine Pure.go (ty:=ty) ty_eq mo Tryz.func106 rfl Tryz.ntmps106 Tryz.results106 Tryz.call106 (by simp) fun P C CQ D W F E hF=>?_
 cbv
 repeat' (first
  |((first|refine E.c (SCalls.of_le (behind_ok V hV s a ha) ?_ ?_)|refine E.q (QCalls.of_le (behind_ok V hV s a ha) ?_ ?_));(· (cbv;(try simp only [nc] at *);first|done|(simp;done)|(simp (disch:=(first|omega|(simp only [lnS];omega))) only [rdT,rdS,anT];first|done|omega|(refine ⟨?_,?_⟩<;>omega))|(simp (disch:=(first|omega|(simp only [lnS];omega))) [rdT,rdS];done)));cbv)
  |((first|refine E.c (SCalls.of_le (dacq_ok V hV a ha) ?_ ?_)|refine E.q (QCalls.of_le (dacq_ok V hV a ha) ?_ ?_));(· (cbv;(try simp only [nc] at *);first|done|(simp;done)|(simp (disch:=(first|omega|(simp only [lnS];omega))) only [rdT,rdS,anT];first|done|omega|(refine ⟨?_,?_⟩<;>omega))|(simp (disch:=(first|omega|(simp only [lnS];omega))) [rdT,rdS];done)));cbv)
  |(refine ⟨fun _ h_s=>?_,fun _ h_s=>?_⟩<;>(cbv;(try simp only [nc] at *);try simp (disch:=(first|omega|(simp only [lnS];omega))) only [rdT,rdS,reduceCtorEq,trT] at h_s))
  |(refine hF ?_;intro _;clear hF)
  |(refine hF ?_;cbv;clear hF)
  |(refine ⟨fun _=>?_,?_⟩;(· ((try simp only [nc] at *);first|done|omega|exact ⟨by omega,rfl⟩|(simp (disch:=(first|omega|(simp only [lnS];omega))) only [rdT,rdS];first|done|omega|rfl|exact ⟨by omega,rfl⟩|(simp;done)|(simp;omega))|(intros;trivial)));(try (simp only [nc] at *));(try simp (disch:=(first|omega|(simp only [lnS];omega))) only [rdT,rdS]);(try cbv))
  | fail
 )
 all_goals (try simp only [nc] at *)
 all_goals (try simp (disch:=(first|omega|(simp only [lnS];omega))) only [rdT,rdS])
 all_goals simp_all
theorem sw3_ok (rows:List (BitVec 64)) (n:Nat) (hr:rows.length=n) (hn:n≤64) (a b:Nat) (ha:a<n) (hb:b<n):Pure Tryz.prog γ false 111 [.i fun _=>(a:Int),.i fun _=>(b:Int),.vp (fun _=>.vs 1 fun _=>us rows) 0] (.b fun _=>bit rows a b):=by
 have hbw:=bofInt (k:=b) (by omega)
 refine Pure.go (ty:=ty) ty_eq mo Tryz.func111 rfl Tryz.ntmps111 Tryz.results111 Tryz.call111 (by simp) fun P C CQ D W F E hF=>?_
 cbv
 repeat' (first
  |(refine ⟨fun _ h_s=>?_,fun _ h_s=>?_⟩<;>(cbv;(try simp only [nc] at *);try simp (disch:=(first|omega|(simp only [lnS];omega))) only [rdT,rdS,reduceCtorEq,trT] at h_s))
  |(refine hF ?_;intro _;clear hF)
  |(refine hF ?_;cbv;clear hF)
  |(refine ⟨fun _=>?_,?_⟩;(· ((try simp only [nc] at *);first|done|omega|exact ⟨by omega,rfl⟩|(simp (disch:=(first|omega|(simp only [lnS];omega))) only [rdT,rdS];first|done|omega|rfl|exact ⟨by omega,rfl⟩|(simp;done)|(simp;omega))|(intros;trivial)));(try (simp only [nc] at *));(try simp (disch:=(first|omega|(simp only [lnS];omega))) only [rdT,rdS]);(try cbv))
  | fail
 )
 all_goals (try simp only [nc] at *)
 all_goals (try simp (disch:=(first|omega|(simp only [lnS];omega))) only [rdT,rdS])
 have hg:=getLsb_and1 (rows.getD a 0) b
 simp_all [bit]
end Go.AL.Rl
namespace Go.AL.Rl
open Go Go.AL Go.Proofs
set_option maxRecDepth 100000
set_option maxHeartbeats 1600000
variable {γ:Nat→Option AV}
noncomputable def tgtM (V:Vw) (n w:Nat):BitVec 64:=maskTo (fun a=>acqM (V.ev.getD a ev0) && behM V n (maskTo (rdrM V (seqM V n w)) n) a) n
def swR (V:Vw) (w r:Nat):Bool:=writesM (V.ev.getD w ev0) && decide ((V.ev.getD w ev0).order≠1) && relM (V.ev.getD r ev0) && (decide (r=w) || fenceM (V.ev.getD r ev0) && poM V r w)
noncomputable def rowT (V:Vw) (n:Nat):Nat→Nat→BitVec 64
 | 0,_=>0#64
 | w+1,r=>if swR V w r=true then rowT V n w r ||| tgtM V n w else rowT V n w r
theorem tgt_zero (V:Vw) (n w:Nat) (h:maskTo (rdrM V (seqM V n w)) n=0#64):tgtM V n w=0#64:=by
 unfold tgtM
 rw [h]
 have:∀ k,maskTo (fun a=>acqM (V.ev.getD a ev0) && behM V n 0#64 a) k=0#64:=by
  intro k
  induction k with
  | zero=>rfl
  | succ k ih=>unfold maskTo;rw [ih];simp [behM]
 exact this n
theorem rowT_same (V:Vw) (n w:Nat) (r:Nat) (h:swR V w r=false∨tgtM V n w=0#64):rowT V n (w+1) r=rowT V n w r:=by
 unfold rowT
 rcases h with h | h
 ·rw [if_neg (by simp [h])];cases w<;>rfl
 ·rw [h];simp;cases w<;>rfl
noncomputable def swRows (V:Vw) (n:Nat):List (BitVec 64):=tab n (rowT V n n)
theorem row0 (V:Vw) (n:Nat):us (tab n (rowT V n 0))=LV.of (List.replicate n (.u fun _=>0#64)):=by
 rw [show rowT V n 0=fun _=>0#64 from rfl,tab_zero];simp [us]
theorem ustab_get (n:Nat) (f:Nat→BitVec 64) (r:Nat) (h:r<n):(us (tab n f)).l.getD r .any=.u fun _=>f r:=by
 rw [us_get _ r (by rw [tab_len];exact h),tab_get n f r h]
theorem dsw_ok (V:Vw) {n:Nat} (hV:Wf V n):Pure Tryz.prog γ false 70 [pVw V] (encRel n (relRows n (bit (swRows V n)))):=by
 have h1:=hV.ids
 have h1e:=hV.ev
 have h5:=hV.small
 have hlr:(swRows V n).length=n:=by simp [swRows]
 have hrel:=drel2_ok V hV 111 (fun _=>.vs 1 fun _=>us (swRows V n)) (bit (swRows V n)) fun a ha b hb=>sw3_ok (γ:=γ) (swRows V n) n hlr (by omega) a b ha hb
 refine Pure.goL (ty:=ty) ty_eq mo Tryz.func70 rfl Tryz.ntmps70 Tryz.results70 Tryz.call70 (by simp) fun P C CQ D W F E hF=>?_
 refine E.cut 4 (told 88 [(1,.ptr 0 0),(2,.ptr 1 0),(3,.vp (fun _=>.vs 1 fun _=>us (swRows V n)) 0)] [.box (pVw V),.box (.agg [.lit 0,.nils])]) (by kernel_rfl) (Nat.zero_le _) (fun I hI=>?_) (E.bl ?_)
 ·cbv
  repeat' (first
   |(refine ⟨fun _ h_s=>?_,fun _ h_s=>?_⟩<;>(cbv;(try simp only [nc] at *);try simp (disch:=(first|omega|(simp only [lnS];omega))) only [rdT,rdS,reduceCtorEq,trT] at h_s))
   |(refine hF ?_;intro _;clear hF)
   |(refine hF ?_;cbv;clear hF)
   |(refine ⟨fun _=>?_,?_⟩;(· ((try simp only [nc] at *);first|done|omega|exact ⟨by omega,rfl⟩|(simp (disch:=(first|omega|(simp only [lnS];omega))) only [rdT,rdS];first|done|omega|rfl|exact ⟨by omega,rfl⟩|(simp;done)|(simp;omega))|(intros;trivial)));(try (simp only [nc] at *));(try simp (disch:=(first|omega|(simp only [lnS];omega))) only [rdT,rdS]);(try cbv))
   | fail
  )
  refine E.loopS (ι:=Nat) (fun w=>w≤n) (fun w=>n-w) (fun w=>[(20,.i fun _=>((w:Nat):Int))]) (fun w h=>h.set 2 (.run 0 1 fun _=>us (tab n (rowT V n w)))) 0 (fun _=>by first|rfl|simp) (Nat.zero_le _) ?_ fun w hw I hI'=>?_
  ·cbv
   (try simp only [nc] at *)
   refine ⟨by simp,⟨by simp,by simp,⟨fun _=>⟨trivial,?_⟩,by simp⟩⟩⟩
   rw [h1,row0];rfl
  cbv
  have hsq:=sequence_ok (γ:=γ) V hV w
  have hm1:=dmask3_ok V hV 105 (fun _=>pVw V) (fun _=>.u fun _=>seqM V n w) (rdrM V (seqM V n w)) fun k hk=>sw1_ok (γ:=γ) V hV (seqM V n w) k hk
  have hm2:=dmask3_ok V hV 106 (fun _=>pVw V) (fun _=>.u fun _=>maskTo (rdrM V (seqM V n w)) n) (fun a=>acqM (V.ev.getD a ev0) && behM V n (maskTo (rdrM V (seqM V n w)) n) a) fun k hk=>sw2_ok (γ:=γ) V hV _ k hk
  repeat' (first
   |(refine hI' (w+1) ?_ ?_ ?_;rotate_left 1;(· ((try simp only [nc] at *);omega));(cbv;clear hI';(try clear hF);(try simp only [nc] at *);(try simp (disch:=(first|omega|(simp only [lnS];omega))) only [rdT,rdS,anT]));rotate_left 1;(try ((try simp only [nc] at *);omega)))
   |(refine E.c (SCalls.of_bare (hm2) rfl ?_ ?_);(· (cbv;(try simp only [nc] at *);first|done|(simp;done)|(simp (disch:=(first|omega|(simp only [lnS];omega))) only [rdT,rdS,anT];first|done|omega|(refine ⟨?_,?_⟩<;>omega))|(simp (disch:=(first|omega|(simp only [lnS];omega))) [rdT,rdS];done)));cbv)
   |(refine E.q (QCalls.of_bare (hm2) rfl ?_ ?_);(· (cbv;(try simp only [nc] at *);first|done|(simp;done)|(simp (disch:=(first|omega|(simp only [lnS];omega))) only [rdT,rdS,anT];first|done|omega|(refine ⟨?_,?_⟩<;>omega))|(simp (disch:=(first|omega|(simp only [lnS];omega))) [rdT,rdS];done)));cbv)
   |(refine E.c (SCalls.of_bare (hm1) rfl ?_ ?_);(· (cbv;(try simp only [nc] at *);first|done|(simp;done)|(simp (disch:=(first|omega|(simp only [lnS];omega))) only [rdT,rdS,anT];first|done|omega|(refine ⟨?_,?_⟩<;>omega))|(simp (disch:=(first|omega|(simp only [lnS];omega))) [rdT,rdS];done)));cbv)
   |(refine E.q (QCalls.of_bare (hm1) rfl ?_ ?_);(· (cbv;(try simp only [nc] at *);first|done|(simp;done)|(simp (disch:=(first|omega|(simp only [lnS];omega))) only [rdT,rdS,anT];first|done|omega|(refine ⟨?_,?_⟩<;>omega))|(simp (disch:=(first|omega|(simp only [lnS];omega))) [rdT,rdS];done)));cbv)
   |(refine E.c (SCalls.of_le (hsq (by ((try simp only [nc] at *);omega))) ?_ ?_);(· (cbv;(try simp only [nc] at *);first|done|(simp;done)|(simp (disch:=(first|omega|(simp only [lnS];omega))) only [rdT,rdS,anT];first|done|omega|(refine ⟨?_,?_⟩<;>omega))|(simp (disch:=(first|omega|(simp only [lnS];omega))) [rdT,rdS];done)));cbv)
   |(refine E.c (SCalls.of_le (dwrites_ok V hV w (by ((try simp only [nc] at *);omega))) ?_ ?_);(· (cbv;(try simp only [nc] at *);first|done|(simp;done)|(simp (disch:=(first|omega|(simp only [lnS];omega))) only [rdT,rdS,anT];first|done|omega|(refine ⟨?_,?_⟩<;>omega))|(simp (disch:=(first|omega|(simp only [lnS];omega))) [rdT,rdS];done)));cbv)
   |(refine ⟨fun _ h_s=>?_,fun _ h_s=>?_⟩<;>(cbv;(try simp only [nc] at *);try simp (disch:=(first|omega|(simp only [lnS];omega))) only [rdT,rdS,reduceCtorEq,trT] at h_s))
   |(refine hF ?_;intro _;clear hF)
   |(refine hF ?_;cbv;clear hF)
   |(refine ⟨fun _=>?_,?_⟩;(· ((try simp only [nc] at *);first|done|omega|exact ⟨by omega,rfl⟩|(simp (disch:=(first|omega|(simp only [lnS];omega))) only [rdT,rdS];first|done|omega|rfl|exact ⟨by omega,rfl⟩|(simp;done)|(simp;omega))|(intros;trivial)));(try (simp only [nc] at *));(try simp (disch:=(first|omega|(simp only [lnS];omega))) only [rdT,rdS]);(try cbv))
   | fail
  )
  ·refine ⟨by omega,congrArg us (tab_congr fun r _=>(rowT_same V n w r (.inl ?_)).symm)⟩
   simp_all [swR]
  ·refine ⟨by omega,congrArg us (tab_congr fun r _=>(rowT_same V n w r (.inl ?_)).symm)⟩
   simp_all [swR]
  ·refine ⟨by omega,congrArg us (tab_congr fun r _=>(rowT_same V n w r (.inr (tgt_zero V n w ?_))).symm)⟩
   simp_all
  ·have hwm:writesM (V.ev.getD w ev0)=true:=by assumption
   have hwo:¬ (V.ev.getD w ev0).order=1:=by assumption
   refine E.loopS (ι:=Nat) (fun r=>r≤n) (fun r=>n-r) (fun r=>[(54,.i fun _=>((r:Nat):Int))]) (fun r h=>h.set 2 (.run 0 1 fun _=>us (tab n fun k=>if k<r then rowT V n (w+1) k else rowT V n w k))) 0 (fun _=>by first|rfl|simp) (Nat.zero_le _) ?_ fun r hr I2 hI2=>?_
   ·cbv
    (try simp only [nc] at *)
    simp [h1]
   cbv
   skip
   repeat' (first
    |(refine hI' (w+1) ?_ ?_ ?_;rotate_left 1;(· ((try simp only [nc] at *);omega));(cbv;clear hI';(try clear hF);(try simp only [nc] at *);(try simp (disch:=(first|omega|(simp only [lnS,tab_len];omega))) only [rdT,rdS,Nat.zero_add,tab_len,tab_get,true_and,anT]));rotate_left 1;(try ((try simp only [nc] at *);omega)))
    |(refine hI2 (r+1) ?_ ?_ ?_;rotate_left 1;(· ((try simp only [nc] at *);omega));(cbv;clear hI2;(try clear hF);(try simp only [nc] at *);(try simp (disch:=(first|omega|(simp only [lnS,tab_len];omega))) only [rdT,rdS,Nat.zero_add,tab_len,tab_get,true_and,anT]));rotate_left 1;(try ((try simp only [nc] at *);omega)))
    |((first|refine E.c (SCalls.of_le (dpo_ok V hV r w (by ((try simp only [nc] at *);omega)) (by ((try simp only [nc] at *);omega))) ?_ ?_)|refine E.q (QCalls.of_le (dpo_ok V hV r w (by ((try simp only [nc] at *);omega)) (by ((try simp only [nc] at *);omega))) ?_ ?_));(· (cbv;(try simp only [nc] at *);first|done|(simp;done)|(simp (disch:=(first|omega|(simp only [lnS,tab_len];omega))) only [rdT,rdS,Nat.zero_add,tab_len,tab_get,true_and,anT];first|done|omega|(refine ⟨?_,?_⟩<;>omega))|(simp (disch:=(first|omega|(simp only [lnS,tab_len];omega))) [rdT,rdS,Nat.zero_add,tab_len,tab_get,true_and];done)));cbv)
    |((first|refine E.c (SCalls.of_le (dfence_ok V hV r (by ((try simp only [nc] at *);omega))) ?_ ?_)|refine E.q (QCalls.of_le (dfence_ok V hV r (by ((try simp only [nc] at *);omega))) ?_ ?_));(· (cbv;(try simp only [nc] at *);first|done|(simp;done)|(simp (disch:=(first|omega|(simp only [lnS,tab_len];omega))) only [rdT,rdS,Nat.zero_add,tab_len,tab_get,true_and,anT];first|done|omega|(refine ⟨?_,?_⟩<;>omega))|(simp (disch:=(first|omega|(simp only [lnS,tab_len];omega))) [rdT,rdS,Nat.zero_add,tab_len,tab_get,true_and];done)));cbv)
    |(refine E.c (SCalls.of_le (drel_ok V hV r (by ((try simp only [nc] at *);omega))) ?_ ?_);(· (cbv;(try simp only [nc] at *);first|done|(simp;done)|(simp (disch:=(first|omega|(simp only [lnS,tab_len];omega))) only [rdT,rdS,Nat.zero_add,tab_len,tab_get,true_and,anT];first|done|omega|(refine ⟨?_,?_⟩<;>omega))|(simp (disch:=(first|omega|(simp only [lnS,tab_len];omega))) [rdT,rdS,Nat.zero_add,tab_len,tab_get,true_and];done)));cbv)
    |(refine ⟨fun _ h_s=>?_,fun _ h_s=>?_⟩<;>(cbv;(try simp only [nc] at *);try simp (disch:=(first|omega|(simp only [lnS,tab_len];omega))) only [rdT,rdS,Nat.zero_add,tab_len,tab_get,true_and,reduceCtorEq,trT] at h_s))
    |(refine hF ?_;intro _;clear hF)
    |(refine hF ?_;cbv;clear hF)
    |(refine ⟨fun _=>?_,?_⟩;(· ((try simp only [nc] at *);first|done|omega|exact ⟨by omega,rfl⟩|(simp (disch:=(first|omega|(simp only [lnS,tab_len];omega))) only [rdT,rdS,Nat.zero_add,tab_len,tab_get,true_and];first|done|omega|rfl|exact ⟨by omega,rfl⟩|(simp;done)|(simp;omega))|(intros;trivial)));(try (simp only [nc] at *));(try simp (disch:=(first|omega|(simp only [lnS,tab_len];omega))) only [rdT,rdS,Nat.zero_add,tab_len,tab_get,true_and]);(try cbv))
    | fail
   )
   all_goals (try (clear hI hF))
   iterate 2
    ·refine ⟨by omega,?_⟩
     have e:((r:Int)=w)↔r=w:=Int.ofNat_inj
     have hsw:swR V w r=true:=by simp_all [swR]
     simp only [Nat.zero_add,ustab_get n _ r (show r<n by omega),at_u,upd_u,us_set,us_of]
     refine congrArg us (tab_set r _ (by omega) ?_ fun k hk hne=>?_)
     ·rw [if_pos (by omega),if_neg (by omega)]
      show rowT V n (w+1) r=_
      unfold rowT
      rw [if_pos hsw]
      cases w<;>rfl
     ·by_cases h:k<r
      ·rw [if_pos h,if_pos (by omega)]
      ·rw [if_neg h,if_neg (by omega)]
   iterate 3
    ·refine ⟨by omega,congrArg us (tab_congr fun k hk=>?_)⟩
     have e:((r:Int)=w)↔r=w:=Int.ofNat_inj
     have hsw:swR V w r=false:=by simp_all [swR]
     by_cases h:k<r
     ·rw [if_pos h,if_pos (by omega)]
     ·rw [if_neg h]
      by_cases h2:k<r+1
      ·rw [if_pos h2]
       obtain rfl:k=r:=by omega
       exact (rowT_same V n w k (.inl hsw)).symm
      ·rw [if_neg h2]
   ·refine ⟨by omega,congrArg us (tab_congr fun k hk=>?_)⟩
    rw [if_pos (by omega)]
  ·refine hI ?_
   cbv
   clear hI hI' hF
   have e:w=n:=by ((try simp only [nc] at *);omega)
   subst e
   (try simp only [nc] at *)
   (try simp (disch:=(first|omega|(simp only [lnS,tab_len];omega))) only [rdT,rdS,Nat.zero_add,tab_len,tab_get,true_and,anT])
   refine ⟨by omega,?_⟩
   rw [h1,List.drop_zero,List.take_of_length_le (by simp)];rfl
 ·cbv
  repeat' (first
   |(refine E.c (SCalls.of_le (hrel) ?_ ?_);(· (cbv;(try simp only [nc] at *);first|done|(simp;done)|(simp (disch:=(first|omega|(simp only [lnS,tab_len];omega))) only [rdT,rdS,Nat.zero_add,tab_len,tab_get,true_and,anT];first|done|omega|(refine ⟨?_,?_⟩<;>omega))|(simp (disch:=(first|omega|(simp only [lnS,tab_len];omega))) [rdT,rdS,Nat.zero_add,tab_len,tab_get,true_and];done)));cbv)
   |(refine ⟨fun _ h_s=>?_,fun _ h_s=>?_⟩<;>(cbv;(try simp only [nc] at *);try simp (disch:=(first|omega|(simp only [lnS,tab_len];omega))) only [rdT,rdS,Nat.zero_add,tab_len,tab_get,true_and,reduceCtorEq,trT] at h_s))
   |(refine hF ?_;intro _;clear hF)
   |(refine hF ?_;cbv;clear hF)
   |(refine ⟨fun _=>?_,?_⟩;(· ((try simp only [nc] at *);first|done|omega|exact ⟨by omega,rfl⟩|(simp (disch:=(first|omega|(simp only [lnS,tab_len];omega))) only [rdT,rdS,Nat.zero_add,tab_len,tab_get,true_and];first|done|omega|rfl|exact ⟨by omega,rfl⟩|(simp;done)|(simp;omega))|(intros;trivial)));(try (simp only [nc] at *));(try simp (disch:=(first|omega|(simp only [lnS,tab_len];omega))) only [rdT,rdS,Nat.zero_add,tab_len,tab_get,true_and]);(try cbv))
   | fail
  )
  all_goals (try simp only [nc] at *)
  all_goals (try simp (disch:=(first|omega|(simp only [lnS,tab_len];omega))) only [rdT,rdS,Nat.zero_add,tab_len,tab_get,true_and])
end Go.AL.Rl
namespace Go.AL.Rl
open Go Go.AL Go.Proofs
set_option maxRecDepth 100000
variable {γ:Nat→Option AV}
def idsI (x:Nat):List EId:=(List.range x).map fun k=>⟨0,(k:Nat)⟩
def idsE (t i:Nat):List EId:=(List.range i).map fun k=>⟨t+1,(k:Nat)⟩
def idsT (g:Gr) (t:Nat):List EId:=(List.range t).flatMap fun k=>idsE k (g.th.getD k []).length
def idsG (g:Gr):List EId:=idsI g.init.length++idsT g g.th.length
def evsI (g:Gr) (x:Nat):List Ev:=(List.range x).map fun k=>⟨2,(k:Nat),1,0,g.init.getD k 0⟩
def evsT (g:Gr) (t:Nat):List Ev:=(List.range t).flatMap fun k=>g.th.getD k []
def evsG (g:Gr):List Ev:=evsI g g.init.length++evsT g g.th.length
theorem idsI_succ (x:Nat):idsI (x+1)=idsI x++[⟨0,x⟩]:=by simp [idsI,List.range_succ]
theorem idsE_succ (t i:Nat):idsE t (i+1)=idsE t i++[⟨t+1,i⟩]:=by simp [idsE,List.range_succ]
theorem idsT_succ (g:Gr) (t:Nat):idsT g (t+1)=idsT g t++idsE t (g.th.getD t []).length:=by simp [idsT,List.range_succ,List.flatMap_append]
theorem evsI_succ (g:Gr) (x:Nat):evsI g (x+1)=evsI g x++[⟨2,x,1,0,g.init.getD x 0⟩]:=by simp [evsI,List.range_succ]
theorem evsT_succ (g:Gr) (t:Nat):evsT g (t+1)=evsT g t++g.th.getD t []:=by simp [evsT,List.range_succ,List.flatMap_append]
theorem idsI_len (x:Nat):(idsI x).length=x:=by simp [idsI]
theorem idsE_len (t i:Nat):(idsE t i).length=i:=by simp [idsE]
theorem evsI_len (g:Gr) (x:Nat):(evsI g x).length=x:=by simp [evsI]
theorem idsT_len (g:Gr):∀ t,(idsT g t).length=(evsT g t).length
 | 0=>rfl
 | t+1=>by rw [idsT_succ,evsT_succ,List.length_append,List.length_append,idsT_len g t,idsE_len]
theorem evsT_len {g:Gr} (h:Short g):∀ t,(evsT g t).length≤14 * t
 | 0=>by simp [evsT]
 | t+1=>by rw [evsT_succ,List.length_append];have:=evsT_len h t;have:=h.at t;omega
theorem idsG_len (g:Gr):(idsG g).length=(evsG g).length:=by simp [idsG,evsG,idsI_len,evsI_len,idsT_len]
theorem evsG_len {g:Gr} (h:Short g):(evsG g).length≤62:=by
 have:=evsT_len h g.th.length
 have:=h.th;have:=h.init
 simp only [evsG,List.length_append,evsI_len];omega
theorem idsI_mem {x:Nat} {d:EId}:d∈idsI x↔d.t=0∧0≤d.i∧d.i<x:=by
 simp only [idsI,List.mem_map,List.mem_range]
 constructor
 ·rintro ⟨k,hk,rfl⟩;exact ⟨rfl,by simp only;omega,by simp only;omega⟩
 ·rintro ⟨h1,h2,h3⟩;exact ⟨d.i.toNat,by omega,EId.ext' (by simp only;omega) (by simp only;omega)⟩
theorem idsE_mem {t i:Nat} {d:EId}:d∈idsE t i↔d.t=t+1∧0≤d.i∧d.i<i:=by
 simp only [idsE,List.mem_map,List.mem_range]
 constructor
 ·rintro ⟨k,hk,rfl⟩;exact ⟨rfl,by simp only;omega,by simp only;omega⟩
 ·rintro ⟨h1,h2,h3⟩;exact ⟨d.i.toNat,by omega,EId.ext' (by simp only;omega) (by simp only;omega)⟩
theorem idsT_mem {g:Gr} {t:Nat} {d:EId}:d∈idsT g t↔1≤d.t∧d.t≤t∧0≤d.i∧d.i<(g.th.getD (d.t-1).toNat []).length:=by
 simp only [idsT,List.mem_flatMap,List.mem_range,idsE_mem]
 constructor
 ·rintro ⟨k,hk,h1,h2,h3⟩
  have:(d.t-1).toNat=k:=by omega
  rw [this];exact ⟨by omega,by omega,h2,h3⟩
 ·rintro ⟨h1,h2,h3,h4⟩
  exact ⟨(d.t-1).toNat,by omega,by omega,h3,h4⟩
theorem idsG_mem {g:Gr} {d:EId}:d∈idsG g↔(eventM g d).isSome=true:=by
 rw [idsG,List.mem_append,idsI_mem,idsT_mem]
 unfold eventM
 by_cases h0:d.t=0
 ·rw [if_pos h0]
  by_cases h1:0≤d.i∧d.i<g.init.length
  ·rw [if_pos h1];simp [h0,h1]
  ·rw [if_neg h1];simp [h0];omega
 ·rw [if_neg h0]
  by_cases h1:0<d.t∧d.t≤g.th.length∧0≤d.i∧d.i<(g.th.getD (d.t-1).toNat []).length
  ·rw [if_pos h1];simp only [Option.isSome_some,iff_true];right;omega
  ·rw [if_neg h1];simp only [Option.isSome_none,Bool.false_eq_true,iff_false];omega
theorem nodup_map_range {α:Type} (f:Nat→α) (hf:∀ a b,f a=f b→a=b) (n:Nat):((List.range n).map f).Nodup:=by
 unfold List.Nodup
 rw [List.pairwise_map]
 exact (List.nodup_range (n:=n)).imp fun hab he=>hab (hf _ _ he)
theorem idsI_nodup (x:Nat):(idsI x).Nodup:=nodup_map_range _ (fun a b h=>by have:=congrArg EId.i h;simp at this;omega) x
theorem idsE_nodup (t i:Nat):(idsE t i).Nodup:=nodup_map_range _ (fun a b h=>by have:=congrArg EId.i h;simp at this;omega) i
theorem idsT_nodup (g:Gr):∀ t,(idsT g t).Nodup
 | 0=>by simp [idsT]
 | t+1=>by
  rw [idsT_succ,List.nodup_append]
  refine ⟨idsT_nodup g t,idsE_nodup _ _,fun a ha b hb=>?_⟩
  rw [idsT_mem] at ha
  rw [idsE_mem] at hb
  rintro rfl
  omega
theorem idsG_nodup (g:Gr):(idsG g).Nodup:=by
 rw [idsG,List.nodup_append]
 refine ⟨idsI_nodup _,idsT_nodup _ _,fun a ha b hb=>?_⟩
 rw [idsI_mem] at ha
 rw [idsT_mem] at hb
 rintro rfl
 omega
theorem evsT_get (g:Gr):∀ (t k:Nat),t≤g.th.length→k<(idsT g t).length→eventM g ((idsT g t).getD k id0)=some ((evsT g t).getD k ev0)
 | 0,k,_,h=>by simp [idsT] at h
 | t+1,k,ht,h=>by
  have hl:=idsT_len g t
  rw [idsT_succ] at h ⊢
  rw [evsT_succ]
  rcases Nat.lt_or_ge k (idsT g t).length with hk | hk
  ·have ih:=evsT_get g t k (by omega) hk
   rw [List.getD_eq_getElem?_getD,List.getElem?_append_left hk,←List.getD_eq_getElem?_getD,ih,List.getD_eq_getElem?_getD,List.getD_eq_getElem?_getD,List.getElem?_append_left (by omega)]
  ·rw [List.length_append,idsE_len] at h
   have hj:k-(idsT g t).length<(g.th.getD t []).length:=by omega
   have e:(idsE t (g.th.getD t []).length)[k-(idsT g t).length]?.getD id0=⟨t+1,((k-(idsT g t).length:Nat):Int)⟩:=by
    simp only [idsE,List.getElem?_map,List.getElem?_range hj,Option.map_some,Option.getD_some]
   have e2:(idsT g t++idsE t (g.th.getD t []).length).getD k id0=⟨t+1,((k-(idsT g t).length:Nat):Int)⟩:=by
    rw [List.getD_eq_getElem?_getD,List.getElem?_append_right hk];exact e
   have e3:(evsT g t++g.th.getD t []).getD k ev0=(g.th.getD t []).getD (k-(idsT g t).length) ev0:=by
    rw [List.getD_eq_getElem?_getD,List.getElem?_append_right (by omega),←hl,←List.getD_eq_getElem?_getD]
   rw [e2,e3,event_thread (by omega) hj]
theorem evsG_get (g:Gr) (k:Nat) (h:k<(idsG g).length):eventM g ((idsG g).getD k id0)=some ((evsG g).getD k ev0):=by
 unfold idsG evsG at *
 rcases Nat.lt_or_ge k g.init.length with hk | hk
 ·rw [List.getD_eq_getElem?_getD,List.getElem?_append_left (by rw [idsI_len];exact hk),List.getD_eq_getElem?_getD,List.getElem?_append_left (by rw [evsI_len];exact hk)]
  simp only [idsI,evsI,List.getElem?_map,List.getElem?_range hk,Option.map_some,Option.getD_some]
  unfold eventM
  rw [if_pos rfl,if_pos ⟨by simp only;omega,by simp only;omega⟩]
  simp
 ·rw [List.length_append,idsI_len] at h
  rw [List.getD_eq_getElem?_getD,List.getElem?_append_right (by rw [idsI_len];exact hk),List.getD_eq_getElem?_getD,List.getElem?_append_right (by rw [evsI_len];exact hk),idsI_len,evsI_len,←List.getD_eq_getElem?_getD,←List.getD_eq_getElem?_getD]
  exact evsT_get g _ _ (Nat.le_refl _) (by omega)
theorem getD_inj {l:List EId} (h:l.Nodup) {i j:Nat} (hi:i<l.length) (hj:j<l.length) (he:l.getD i id0=l.getD j id0):i=j:=by
 unfold List.Nodup at h
 rw [List.pairwise_iff_getElem] at h
 simp only [List.getD_eq_getElem?_getD,List.getElem?_eq_getElem hi,List.getElem?_eq_getElem hj,Option.getD_some] at he
 rcases Nat.lt_trichotomy i j with h1 | h1 | h1
 ·exact absurd he (h i j hi hj h1)
 ·exact h1
 ·exact absurd he.symm (h j i hj hi h1)
def numOf (l:List EId) (d:EId):Nat:=(l.findIdx? fun x=>decide (x=d)).getD 0
theorem numOf_find {l:List EId} {d:EId} (h:d∈l):(l.findIdx? fun x=>decide (x=d))=some (numOf l d):=by
 unfold numOf
 cases hf:l.findIdx? fun x=>decide (x=d) with
 | some i=>rfl
 | none=>
  rw [List.findIdx?_eq_none_iff] at hf
  have:=hf d h
  simp at this
theorem numOf_spec {l:List EId} {d:EId} (h:d∈l):∃ hl:numOf l d<l.length,l[numOf l d]=d:=by
 have:=numOf_find h
 rw [List.findIdx?_eq_some_iff_getElem] at this
 obtain ⟨h1,h2,_⟩:=this
 exact ⟨h1,by simpa using h2⟩
theorem numOf_lt {l:List EId} {d:EId} (h:d∈l):numOf l d<l.length:=(numOf_spec h).1
theorem numOf_get {l:List EId} {d:EId} (h:d∈l):l.getD (numOf l d) id0=d:=by
 obtain ⟨h1,h2⟩:=numOf_spec h
 rw [List.getD_eq_getElem?_getD,List.getElem?_eq_getElem h1]
 exact h2
theorem numOf_at {l:List EId} (h:l.Nodup) {k:Nat} (hk:k<l.length):numOf l (l.getD k id0)=k:=
 getD_inj h (numOf_lt (getD_mem hk)) hk (numOf_get (getD_mem hk))
def tabI (n:Nat) (f:Nat→Int):List Int:=(List.range n).map f
@[simp] theorem tabI_len (n:Nat) (f:Nat→Int):(tabI n f).length=n:=by simp [tabI]
theorem tabI_get (n:Nat) (f:Nat→Int) (i:Nat) (h:i<n):(tabI n f).getD i 0=f i:=by simp [tabI,h]
theorem tabI_congr {n:Nat} {f g:Nat→Int} (h:∀ i<n,f i=g i):tabI n f=tabI n g:=List.map_congr_left fun i hi=>h i (by simpa using hi)
theorem tabI_zero (n:Nat):tabI n (fun _=>0)=List.replicate n 0:=by
 apply List.ext_getElem<;>simp [tabI]
theorem istab_get (n:Nat) (f:Nat→Int) (r:Nat) (h:r<n):(is (tabI n f)).l.getD r .any=.i fun _=>f r:=by
 rw [is_get _ r (by rw [tabI_len];exact h),tabI_get n f r h]
def srcOf (g:Gr) (d:EId):EId:=(g.fr.getD (d.t-1).toNat []).getD d.i.toNat id0
def frOf (g:Gr) (d:EId):Int:=if d.t=0 then -1 else if readsM ((eventM g d).getD ev0)=true then (numOf (idsG g) (srcOf g d):Nat) else -1
def plOf (g:Gr) (d:EId):Int:=if d.t=0 then 0 else match (g.ord.getD ((eventM g d).getD ev0).loc.toNat []).findIdx? (fun x=>decide (x=d)) with | some k=>(k:Nat)+1 | none=>-1
def nG (g:Gr):Nat:=(idsG g).length
def viewG (g:Gr):Vw:=⟨idsG g,evsG g,tabI (nG g) fun m=>frOf g ((idsG g).getD m id0),tabI (nG g) fun m=>plOf g ((idsG g).getD m id0)⟩
theorem source_mem {g:Gr} {d f:EId} (h:sourceM g d f=true) (hr:readsM ((eventM g d).getD ev0)=true):∃ w,eventM g f=some w∧f≠d∧writesM w=true∧w.loc=((eventM g d).getD ev0).loc∧w.wr=((eventM g d).getD ev0).rd:=by
 unfold sourceM at h
 rw [if_pos hr] at h
 split at h
 ·rename_i w hw
  simp only [Bool.and_eq_true,decide_eq_true_eq] at h
  exact ⟨w,hw,h.1.1.1,h.1.1.2,h.1.2,h.2⟩
 ·cases h
theorem src_ok {g:Gr} (hg:GOk g) {d:EId} (hd:d∈idsG g) (h0:d.t≠0):sourceM g d (srcOf g d)=true:=by
 rw [idsG,List.mem_append,idsI_mem,idsT_mem] at hd
 rcases hd with hd | hd
 ·exact absurd hd.1 h0
 ·have:=hg.sources (d.t-1).toNat (by omega) d.i.toNat (by omega)
  have e:(⟨((d.t-1).toNat:Nat)+1,(d.i.toNat:Nat)⟩:EId)=d:=EId.ext' (by simp only;omega) (by simp only;omega)
  rw [e] at this
  exact this
theorem viewG_wf {g:Gr} (hg:GOk g):Wf (viewG g) (nG g):=by
 have hn:nG g≤62:=by unfold nG;rw [idsG_len];exact evsG_len hg.short
 refine ⟨rfl,(idsG_len g).symm,by simp [viewG],by simp [viewG],hn,fun i hi=>?_,fun i hi hr=>?_⟩
 ·simp only [viewG]
  rw [tabI_get _ _ _ hi]
  have hm:(idsG g).getD i id0∈idsG g:=getD_mem hi
  unfold frOf
  split
  ·omega
  ·rename_i h0
   split
   ·rename_i hr
    obtain ⟨w,hw,_⟩:=source_mem (src_ok hg hm h0) hr
    have:=numOf_lt (idsG_mem.2 (by rw [hw];rfl))
    unfold nG;omega
   ·omega
 ·simp only [viewG] at hr ⊢
  rw [tabI_get _ _ _ hi]
  have he:=evsG_get g i hi
  unfold frOf
  rw [he,Option.getD_some,if_pos hr]
  split
  ·rename_i h0
   exfalso
   unfold eventM at he
   rw [if_pos h0] at he
   split at he
   ·have:=Option.some.inj he
    rw [←this] at hr
    simp [readsM] at hr
   ·cases he
  ·omega
end Go.AL.Rl
namespace Go.AL.Rl
open Go Go.AL Go.Proofs
set_option maxRecDepth 100000
set_option maxHeartbeats 1600000
variable {γ:Nat→Option AV}
def iota (m:Nat):List Int:=(List.range m).map fun k=>((k:Nat):Int)
theorem iota_succ (m:Nat):iota (m+1)=iota m++[(m:Int)]:=by simp [iota,List.range_succ]
theorem iota_len (m:Nat):(iota m).length=m:=by simp [iota]
theorem ids_of (a:List EId):LV.of (ids a).l=ids a:=by simp [ids]
theorem evs_of (a:List Ev):LV.of (evs a).l=evs a:=by simp [evs]
theorem ids_app (a b:List EId):(ids a).l++(ids b).l=(ids (a++b)).l:=by simp [ids]
theorem evs_app (a b:List Ev):(evs a).l++(evs b).l=(evs (a++b)).l:=by simp [evs]
def vhp (g:Gr) (L:List EId) (E:List Ev) (m:Nat):List Blk:=
 [.box (aGr g),.box (.agg [.sl 5 m 2 (fun _=>0) fun _=>L.length,.sl 6 m 5 (fun _=>0) fun _=>E.length,.nils,.nils]),.box (.ptr 1 0),.map (fun _=>ids L) (fun _=>is (iota L.length)),.box (.mp 3),.run m 2 fun _=>ids L,.run m 5 fun _=>evs E]
theorem put0_ok (g:Gr)  (L:List EId) (Es:List Ev) (m:Nat) (hl:L.length=Es.length) (hm:L.length≤100) (d:EId) (e:Ev) (hd:d∉L) (L':List EId) (Es':List Ev) (m':Nat) (hL':L'=L++[d]) (hE':Es'=Es++[e]) (hm':m'=m+1) :
  SCalls Tryz.prog γ 96 [aId d,aEv e,.ptr 2 0,.ptr 4 0] (vhp g L Es m++[]) (Post (.tup []) (vhp g L' Es' m'++[])):=by
 refine SCalls.go (ty:=ty) ty_eq mo Tryz.func96 rfl Tryz.ntmps96 Tryz.results96 Tryz.call96 (by simp) fun P C CQ D W F E hF=>?_
 cbv
 skip
 skip
 repeat' (first
  |(refine E.de 8 [3,5,6] [] (by decide +kernel) ?_;cbv;(fail_if_success guard_target =~ False))
  |(refine ⟨fun _ h_s=>?_,fun _ h_s=>?_⟩<;>(cbv;(try simp only [nc] at *);try simp (disch:=(first|omega|(simp only [lnS];omega))) only [rdT,rdS,reduceCtorEq,trT] at h_s))
  |(refine hF ?_;intro _;clear hF)
  |(refine hF ?_;cbv;clear hF)
  |(refine ⟨fun _=>?_,?_⟩;(· ((try simp only [nc] at *);first|done|omega|exact ⟨by omega,rfl⟩|(simp (disch:=(first|omega|(simp only [lnS];omega))) only [rdT,rdS];first|done|omega|rfl|exact ⟨by omega,rfl⟩|(simp;done)|(simp;omega))|(intros;trivial)|exact mok_ids _|exact ⟨by first|trivial|rfl,by first|trivial|rfl|simp,by first|trivial|simp,by simp;omega,by simp;omega,by simp [AV.flat,AV.cells,AV.one]⟩));try cbv)
  |(refine E.d 7 (by decide +kernel) ?_;cbv;(fail_if_success guard_target =~ False))
  | fail
 )
 have k1:=mput_new L d hd _ (knums_id d) _ rfl
 have k2:=mputV_new L d hd _ (knums_id d) (iota L.length) L.length _ rfl
 refine ⟨by simp,⟨⟨fun _=>⟨by omega,rfl,by simp [hL']⟩,fun _=>⟨by omega,rfl,by simp [hE']⟩,trivial⟩,by simp⟩,?_⟩
 refine ⟨fun _=>⟨k1.trans (by rw [hL']),k2.trans (by rw [hL',List.length_append,List.length_singleton,iota_succ])⟩,fun _=>⟨by omega,?_⟩,fun _=>⟨by omega,?_⟩,by trivial⟩
 ·show LV.of ((ids L).l++(ids [d]).l)=ids L'
  rw [ids_app,ids_of,hL']
 ·show LV.of ((evs Es).l++(evs [e]).l)=evs Es'
  rw [evs_app,evs_of,hE']
theorem put1_ok (g:Gr) (X:Blk) (L:List EId) (Es:List Ev) (m:Nat) (hl:L.length=Es.length) (hm:L.length≤100) (d:EId) (e:Ev) (hd:d∉L) (L':List EId) (Es':List Ev) (m':Nat) (hL':L'=L++[d]) (hE':Es'=Es++[e]) (hm':m'=m+1) :
  SCalls Tryz.prog γ 96 [aId d,aEv e,.ptr 2 0,.ptr 4 0] (vhp g L Es m++[X]) (Post (.tup []) (vhp g L' Es' m'++[.any])):=by
 refine SCalls.go (ty:=ty) ty_eq mo Tryz.func96 rfl Tryz.ntmps96 Tryz.results96 Tryz.call96 (by simp) fun P C CQ D W F E hF=>?_
 cbv
 skip
 skip
 repeat' (first
  |(refine E.de 8 [3,5,6] [] (by decide +kernel) ?_;cbv;(fail_if_success guard_target =~ False))
  |(refine ⟨fun _ h_s=>?_,fun _ h_s=>?_⟩<;>(cbv;(try simp only [nc] at *);try simp (disch:=(first|omega|(simp only [lnS];omega))) only [rdT,rdS,reduceCtorEq,trT] at h_s))
  |(refine hF ?_;intro _;clear hF)
  |(refine hF ?_;cbv;clear hF)
  |(refine ⟨fun _=>?_,?_⟩;(· ((try simp only [nc] at *);first|done|omega|exact ⟨by omega,rfl⟩|(simp (disch:=(first|omega|(simp only [lnS];omega))) only [rdT,rdS];first|done|omega|rfl|exact ⟨by omega,rfl⟩|(simp;done)|(simp;omega))|(intros;trivial)|exact mok_ids _|exact ⟨by first|trivial|rfl,by first|trivial|rfl|simp,by first|trivial|simp,by simp;omega,by simp;omega,by simp [AV.flat,AV.cells,AV.one]⟩|exact mok_ids _|exact ⟨by first|trivial|rfl,by first|trivial|rfl|simp,by first|trivial|simp,by simp;omega,by simp;omega,by simp [AV.flat,AV.cells,AV.one]⟩));try cbv)
  |(refine E.d 7 (by decide +kernel) ?_;cbv;(fail_if_success guard_target =~ False))
  | fail
 )
 have k1:=mput_new L d hd _ (knums_id d) _ rfl
 have k2:=mputV_new L d hd _ (knums_id d) (iota L.length) L.length _ rfl
 refine ⟨by simp,⟨⟨fun _=>⟨by omega,rfl,by simp [hL']⟩,fun _=>⟨by omega,rfl,by simp [hE']⟩,trivial⟩,by simp⟩,?_⟩
 refine ⟨fun _=>⟨k1.trans (by rw [hL']),k2.trans (by rw [hL',List.length_append,List.length_singleton,iota_succ])⟩,fun _=>⟨by omega,?_⟩,fun _=>⟨by omega,?_⟩,by trivial⟩
 ·show LV.of ((ids L).l++(ids [d]).l)=ids L'
  rw [ids_app,ids_of,hL']
 ·show LV.of ((evs Es).l++(evs [e]).l)=evs Es'
  rw [evs_app,evs_of,hE']
theorem lk_num (L:List EId) (s:EId) (hs:s∈L) (k:List Int) (hk:k=[s.t,s.i]) (z:AV):((mval (mfind [.i,.i] (ids L) k) (is (iota L.length)) z).at 0).asI=(numOf L s:Nat):=by
 subst hk
 rw [mfind_ids,numOf_find hs]
 simp only [mval]
 have:=numOf_lt hs
 rw [is_get _ _ (by rw [iota_len];exact this)]
 simp only [at_i]
 simp [iota,this]
def plInit (d:EId):Int:=if d.t=0 then 0 else -1
def plTo (g:Gr) (q:List (EId × Int)) (d:EId):Int:=if d∈q.map (·.1) then plOf g d else plInit d
theorem qsT_keys {g:Gr} {n:Nat} {d:EId}:d∈(qsT g n).map (·.1)↔∃ x<n,d∈g.ord.getD x []:=by
 simp only [qsT,List.mem_map,List.mem_flatMap,List.mem_range]
 constructor
 ·rintro ⟨p,⟨x,hx,d',hd',rfl⟩,rfl⟩;exact ⟨x,hx,hd'⟩
 ·rintro ⟨x,hx,hd⟩;exact ⟨_,⟨x,hx,d,hd,rfl⟩,rfl⟩
theorem isW_event {g:Gr} {x:Int} {d:EId} (h:isW g x d=true):∃ e,eventM g d=some e∧d.t≠0∧writesM e=true∧e.loc=x:=by
 unfold isW at h
 split at h
 ·rename_i e he
  simp only [Bool.and_eq_true,decide_eq_true_eq] at h
  exact ⟨e,he,h.1.1,h.1.2,h.2⟩
 ·cases h
theorem plTo_all {g:Gr} (hg:GOk g) (d:EId):plTo g (qsT g g.ord.length) d=plOf g d:=by
 unfold plTo
 split
 ·rfl
 ·rename_i h
  rw [qsT_keys] at h
  unfold plInit plOf
  split
  ·rfl
  ·split
   ·rename_i k hk
    exfalso
    rw [List.findIdx?_eq_some_iff_getElem] at hk
    obtain ⟨h1,h2,_⟩:=hk
    refine h ⟨((eventM g d).getD ev0).loc.toNat,?_,?_⟩
    ·rcases Nat.lt_or_ge ((eventM g d).getD ev0).loc.toNat g.ord.length with hc | hc
     ·exact hc
     ·exfalso
      rw [List.getD_eq_getElem?_getD,List.getElem?_eq_none hc] at h1
      simp at h1
    ·have:=List.getElem_mem h1
     simp only [decide_eq_true_eq] at h2
     rw [h2] at this
     exact this
   ·rfl
theorem plOf_at {g:Gr} (hg:GOk g) {x i:Nat} (hx:x<g.ord.length) (hi:i<(g.ord.getD x []).length):plOf g ((g.ord.getD x []).getD i id0)=i+1:=by
 obtain ⟨h1,h2,h3⟩:=(ordered_iff g x).1 (hg.orders x (by have:=hg.lord;omega))
 obtain ⟨e,he,h0,hw,hl⟩:=isW_event (h2 _ (getD_mem hi))
 unfold plOf
 rw [if_neg h0,he,Option.getD_some,hl,Int.toNat_natCast]
 have:(g.ord.getD x []).findIdx? (fun z=>decide (z=(g.ord.getD x []).getD i id0))=some i:=by
  have hm:(g.ord.getD x []).getD i id0∈g.ord.getD x []:=getD_mem hi
  have:=numOf_find hm
  rw [this,numOf_at h1 hi]
 rw [this]
theorem ord_mem {g:Gr} (hg:GOk g) {x i:Nat} (hx:x<g.ord.length) (hi:i<(g.ord.getD x []).length):(g.ord.getD x []).getD i id0∈idsG g:=by
 obtain ⟨h1,h2,h3⟩:=(ordered_iff g x).1 (hg.orders x (by have:=hg.lord;omega))
 obtain ⟨e,he,h0,hw,hl⟩:=isW_event (h2 _ (getD_mem hi))
 rw [idsG_mem,he];rfl
theorem ids_where {g:Gr} (hg:GOk g) {k:Nat} (hk:k<(idsG g).length) (h0:((idsG g).getD k id0).t≠0) :
  0≤((idsG g).getD k id0).t-1∧(((idsG g).getD k id0).t-1).toNat<g.fr.length∧((idsG g).getD k id0).t≤4∧0≤((idsG g).getD k id0).i∧((idsG g).getD k id0).i.toNat<(g.fr.getD (((idsG g).getD k id0).t-1).toNat []).length:=by
 have hm:(idsG g).getD k id0∈idsG g:=getD_mem hk
 rw [idsG,List.mem_append,idsI_mem,idsT_mem,←idsG] at hm
 rcases hm with hm | hm
 ·exact absurd hm.1 h0
 ·have h1:=hg.lfr
  have h2:=hg.short.th
  have h3:=(hg.events (((idsG g).getD k id0).t-1).toNat (by omega)).1
  refine ⟨by omega,by omega,by omega,hm.2.2.1,by omega⟩
end Go.AL.Rl
namespace Go.AL.Rl
open Go Go.AL Go.Proofs
set_option maxRecDepth 100000
set_option maxHeartbeats 3200000
variable {γ:Nat→Option AV}
theorem viewOf_no (g:Gr) (hg:Rd g) (h:¬ GOk g):Pure Tryz.prog γ false 62 [aGr g] (.tup [.np,.b fun _=>false]):=by
 have hc:gcheckM g≠0:=by unfold gcheckM;split<;>simp [h]
 refine Pure.go (ty:=ty) ty_eq mo Tryz.func62 rfl Tryz.ntmps62 Tryz.results62 Tryz.call62 (by simp) fun P C CQ D W F E hF=>?_
 cbv
 refine E.c (SCalls.of_le (gcheck_ok g hg) ?_ ?_)
 ·(cbv;(try simp only [nc] at *);first|done|(simp;done)|(simp (disch:=(first|omega|(simp only [lnS];omega))) only [rdT,rdS,anT];first|done|omega|(refine ⟨?_,?_⟩<;>omega))|(simp (disch:=(first|omega|(simp only [lnS];omega))) [rdT,rdS];done))
 cbv
 refine br_t (by simpa using hc) ?_
 cbv
 refine hF ?_
 cbv
 simp
theorem stI (n:Nat) (f:Nat→Int) (i:Nat) (y x:Int) (hi:i<n):LV.of ((is (tabI n f)).l.set i ((AV.i fun _=>y).upd 0 (.i fun _=>x)))=is (tabI n fun j=>if j=i then x else f j):=by
 simp only [is,LV.l_of]
 show LV.of (List.set _ _ (.i fun _=>x))=_
 congr 1
 apply List.ext_getElem (by simp)
 intro j h1 h2
 simp only [List.getElem_set,tabI,List.getElem_map,List.getElem_range]
 split
 ·rename_i e;subst e;simp
 ·rename_i e;simp [Ne.symm e]
def vhpF (g:Gr) (L:List EId) (E:List Ev) (n:Nat) (pl:Nat→Int):List Blk:=
 [.box (aGr g),.box (.agg [.sl 5 n 2 (fun _=>0) fun _=>L.length,.sl 6 n 5 (fun _=>0) fun _=>E.length,.sl 7 1 1 (fun _=>0) fun _=>L.length,.sl 8 1 1 (fun _=>0) fun _=>L.length]),.box (.ptr 1 0),.map (fun _=>ids L) (fun _=>is (iota L.length)),.box (.mp 3),.run n 2 fun _=>ids L,.run n 5 fun _=>evs E,.run 1 1 fun _=>is (tabI n fun m=>frOf g (L.getD m id0)),.run 1 1 fun _=>is (tabI n pl)]
theorem ordsAt {g:Gr} (hg:Rd g) (x:Nat):((g.ord.getD x []).length:Int)≤9223372036854775807:=by
 rcases Nat.lt_or_ge x g.ord.length with h1 | h1
 ·exact hg.ords _ (getD_mem h1)
 ·simp [List.getElem?_eq_none h1]
theorem plTo_step {g:Gr} (hg:GOk g) {x i:Nat} (hx:x<g.ord.length) (hi:i<(g.ord.getD x []).length) {m:Nat} (hm:m<(idsG g).length) :
  (if m=numOf (idsG g) ((g.ord.getD x []).getD i id0) then ((i:Int)+1) else plTo g (qsT g x++qsE g x i) ((idsG g).getD m id0))=plTo g (qsT g x++qsE g x (i+1)) ((idsG g).getD m id0):=by
 have hd:=ord_mem hg hx hi
 rw [qsE_succ g x i hi,←List.append_assoc]
 by_cases e:m=numOf (idsG g) ((g.ord.getD x []).getD i id0)
 ·rw [if_pos e,e,numOf_get hd,plTo,if_pos (by simp),plOf_at hg hx hi]
 ·rw [if_neg e]
  have e2:(idsG g).getD m id0≠(g.ord.getD x []).getD i id0:=fun e3=>e (by rw [←e3,numOf_at (idsG_nodup g) hm])
  unfold plTo
  have:((idsG g).getD m id0∈((qsT g x++qsE g x i)++[((g.ord.getD x []).getD i id0,(x:Int))]).map (·.1))↔((idsG g).getD m id0∈(qsT g x++qsE g x i).map (·.1)):=by
   rw [List.map_append,List.mem_append]
   simp only [List.map_cons,List.map_nil,List.mem_singleton,e2,or_false]
  simp only [this]
theorem viewOf_yes (g:Gr) (hg:Rd g) (h:GOk g):Pure Tryz.prog γ false 62 [aGr g] (.tup [pVw (viewG g),.b fun _=>true]):=by
 have hc:=gcheck0 h
 have hsh:=h.short
 have hin:=hsh.init
 have hth:=hsh.th
 have hwf:=viewG_wf h
 have hn:=hwf.small
 obtain ⟨Lf,hLf⟩:∃ L,L=idsG g:=⟨_,rfl⟩
 obtain ⟨Mf,hMf⟩:∃ L,L=evsG g:=⟨_,rfl⟩
 obtain ⟨n,hnn⟩:∃ n,n=nG g:=⟨_,rfl⟩
 have hLn:Lf.length=n:=by rw [hLf,hnn];rfl
 have hMn:Mf.length=n:=by rw [hMf,hnn];exact hwf.ev
 refine Pure.goL (ty:=ty) ty_eq mo Tryz.func62 rfl Tryz.ntmps62 Tryz.results62 Tryz.call62 (by simp) fun P C CQ D W F E hF=>?_
 refine E.cut 10 (told 165 [(1,.ptr 0 0),(4,.ptr 2 0),(5,.ptr 4 0)] (vhp g Lf Mf n)) (by kernel_rfl) (Nat.zero_le _) (fun I hI=>?_) ?_
 ·cbv
  refine E.c (SCalls.of_le (gcheck_ok g hg) ?_ ?_)
  ·(cbv;(try simp only [nc] at *);first|done|(simp;done)|(simp (disch:=(first|omega|(simp only [lnS];omega))) only [rdT,rdS,anT];first|done|omega|(refine ⟨?_,?_⟩<;>omega))|(simp (disch:=(first|omega|(simp only [lnS];omega))) [rdT,rdS];done))
  cbv
  refine br_f (by simp [hc]) ?_
  cbv
  refine E.w (AWP.ghostField 1 0 2 rfl rfl ?_)
  refine AWP.ghostField 1 1 5 rfl rfl ?_
  obtain ⟨G,hG⟩:∃ G:Nat→Nat,∀ x,G x=x:=⟨_,fun _=>rfl⟩
  obtain ⟨L,hL⟩:∃ L:Nat→List EId,∀ x,L x=idsI x:=⟨_,fun _=>rfl⟩
  obtain ⟨M,hM⟩:∃ M:Nat→List Ev,∀ x,M x=evsI g x:=⟨_,fun _=>rfl⟩
  have hL0:L 0=[]:=by rw [hL];rfl
  have hM0:M 0=[]:=by rw [hM];rfl
  refine E.loopSA (ι:=Nat) (fun x=>x≤g.init.length) (fun x=>g.init.length-x) (fun x=>[(29,.i fun _=>((x:Nat):Int))]) (fun x h=>vhp g (L x) (M x) (G x)) 0 (fun _=>by first|rfl|simp) (Nat.zero_le _) ?_ fun x hx I0 hI0=>?_
  ·cbv
   simp [hL0,hM0,hG,ids,evs,LV.of,is,iota]
  cbv
  have hput:=put0_ok (γ:=γ) g (L x) (M x) (G x) (by rw [hL,hM,idsI_len,evsI_len]) (by rw [hL,idsI_len];omega) ⟨0,x⟩ ⟨2,x,1,0,g.init.getD x 0⟩ (by rw [hL,idsI_mem];simp only;omega) (L (x+1)) (M (x+1)) (G (x+1)) (by rw [hL,hL,idsI_succ]) (by rw [hM,hM,evsI_succ]) (by rw [hG,hG])
  repeat' (first
   |(refine hI0 (x+1) ?_ ?_ ?_;rotate_left 1;(· ((try simp only [nc] at *);omega));(cbv;clear hI0;(try clear hF);(try simp only [nc] at *);(try simp (disch:=(first|omega|(simp only [lnS];omega))) only [rdT,rdS,anT]));rotate_left 1;(try ((try simp only [nc] at *);omega)))
   |(refine E.c (SCalls.to (hput) rfl (Nat.le_of_ble_eq_true rfl) ?_ ?_ ?_);(· (cbv;(try simp only [nc] at *);first|done|(simp;done)|(simp (disch:=(first|omega|(simp only [lnS];omega))) only [rdT,rdS,anT];first|done|omega|(refine ⟨?_,?_⟩<;>omega))|(simp (disch:=(first|omega|(simp only [lnS];omega))) [rdT,rdS];done)));(· (cbv;(try simp only [nc] at *);first|done|(simp;done)|(simp (disch:=(first|omega|(simp only [lnS];omega))) only [rdT,rdS,anT];first|done|omega|(refine ⟨?_,?_⟩<;>omega))|(simp (disch:=(first|omega|(simp only [lnS];omega))) [rdT,rdS];done)));cbv)
   |(refine ⟨fun _ h_s=>?_,fun _ h_s=>?_⟩<;>(cbv;(try simp only [nc] at *);try simp (disch:=(first|omega|(simp only [lnS];omega))) only [rdT,rdS,reduceCtorEq,trT] at h_s))
   |(refine hF ?_;intro _;clear hF)
   |(refine hF ?_;cbv;clear hF)
   |(refine ⟨fun _=>?_,?_⟩;(· ((try simp only [nc] at *);first|done|omega|exact ⟨by omega,rfl⟩|(simp (disch:=(first|omega|(simp only [lnS];omega))) only [rdT,rdS];first|done|omega|rfl|exact ⟨by omega,rfl⟩|(simp;done)|(simp;omega))|(intros;trivial)));(try (simp only [nc] at *));(try simp (disch:=(first|omega|(simp only [lnS];omega))) only [rdT,rdS]);(try cbv))
   |(refine E.d 9 (by decide +kernel) ?_;cbv;(fail_if_success guard_target =~ False))
   |(refine E.d 18 (by decide +kernel) ?_;cbv;(fail_if_success guard_target =~ False))
   | fail
  )
  ·omega
  clear hI0
  (try simp only [nc] at *)
  have e:x=g.init.length:=by omega
  subst e
  have e1:L g.init.length=idsI g.init.length++idsT g 0:=by rw [hL];simp [idsT]
  have e2:M g.init.length=evsI g g.init.length++evsT g 0:=by rw [hM];simp [evsT]
  obtain ⟨L2,hL2⟩:∃ L2:Nat→Nat→List EId,∀ t i,L2 t i=idsI g.init.length++idsT g t++idsE t i:=⟨_,fun _ _=>rfl⟩
  obtain ⟨M2,hM2⟩:∃ M2:Nat→Nat→List Ev,∀ t i,M2 t i=evsI g g.init.length++evsT g t++(g.th.getD t []).take i:=⟨_,fun _ _=>rfl⟩
  obtain ⟨G2,hG2⟩:∃ G2:Nat→Nat→Nat,∀ t i,G2 t i=(L2 t i).length:=⟨_,fun _ _=>rfl⟩
  have f1:L g.init.length=L2 0 0:=by rw [e1,hL2];simp [idsE]
  have f2:M g.init.length=M2 0 0:=by rw [e2,hM2];simp
  have f3:G g.init.length=G2 0 0:=by rw [hG,hG2,←f1,hL,idsI_len]
  refine E.loopS (ι:=Nat) (fun t=>t≤g.th.length) (fun t=>g.th.length-t) (fun t=>[(45,.i fun _=>((t:Nat):Int))]) (fun t h=>vhp g (L2 t 0) (M2 t 0) (G2 t 0)) 0 (fun _=>by first|rfl|simp) (Nat.zero_le _) ?_ fun t ht I1 hI1=>?_
  ·cbv
   simp [f1,f2,f3]
  cbv
  have hht:=hsh.at t
  repeat' (first
   |(refine ⟨fun _ h_s=>?_,fun _ h_s=>?_⟩<;>(cbv;(try simp only [nc] at *);try simp (disch:=(first|omega|(simp only [lnS];omega))) only [rdT,rdS,reduceCtorEq,trT] at h_s))
   |(refine hF ?_;intro _;clear hF)
   |(refine hF ?_;cbv;clear hF)
   |(refine ⟨fun _=>?_,?_⟩;(· ((try simp only [nc] at *);first|done|omega|exact ⟨by omega,rfl⟩|(simp (disch:=(first|omega|(simp only [lnS];omega))) only [rdT,rdS];first|done|omega|rfl|exact ⟨by omega,rfl⟩|(simp;done)|(simp;omega))|(intros;trivial)));(try (simp only [nc] at *));(try simp (disch:=(first|omega|(simp only [lnS];omega))) only [rdT,rdS]);(try cbv))
   |(refine E.d 9 (by decide +kernel) ?_;cbv;(fail_if_success guard_target =~ False))
   |(refine E.d 18 (by decide +kernel) ?_;cbv;(fail_if_success guard_target =~ False))
   | fail
  )
  ·refine E.loopS (ι:=Nat) (fun i=>i≤(g.th.getD t []).length) (fun i=>(g.th.getD t []).length-i) (fun i=>[(52,.i fun _=>((i:Nat):Int))]) (fun i h=>vhp g (L2 t i) (M2 t i) (G2 t i)) 0 (fun _=>by first|rfl|simp) (Nat.zero_le _) ?_ fun i hi I2 hI2=>?_
   ·cbv
    simp
   cbv
   have hLl:(L2 t i).length=(M2 t i).length:=by
    rw [hL2,hM2];simp only [List.length_append,idsI_len,evsI_len,idsE_len,idsT_len,List.length_take];omega
   have hLm:(L2 t i).length≤100:=by
    have:=evsT_len hsh t
    rw [hL2];simp only [List.length_append,idsI_len,idsE_len,idsT_len];omega
   have hLnot:(⟨t+1,i⟩:EId)∉L2 t i:=by
    rw [hL2,List.mem_append,List.mem_append,idsI_mem,idsT_mem,idsE_mem];simp only;omega
   have hLs:L2 t (i+1)=L2 t i++[⟨t+1,i⟩]:=by rw [hL2,hL2,idsE_succ];simp only [List.append_assoc]
   have hMs:i<(g.th.getD t []).length→M2 t (i+1)=M2 t i++[(g.th.getD t []).getD i ev0]:=fun hi=>by rw [hM2,hM2,take_succ' _ i ev0 hi];simp only [List.append_assoc]
   have hGs:G2 t (i+1)=G2 t i+1:=by rw [hG2,hG2,hLs];simp
   have hput:=put1_ok (γ:=γ) g .any (L2 t i) (M2 t i) (G2 t i) hLl hLm ⟨t+1,i⟩ ((g.th.getD t []).getD i ev0) hLnot (L2 t (i+1)) (M2 t (i+1)) (G2 t (i+1)) hLs
   repeat' (first
    |(refine hI1 (t+1) ?_ ?_ ?_;rotate_left 1;(· ((try simp only [nc] at *);omega));(cbv;clear hI1;(try clear hF);(try simp only [nc] at *);(try simp (disch:=(first|omega|(simp only [lnS];omega))) only [rdT,rdS,anT]));rotate_left 1;(try ((try simp only [nc] at *);omega)))
    |(refine hI2 (i+1) ?_ ?_ ?_;rotate_left 1;(· ((try simp only [nc] at *);omega));(cbv;clear hI2;(try clear hF);(try simp only [nc] at *);(try simp (disch:=(first|omega|(simp only [lnS];omega))) only [rdT,rdS,anT]));rotate_left 1;(try ((try simp only [nc] at *);omega)))
    |(refine E.c (SCalls.to (hput (hMs (by ((try simp only [nc] at *);omega))) hGs) rfl (Nat.le_of_ble_eq_true rfl) ?_ ?_ ?_);(· (cbv;(try simp only [nc] at *);first|done|(simp;done)|(simp (disch:=(first|omega|(simp only [lnS];omega))) only [rdT,rdS,anT];first|done|omega|(refine ⟨?_,?_⟩<;>omega))|(simp (disch:=(first|omega|(simp only [lnS];omega))) [rdT,rdS];done)));(· (cbv;(try simp only [nc] at *);first|done|(simp;done)|(simp (disch:=(first|omega|(simp only [lnS];omega))) only [rdT,rdS,anT];first|done|omega|(refine ⟨?_,?_⟩<;>omega))|(simp (disch:=(first|omega|(simp only [lnS];omega))) [rdT,rdS];done)));cbv)
    |(refine ⟨fun _ h_s=>?_,fun _ h_s=>?_⟩<;>(cbv;(try simp only [nc] at *);try simp (disch:=(first|omega|(simp only [lnS];omega))) only [rdT,rdS,reduceCtorEq,trT] at h_s))
    |(refine hF ?_;intro _;clear hF)
    |(refine hF ?_;cbv;clear hF)
    |(refine ⟨fun _=>?_,?_⟩;(· ((try simp only [nc] at *);first|done|omega|exact ⟨by omega,rfl⟩|(simp (disch:=(first|omega|(simp only [lnS];omega))) only [rdT,rdS];first|done|omega|rfl|exact ⟨by omega,rfl⟩|(simp;done)|(simp;omega))|(intros;trivial)));(try (simp only [nc] at *));(try simp (disch:=(first|omega|(simp only [lnS];omega))) only [rdT,rdS]);(try cbv))
    |(refine E.d 9 (by decide +kernel) ?_;cbv;(fail_if_success guard_target =~ False))
    |(refine E.d 18 (by decide +kernel) ?_;cbv;(fail_if_success guard_target =~ False))
    | fail
   )
   ·omega
   ·clear hput
    have e:i=(g.th.getD t []).length:=by omega
    subst e
    have q1:L2 t (g.th.getD t []).length=L2 (t+1) 0:=by rw [hL2,hL2,idsT_succ];simp [idsE]
    have q2:M2 t (g.th.getD t []).length=M2 (t+1) 0:=by rw [hM2,hM2,evsT_succ,List.take_length];simp
    have q3:G2 t (g.th.getD t []).length=G2 (t+1) 0:=by rw [hG2,hG2,q1]
    simp only [q1,q2,q3,and_self,and_true]
    omega
  ·refine hI ?_
   cbv
   clear hI hI1 hF
   have e:t=g.th.length:=by ((try simp only [nc] at *);omega)
   subst e
   (try simp only [nc] at *)
   (try simp (disch:=(first|omega|(simp only [lnS];omega))) only [rdT,rdS,anT])
   have q1:L2 g.th.length 0=Lf:=by rw [hL2,hLf];simp [idsE,idsG]
   have q2:M2 g.th.length 0=Mf:=by rw [hM2,hMf];simp [evsG]
   have q3:G2 g.th.length 0=n:=by rw [hG2,q1,hLn]
   simp only [q1,q2,q3,and_self]
 refine E.cut 3 (told 165 [(1,.ptr 0 0),(4,.ptr 2 0),(5,.ptr 4 0)] (vhpF g Lf Mf n (fun m=>plInit (Lf.getD m id0)))) (by kernel_rfl) (Nat.zero_le _) (fun I hI=>?_) (E.bl ?_)
 ·cbv
  refine E.de 17 [1] [some 1,some 1] (by decide +kernel) ?_
  cbv
  refine ⟨fun _=>?_,?_⟩
  ·((try simp only [nc] at *);first|done|omega|exact ⟨by omega,rfl⟩|(simp (disch:=(first|omega|(simp only [lnS];omega))) only [rdT,rdS];first|done|omega|rfl|exact ⟨by omega,rfl⟩|(simp;done)|(simp;omega))|(intros;trivial))
  try cbv
  refine ⟨fun _=>?_,?_⟩
  ·((try simp only [nc] at *);first|done|omega|exact ⟨by omega,rfl⟩|(simp (disch:=(first|omega|(simp only [lnS];omega))) only [rdT,rdS];first|done|omega|rfl|exact ⟨by omega,rfl⟩|(simp;done)|(simp;omega))|(intros;trivial))
  try cbv
  obtain ⟨fr,hfr⟩:∃ fr:Nat→Nat→Int,∀ k m,fr k m=if m<k then frOf g (Lf.getD m id0) else 0:=⟨_,fun _ _=>rfl⟩
  obtain ⟨pl,hpl⟩:∃ pl:Nat→Nat→Int,∀ k m,pl k m=if m<k then plInit (Lf.getD m id0) else 0:=⟨_,fun _ _=>rfl⟩
  have hfr0:fr 0=fun _=>0:=funext fun m=>by rw [hfr,if_neg (Nat.not_lt_zero m)]
  have hpl0:pl 0=fun _=>0:=funext fun m=>by rw [hpl,if_neg (Nat.not_lt_zero m)]
  clear hF
  refine E.loopS (ι:=Nat) (fun k=>k≤n) (fun k=>n-k) (fun k=>[(89,.i fun _=>((k:Nat):Int))]) (fun k h=>(h.set 7 (.run 1 1 fun _=>is (tabI n (fr k)))).set 8 (.run 1 1 fun _=>is (tabI n (pl k)))) 0 (fun _=>by first|rfl|simp) (Nat.zero_le _) ?_ fun k hk I2 hI2=>?_
  ·cbv
   simp only [hfr0,hpl0,tabI_zero,hLn,Int.toNat_natCast,implies_true,and_self,true_and,and_true]
   exact ⟨fun _=>by simp [is],fun _=>by simp [is]⟩
  cbv
  have hkn:0+k=k:=Nat.zero_add k
  have hrd:=fun hk:k<n=>dreads0_ok (γ:=γ) ⟨Lf,Mf,tabI n fun j=>if j=k then -1 else fr k j,tabI n fun j=>if j=k then -1 else pl k j⟩ k (by rw [hMn];exact hk)
  skip
  skip
  skip
  repeat' (first
   |(refine hI2 (k+1) ?_ ?_ ?_;rotate_left 1;(· ((try simp only [nc] at *);omega));(cbv;clear hI2;(try clear hF);(try simp only [nc] at *);(try simp (disch:=(first|omega|(simp only [lnS,tabI_len];omega))) only [rdT,rdS,Nat.zero_add,true_and,tabI_len,stI,List.drop_zero,List.take_of_length_le,anT]));rotate_left 1;(try ((try simp only [nc] at *);omega)))
   |(refine E.c (SCalls.of_bare (hrd (by ((try simp only [nc] at *);omega))) rfl ?_ ?_);(· (cbv;(try simp only [nc] at *);first|done|(simp;done)|(simp (disch:=(first|omega|(simp only [lnS,tabI_len];omega))) only [rdT,rdS,Nat.zero_add,true_and,tabI_len,stI,List.drop_zero,List.take_of_length_le,anT];first|done|omega|(refine ⟨?_,?_⟩<;>omega))|(simp (disch:=(first|omega|(simp only [lnS,tabI_len];omega))) [rdT,rdS,Nat.zero_add,true_and,tabI_len,stI,List.drop_zero,List.take_of_length_le];done)));cbv)
   |(refine E.q (QCalls.of_bare (hrd (by ((try simp only [nc] at *);omega))) rfl ?_ ?_);(· (cbv;(try simp only [nc] at *);first|done|(simp;done)|(simp (disch:=(first|omega|(simp only [lnS,tabI_len];omega))) only [rdT,rdS,Nat.zero_add,true_and,tabI_len,stI,List.drop_zero,List.take_of_length_le,anT];first|done|omega|(refine ⟨?_,?_⟩<;>omega))|(simp (disch:=(first|omega|(simp only [lnS,tabI_len];omega))) [rdT,rdS,Nat.zero_add,true_and,tabI_len,stI,List.drop_zero,List.take_of_length_le];done)));cbv)
   |(refine E.de 12 [7,8] [] (by decide +kernel) ?_;cbv;(fail_if_success guard_target =~ False))
   |(refine ⟨fun _ h_s=>?_,fun _ h_s=>?_⟩<;>(cbv;(try simp only [nc] at *);try simp (disch:=(first|omega|(simp only [lnS,tabI_len];omega))) only [rdT,rdS,Nat.zero_add,true_and,tabI_len,stI,List.drop_zero,List.take_of_length_le,reduceCtorEq,trT] at h_s))
   |(refine hF ?_;intro _;clear hF)
   |(refine hF ?_;cbv;clear hF)
   |(refine ⟨fun _=>?_,?_⟩;(· ((try simp only [nc] at *);first|done|omega|exact ⟨by omega,rfl⟩|(simp (disch:=(first|omega|(simp only [lnS,tabI_len];omega))) only [rdT,rdS,Nat.zero_add,true_and,tabI_len,stI,List.drop_zero,List.take_of_length_le];first|done|omega|rfl|exact ⟨by omega,rfl⟩|(simp;done)|(simp;omega))|(intros;trivial)|exact rfl|exact ⟨by omega,by rw [istab_get _ _ _ (by omega)];rfl⟩));(try (simp only [nc] at *));(try simp (disch:=(first|omega|(simp only [lnS,tabI_len];omega))) only [rdT,rdS,Nat.zero_add,true_and,tabI_len,stI,List.drop_zero,List.take_of_length_le]);(try cbv))
   |(refine E.d 9 (by decide +kernel) ?_;cbv;(fail_if_success guard_target =~ False))
   |(refine E.d 18 (by decide +kernel) ?_;cbv;(fail_if_success guard_target =~ False))
   | fail
  )
  ·rename_i hs0
   refine ⟨by push_cast;rfl,congrArg is (tabI_congr fun j hj=>?_),congrArg is (tabI_congr fun j hj=>?_)⟩
   ·rw [hfr,hfr]
    split
    ·rename_i e;subst e;rw [if_pos (by omega),frOf,if_pos h_s]
    ·rename_i e;by_cases hjk:j<k
     ·rw [if_pos hjk,if_pos (by omega)]
     ·rw [if_neg hjk,if_neg (by omega)]
   ·rw [hpl,hpl]
    split
    ·rename_i e;subst e;rw [if_pos (by omega),plInit,if_pos h_s]
    ·rename_i e;by_cases hjk:j<k
     ·rw [if_pos hjk,if_pos (by omega)]
     ·rw [if_neg hjk,if_neg (by omega)]
  ·have hkl:k<Lf.length:=by ((try simp only [nc] at *);omega)
   have hw:0≤(Lf.getD k ⟨0,0⟩).t-1∧((Lf.getD k ⟨0,0⟩).t-1).toNat<g.fr.length∧(Lf.getD k ⟨0,0⟩).t≤4∧0≤(Lf.getD k ⟨0,0⟩).i∧(Lf.getD k ⟨0,0⟩).i.toNat<(g.fr.getD ((Lf.getD k ⟨0,0⟩).t-1).toNat []).length:=by
    subst hLf
    exact ids_where h hkl (by assumption)
   obtain ⟨w1,w2,w3,w4,w5⟩:=hw
   have hev:eventM g (Lf.getD k ⟨0,0⟩)=some (Mf.getD k ⟨0,0,0,0,0⟩):=by
    subst hLf hMf
    exact evsG_get g k hkl
   have hsm:(g.fr.getD ((Lf.getD k ⟨0,0⟩).t-1).toNat []).getD (Lf.getD k ⟨0,0⟩).i.toNat ⟨0,0⟩∈Lf:=by
    have hm:Lf.getD k ⟨0,0⟩∈idsG g:=by rw [←hLf];exact getD_mem hkl
    obtain ⟨w,hw,_⟩:=source_mem (src_ok h hm (by omega)) (by rw [hev];exact h_s)
    rw [hLf]
    exact idsG_mem.2 (by rw [←hLf];exact congrArg Option.isSome hw)
   have hfo:frOf g (Lf.getD k id0)=(numOf Lf ((g.fr.getD ((Lf.getD k ⟨0,0⟩).t-1).toNat []).getD (Lf.getD k ⟨0,0⟩).i.toNat ⟨0,0⟩):Nat):=by
    unfold frOf
    rw [if_neg (by assumption),show eventM g (Lf.getD k id0)=_ from hev,Option.getD_some,if_pos h_s,←hLf];rfl
   have hv:=fun z=>lk_num Lf _ hsm _ rfl z
   (try simp only [nc] at *)
   simp (disch:=first|omega) only [w64_of]
   simp (disch:=first|omega) only [idss_len,Int.toNat_of_nonneg,idss_get,at_l,asL_vs,ids_len,ids_get,at_d0,at_d1,asI_i,Int.toNat_natCast,knums_id,hv]
   skip
   repeat' (first
    |(refine hI2 (k+1) ?_ ?_ ?_;rotate_left 1;(· ((try simp only [nc] at *);omega));(cbv;clear hI2;(try clear hF);(try simp only [nc] at *);(try simp (disch:=(first|omega|(simp only [lnS,tabI_len];omega))) only [rdT,rdS,Nat.zero_add,true_and,tabI_len,stI,List.drop_zero,List.take_of_length_le,anT]));rotate_left 1;(try ((try simp only [nc] at *);omega)))
    |(refine ⟨fun _ h_s=>?_,fun _ h_s=>?_⟩<;>(cbv;(try simp only [nc] at *);try simp (disch:=(first|omega|(simp only [lnS,tabI_len];omega))) only [rdT,rdS,Nat.zero_add,true_and,tabI_len,stI,List.drop_zero,List.take_of_length_le,reduceCtorEq,trT] at h_s))
    |(refine hF ?_;intro _;clear hF)
    |(refine hF ?_;cbv;clear hF)
    |(refine ⟨fun _=>?_,?_⟩;(· ((try simp only [nc] at *);first|done|omega|exact ⟨by omega,rfl⟩|(simp (disch:=(first|omega|(simp only [lnS,tabI_len];omega))) only [rdT,rdS,Nat.zero_add,true_and,tabI_len,stI,List.drop_zero,List.take_of_length_le];first|done|omega|rfl|exact ⟨by omega,rfl⟩|(simp;done)|(simp;omega))|(intros;trivial)|exact rfl|exact ⟨by omega,by rw [istab_get _ _ _ (by omega)];rfl⟩|exact ⟨mok_ids _,is_vals _⟩));(try (simp only [nc] at *));(try simp (disch:=(first|omega|(simp only [lnS,tabI_len];omega))) only [rdT,rdS,Nat.zero_add,true_and,tabI_len,stI,List.drop_zero,List.take_of_length_le]);(try cbv))
    |(refine E.d 9 (by decide +kernel) ?_;cbv;(fail_if_success guard_target =~ False))
    |(refine E.d 18 (by decide +kernel) ?_;cbv;(fail_if_success guard_target =~ False))
    | fail
   )
   refine ⟨by push_cast;rfl,congrArg is (tabI_congr fun j hj=>?_),congrArg is (tabI_congr fun j hj=>?_)⟩
   ·rw [hfr,hfr]
    split
    ·rename_i e;subst e;rw [if_pos (by omega)];exact hfo.symm
    ·rename_i e;by_cases hjk:j<k
     ·rw [if_pos hjk,if_pos (by omega)]
     ·rw [if_neg hjk,if_neg (by omega)]
   ·rw [hpl,hpl]
    split
    ·rename_i e;subst e;rw [if_pos (by omega),plInit,if_neg (by assumption)]
    ·rename_i e;by_cases hjk:j<k
     ·rw [if_pos hjk,if_pos (by omega)]
     ·rw [if_neg hjk,if_neg (by omega)]
  ·have hkl:k<Lf.length:=by ((try simp only [nc] at *);omega)
   have hev:eventM g (Lf.getD k ⟨0,0⟩)=some (Mf.getD k ⟨0,0,0,0,0⟩):=by
    subst hLf hMf
    exact evsG_get g k hkl
   refine ⟨by push_cast;rfl,congrArg is (tabI_congr fun j hj=>?_),congrArg is (tabI_congr fun j hj=>?_)⟩
   ·rw [hfr,hfr]
    split
    ·rename_i e;subst e;rw [if_pos (by omega),frOf,if_neg (by assumption),show eventM g (Lf.getD j id0)=_ from hev,Option.getD_some,h_s,if_neg (by simp)]
    ·rename_i e;by_cases hjk:j<k
     ·rw [if_pos hjk,if_pos (by omega)]
     ·rw [if_neg hjk,if_neg (by omega)]
   ·rw [hpl,hpl]
    split
    ·rename_i e;subst e;rw [if_pos (by omega),plInit,if_neg (by assumption)]
    ·rename_i e;by_cases hjk:j<k
     ·rw [if_pos hjk,if_pos (by omega)]
     ·rw [if_neg hjk,if_neg (by omega)]
  ·refine hI ?_
   cbv
   clear hI hI2
   have e:k=n:=by ((try simp only [nc] at *);omega)
   have q1:is (tabI n (fr k))=is (tabI n fun m=>frOf g (Lf.getD m ⟨0,0⟩)):=congrArg is (tabI_congr fun m hm=>by rw [hfr,if_pos (by omega)])
   have q2:is (tabI n (pl k))=is (tabI n fun m=>plInit (Lf.getD m ⟨0,0⟩)):=congrArg is (tabI_congr fun m hm=>by rw [hpl,if_pos (by omega)])
   simp only [q1,q2,Int.toNat_natCast,implies_true,and_self]
 ·obtain ⟨plx,hplx⟩:∃ plx:Nat→Nat→Nat→Int,∀ x i m,plx x i m=plTo g (qsT g x++qsE g x i) (Lf.getD m id0):=⟨_,fun _ _ _=>rfl⟩
  have hp0:(fun m=>plInit (Lf.getD m id0))=plx 0 0:=funext fun m=>by rw [hplx];rfl
  have hpE:plx g.ord.length 0=fun m=>plOf g (Lf.getD m id0):=funext fun m=>by
   rw [hplx,show qsE g g.ord.length 0=[] by simp [qsE],List.append_nil,plTo_all h]
  have hpS:∀ x,plx x (g.ord.getD x []).length=plx (x+1) 0:=fun x=>funext fun m=>by
   rw [hplx,hplx,qsT_succ,show qsE g (x+1) 0=[] by simp [qsE],List.append_nil]
  rw [hp0]
  have hord:=hg.ord
  cbv
  refine E.loopS (ι:=Nat) (fun x=>x≤g.ord.length) (fun x=>g.ord.length-x) (fun x=>[(141,.i fun _=>((x:Nat):Int))]) (fun x h=>h.set 8 (.run 1 1 fun _=>is (tabI n (plx x 0)))) 0 (fun _=>by first|rfl|simp) (Nat.zero_le _) ?_ fun x hx I3 hI3=>?_
  ·cbv
   simp
  cbv
  have hol:((g.ord.getD x []).length:Int)≤9223372036854775807:=ordsAt hg x
  skip
  repeat' (first
   |(refine ⟨fun _ h_s=>?_,fun _ h_s=>?_⟩<;>(cbv;(try simp only [nc] at *);try simp (disch:=(first|omega|(simp only [lnS,tabI_len,tabI_len];omega))) only [rdT,rdS,Nat.zero_add,true_and,tabI_len,stI,List.drop_zero,List.take_of_length_le,tabI_len,stI,reduceCtorEq,trT] at h_s))
   |(refine hF ?_;intro _;clear hF)
   |(refine hF ?_;cbv;clear hF)
   |(refine ⟨fun _=>?_,?_⟩;(· ((try simp only [nc] at *);first|done|omega|exact ⟨by omega,rfl⟩|(simp (disch:=(first|omega|(simp only [lnS,tabI_len,tabI_len];omega))) only [rdT,rdS,Nat.zero_add,true_and,tabI_len,stI,List.drop_zero,List.take_of_length_le,tabI_len,stI];first|done|omega|rfl|exact ⟨by omega,rfl⟩|(simp;done)|(simp;omega))|(intros;trivial)|exact rfl|exact ⟨by omega,by rw [istab_get _ _ _ (by omega)];rfl⟩|exact ⟨mok_ids _,is_vals _⟩));(try (simp only [nc] at *));(try simp (disch:=(first|omega|(simp only [lnS,tabI_len,tabI_len];omega))) only [rdT,rdS,Nat.zero_add,true_and,tabI_len,stI,List.drop_zero,List.take_of_length_le,tabI_len,stI]);(try cbv))
   |(refine E.d 9 (by decide +kernel) ?_;cbv;(fail_if_success guard_target =~ False))
   |(refine E.d 18 (by decide +kernel) ?_;cbv;(fail_if_success guard_target =~ False))
   | fail
  )
  ·have hxx:x<g.ord.length:=by ((try simp only [nc] at *);omega)
   refine E.loopS (ι:=Nat) (fun i=>i≤(g.ord.getD x []).length) (fun i=>(g.ord.getD x []).length-i) (fun i=>[(147,.i fun _=>((i:Nat):Int))]) (fun i h=>h.set 8 (.run 1 1 fun _=>is (tabI n (plx x i)))) 0 (fun _=>by first|rfl|simp) (Nat.zero_le _) ?_ fun i hi I4 hI4=>?_
   ·cbv
    simp
   cbv
   have hnum:i<(g.ord.getD x []).length→numOf Lf ((g.ord.getD x []).getD i ⟨0,0⟩)<n∧∀ z,((mval (mfind [.i,.i] (ids Lf) [((g.ord.getD x []).getD i ⟨0,0⟩).t,((g.ord.getD x []).getD i ⟨0,0⟩).i]) (is (iota Lf.length)) z).at 0).asI=(numOf Lf ((g.ord.getD x []).getD i ⟨0,0⟩):Nat):=fun hi=>by
    have hm:(g.ord.getD x []).getD i ⟨0,0⟩∈Lf:=by rw [hLf];exact ord_mem h hxx hi
    exact ⟨by rw [←hLn];exact numOf_lt hm,fun z=>lk_num Lf _ hm _ rfl z⟩
   skip
   skip
   repeat' (first
    |(refine ⟨fun _ h_s=>?_,fun _ h_s=>?_⟩<;>(cbv;(try simp only [nc] at *);try simp (disch:=(first|omega|(simp only [lnS,tabI_len,tabI_len];omega))) only [rdT,rdS,Nat.zero_add,true_and,tabI_len,stI,List.drop_zero,List.take_of_length_le,tabI_len,stI,Nat.zero_add,reduceCtorEq,trT] at h_s))
    |(refine hF ?_;intro _;clear hF)
    |(refine hF ?_;cbv;clear hF)
    |(refine ⟨fun _=>?_,?_⟩;(· ((try simp only [nc] at *);first|done|omega|exact ⟨by omega,rfl⟩|(simp (disch:=(first|omega|(simp only [lnS,tabI_len,tabI_len];omega))) only [rdT,rdS,Nat.zero_add,true_and,tabI_len,stI,List.drop_zero,List.take_of_length_le,tabI_len,stI,Nat.zero_add];first|done|omega|rfl|exact ⟨by omega,rfl⟩|(simp;done)|(simp;omega))|(intros;trivial)|exact rfl|exact ⟨by omega,by rw [istab_get _ _ _ (by omega)];rfl⟩|exact ⟨mok_ids _,is_vals _⟩|exact rfl));(try (simp only [nc] at *));(try simp (disch:=(first|omega|(simp only [lnS,tabI_len,tabI_len];omega))) only [rdT,rdS,Nat.zero_add,true_and,tabI_len,stI,List.drop_zero,List.take_of_length_le,tabI_len,stI,Nat.zero_add]);(try cbv))
    |(refine E.d 9 (by decide +kernel) ?_;cbv;(fail_if_success guard_target =~ False))
    |(refine E.d 18 (by decide +kernel) ?_;cbv;(fail_if_success guard_target =~ False))
    | fail
   )
   ·obtain ⟨hn1,hn2⟩:=hnum (by ((try simp only [nc] at *);omega))
    simp only [knums_id,hn2]
    skip
    have hii:i<(g.ord.getD x []).length:=by ((try simp only [nc] at *);omega)
    repeat' (first
     |(refine hI4 (i+1) ?_ ?_ ?_;rotate_left 1;(· ((try simp only [nc] at *);omega));(cbv;clear hI4;(try clear hF);(try simp only [nc] at *);(try simp (disch:=(first|omega|(simp only [lnS,tabI_len,tabI_len];omega))) only [rdT,rdS,Nat.zero_add,true_and,tabI_len,stI,List.drop_zero,List.take_of_length_le,tabI_len,stI,Nat.zero_add,anT]));rotate_left 1;(try ((try simp only [nc] at *);omega)))
     |(refine ⟨fun _ h_s=>?_,fun _ h_s=>?_⟩<;>(cbv;(try simp only [nc] at *);try simp (disch:=(first|omega|(simp only [lnS,tabI_len,tabI_len];omega))) only [rdT,rdS,Nat.zero_add,true_and,tabI_len,stI,List.drop_zero,List.take_of_length_le,tabI_len,stI,Nat.zero_add,reduceCtorEq,trT] at h_s))
     |(refine hF ?_;intro _;clear hF)
     |(refine hF ?_;cbv;clear hF)
     |(refine ⟨fun _=>?_,?_⟩;(· ((try simp only [nc] at *);first|done|omega|exact ⟨by omega,rfl⟩|(simp (disch:=(first|omega|(simp only [lnS,tabI_len,tabI_len];omega))) only [rdT,rdS,Nat.zero_add,true_and,tabI_len,stI,List.drop_zero,List.take_of_length_le,tabI_len,stI,Nat.zero_add];first|done|omega|rfl|exact ⟨by omega,rfl⟩|(simp;done)|(simp;omega))|(intros;trivial)|exact rfl|exact ⟨by omega,by rw [istab_get _ _ _ (by omega)];rfl⟩|exact ⟨mok_ids _,is_vals _⟩|exact rfl|exact ⟨mok_ids _,is_vals _⟩));(try (simp only [nc] at *));(try simp (disch:=(first|omega|(simp only [lnS,tabI_len,tabI_len];omega))) only [rdT,rdS,Nat.zero_add,true_and,tabI_len,stI,List.drop_zero,List.take_of_length_le,tabI_len,stI,Nat.zero_add]);(try cbv))
     |(refine E.d 9 (by decide +kernel) ?_;cbv;(fail_if_success guard_target =~ False))
     |(refine E.d 18 (by decide +kernel) ?_;cbv;(fail_if_success guard_target =~ False))
     | fail
    )
    refine ⟨by push_cast;rfl,congrArg is (tabI_congr fun j hj=>?_)⟩
    have:=plTo_step h hxx hii (m:=j) (by rw [←hLf,hLn];exact hj)
    rw [hplx,hplx,hLf]
    rw [hLf] at hn1 hn2
    exact this
   ·have e:i=(g.ord.getD x []).length:=by ((try simp only [nc] at *);omega)
    subst e
    rw [hpS]
    repeat' (first
     |(refine hI3 (x+1) ?_ ?_ ?_;rotate_left 1;(· ((try simp only [nc] at *);omega));(cbv;clear hI3;(try clear hF);(try simp only [nc] at *);(try simp (disch:=(first|omega|(simp only [lnS,tabI_len,tabI_len];omega))) only [rdT,rdS,Nat.zero_add,true_and,tabI_len,stI,List.drop_zero,List.take_of_length_le,tabI_len,stI,Nat.zero_add,anT]));rotate_left 1;(try ((try simp only [nc] at *);omega)))
     |(refine ⟨fun _ h_s=>?_,fun _ h_s=>?_⟩<;>(cbv;(try simp only [nc] at *);try simp (disch:=(first|omega|(simp only [lnS,tabI_len,tabI_len];omega))) only [rdT,rdS,Nat.zero_add,true_and,tabI_len,stI,List.drop_zero,List.take_of_length_le,tabI_len,stI,Nat.zero_add,reduceCtorEq,trT] at h_s))
     |(refine hF ?_;intro _;clear hF)
     |(refine hF ?_;cbv;clear hF)
     |(refine ⟨fun _=>?_,?_⟩;(· ((try simp only [nc] at *);first|done|omega|exact ⟨by omega,rfl⟩|(simp (disch:=(first|omega|(simp only [lnS,tabI_len,tabI_len];omega))) only [rdT,rdS,Nat.zero_add,true_and,tabI_len,stI,List.drop_zero,List.take_of_length_le,tabI_len,stI,Nat.zero_add];first|done|omega|rfl|exact ⟨by omega,rfl⟩|(simp;done)|(simp;omega))|(intros;trivial)|exact rfl|exact ⟨by omega,by rw [istab_get _ _ _ (by omega)];rfl⟩|exact ⟨mok_ids _,is_vals _⟩|exact rfl|exact ⟨mok_ids _,is_vals _⟩));try cbv)
     |(refine E.d 9 (by decide +kernel) ?_;cbv;(fail_if_success guard_target =~ False))
     |(refine E.d 18 (by decide +kernel) ?_;cbv;(fail_if_success guard_target =~ False))
     | fail
    )
    push_cast;rfl
  ·have e:x=g.ord.length:=by ((try simp only [nc] at *);omega)
   subst e
   rw [hpE]
   simp only [viewG,←hLf,←hMf,←hnn,hLn,hMn]
   simp [List.take_of_length_le,hLn,hMn,id0]
end Go.AL.Rl
namespace Go.AL.Rl
open Go Go.AL Go.Proofs
set_option maxRecDepth 100000
set_option maxHeartbeats 1600000
variable {γ:Nat→Option AV}
def rowsG (g:Gr) (f:Vw→Nat→List (BitVec 64)):List (BitVec 64):=if GOk g then f (viewG g) (nG g) else []
def poF (V:Vw) (n:Nat):List (BitVec 64):=relRows n (poM V)
def rfF (V:Vw) (n:Nat):List (BitVec 64):=relRows n (rfM V)
def coF (V:Vw) (n:Nat):List (BitVec 64):=relRows n (coM V)
def frF (V:Vw) (n:Nat):List (BitVec 64):=relRows n (frM V)
def locF (V:Vw) (n:Nat):List (BitVec 64):=relRows n (locM V)
noncomputable def swF (V:Vw) (n:Nat):List (BitVec 64):=relRows n (bit (swRows V n))
def ecoF (V:Vw) (n:Nat):List (BitVec 64):=plusM n (orM n [((n:Int),rfF V n),((n:Int),coF V n),((n:Int),frF V n)])
def porfF (V:Vw) (n:Nat):List (BitVec 64):=plusM n (orM n [((n:Int),poF V n),((n:Int),rfF V n)])
noncomputable def hbF (V:Vw) (n:Nat):List (BitVec 64):=plusM n (orM n [((n:Int),poF V n),((n:Int),swF V n)])
theorem viewOf_ok (g:Gr) (hg:Rd g) (h:GOk g):Pure Tryz.prog γ false 62 [aGr g] (.tup [.vp (fun _=>aVw (viewG g)) 0,.b fun _=>true]):=viewOf_yes g hg h
theorem vpoF_ok (V:Vw) {n:Nat} (hV:Wf V n):Pure Tryz.prog γ false 63 [pVw V,.fn 64 [.vp (fun _=>aVw V) 0] []] (encRel n (poF V n)):=
 drel1_ok (γ:=γ) V hV 64 (fun _=>aVw V) _ (fun a ha b hb=>dpo_ok V hV a b ha hb)
theorem vrfF_ok (V:Vw) {n:Nat} (hV:Wf V n):Pure Tryz.prog γ false 63 [pVw V,.fn 65 [.vp (fun _=>aVw V) 0] []] (encRel n (rfF V n)):=
 drel1_ok (γ:=γ) V hV 65 (fun _=>aVw V) _ (fun a ha b hb=>drf_ok V hV a b ha hb)
theorem vcoF_ok (V:Vw) {n:Nat} (hV:Wf V n):Pure Tryz.prog γ false 63 [pVw V,.fn 66 [.vp (fun _=>aVw V) 0] []] (encRel n (coF V n)):=
 drel1_ok (γ:=γ) V hV 66 (fun _=>aVw V) _ (fun a ha b hb=>dco_ok V hV a b ha hb)
theorem vfrF_ok (V:Vw) {n:Nat} (hV:Wf V n):Pure Tryz.prog γ false 63 [pVw V,.fn 67 [.vp (fun _=>aVw V) 0] []] (encRel n (frF V n)):=
 drel1_ok (γ:=γ) V hV 67 (fun _=>aVw V) _ (fun a ha b hb=>dfr_ok V hV a b ha hb)
theorem vlocF_ok (V:Vw) {n:Nat} (hV:Wf V n):Pure Tryz.prog γ false 63 [pVw V,.fn 69 [.vp (fun _=>aVw V) 0] []] (encRel n (locF V n)):=
 drel1_ok (γ:=γ) V hV 69 (fun _=>aVw V) _ (fun a ha b hb=>dloc_ok V hV a b ha hb)
theorem vswF_ok (V:Vw) {n:Nat} (hV:Wf V n):Pure Tryz.prog γ false 70 [pVw V] (encRel n (swF V n)):=dsw_ok V hV
theorem fits_poF (V:Vw) {n:Nat} (h:n≤62):Fits n (poF V n):=fits_rel (by omega) _
theorem fits_rfF (V:Vw) {n:Nat} (h:n≤62):Fits n (rfF V n):=fits_rel (by omega) _
theorem fits_coF (V:Vw) {n:Nat} (h:n≤62):Fits n (coF V n):=fits_rel (by omega) _
theorem fits_frF (V:Vw) {n:Nat} (h:n≤62):Fits n (frF V n):=fits_rel (by omega) _
theorem fits_swF (V:Vw) {n:Nat} (h:n≤62):Fits n (swF V n):=fits_rel (by omega) _
end Go.AL.Rl
