import Derived.Test.YtjcioienjlonmaaMg4
set_option linter.unusedVariables false
set_option linter.unusedSimpArgs false
namespace Go.AL.Rl
open Go Go.AL Go.Proofs
set_option maxRecDepth 100000
variable {γ:Nat→Option AV}
structure Vw where
 ids:List EId
 ev:List Ev
 fr:List Int
 pl:List Int
abbrev aVw (V:Vw):AV:=.agg [.vs 2 fun _=>ids V.ids,.vs 5 fun _=>evs V.ev,.vs 1 fun _=>is V.fr,.vs 1 fun _=>is V.pl]
abbrev pVw (V:Vw):AV:=.vp (fun _=>aVw V) 0
structure Wf (V:Vw) (n:Nat):Prop where
 ids:V.ids.length=n
 ev:V.ev.length=n
 fr:V.fr.length=n
 pl:V.pl.length=n
 small:n≤62
 frl:∀ i<n,V.fr.getD i 0<n
 frg:∀ i<n,readsM (V.ev.getD i ev0)=true→0≤V.fr.getD i 0
def poM (V:Vw) (a b:Nat):Bool:=decide ((V.ids.getD b id0).t≠0) && (decide ((V.ids.getD a id0).t=0) || decide ((V.ids.getD a id0).t=(V.ids.getD b id0).t) && decide ((V.ids.getD a id0).i<(V.ids.getD b id0).i))
def rfM (V:Vw) (a b:Nat):Bool:=decide (V.fr.getD b 0=a)
def fenceM (e:Ev):Bool:=decide (e.kind=4)
def nearM (V:Vw) (a b:Nat):Bool:=!fenceM (V.ev.getD a ev0) && !fenceM (V.ev.getD b ev0) && decide ((V.ev.getD a ev0).loc=(V.ev.getD b ev0).loc)
def coM (V:Vw) (a b:Nat):Bool:=decide (0≤V.pl.getD a 0) && nearM V a b && decide (V.pl.getD a 0<V.pl.getD b 0)
def frM (V:Vw) (a b:Nat):Bool:=decide (a≠b) && decide (0≤V.fr.getD a 0) && coM V (V.fr.getD a 0).toNat b
def locM (V:Vw) (a b:Nat):Bool:=decide (a≠b) && nearM V a b
def acqM (e:Ev):Bool:=decide (e.order=3) || decide (e.order=5) || decide (e.order=6)
def relM (e:Ev):Bool:=decide (e.order=4) || decide (e.order=5) || decide (e.order=6)
theorem dpo_ok (V:Vw) {n:Nat} (hV:Wf V n) (a b:Nat) (ha:a<n) (hb:b<n):Pure Try.prog γ false 57 [pVw V,.i fun _=>(a:Int),.i fun _=>(b:Int)] (.b fun _=>poM V a b):=by
 have h1:=hV.ids
 refine Pure.go (ty:=ty) ty_eq mo Try.func57 rfl Try.ntmps57 Try.results57 Try.call57 (by simp) fun P C CQ D W F E hF=>?_
 cbv
 repeat' (first
  |(refine E.de 17 [] [none,none] (by decide +kernel) ?_;cbv;(fail_if_success guard_target =~ False))
  |(refine ⟨fun _ h_s=>?_,fun _ h_s=>?_⟩<;>(cbv;(try simp only [nc] at *);try simp (disch:=(first|omega|(simp only [lnS];omega))) only [rdT,rdS,reduceCtorEq,trT] at h_s))
  |(refine hF ?_;intro _;clear hF)
  |(refine hF ?_;cbv;clear hF)
  |(refine ⟨fun _=>?_,?_⟩;(· ((try simp only [nc] at *);first|done|omega|exact ⟨by omega,rfl⟩|(simp (disch:=(first|omega|(simp only [lnS];omega))) only [rdT,rdS];first|done|omega|rfl|exact ⟨by omega,rfl⟩|(simp;done)|(simp;omega))|(intros;trivial)));(try (simp only [nc] at *));(try simp (disch:=(first|omega|(simp only [lnS];omega))) only [rdT,rdS]);(try cbv))
  | fail
 )
 all_goals (try simp only [nc] at *)
 all_goals (try simp (disch:=(first|omega|(simp only [lnS];omega))) only [rdT,rdS])
 all_goals simp_all [poM]
theorem dreads0_ok (V:Vw) (a:Nat) (h1:a<V.ev.length):Pure Try.prog γ false 77 [pVw V,.i fun _=>(a:Int)] (.b fun _=>readsM (V.ev.getD a ev0)):=by
 refine Pure.go (ty:=ty) ty_eq mo Try.func77 rfl Try.ntmps77 Try.results77 Try.call77 (by simp) fun P C CQ D W F E hF=>?_
 cbv
 repeat' (first
  |(refine ⟨fun _ h_s=>?_,fun _ h_s=>?_⟩<;>(cbv;(try simp only [nc] at *);try simp (disch:=(first|omega|(simp only [lnS];omega))) only [rdT,rdS,reduceCtorEq,trT] at h_s))
  |(refine hF ?_;intro _;clear hF)
  |(refine hF ?_;cbv;clear hF)
  |(refine ⟨fun _=>?_,?_⟩;(· ((try simp only [nc] at *);first|done|omega|exact ⟨by omega,rfl⟩|(simp (disch:=(first|omega|(simp only [lnS];omega))) only [rdT,rdS];first|done|omega|rfl|exact ⟨by omega,rfl⟩|(simp;done)|(simp;omega))|(intros;trivial)));(try (simp only [nc] at *));(try simp (disch:=(first|omega|(simp only [lnS];omega))) only [rdT,rdS]);(try cbv))
  | fail
 )
 all_goals (try simp only [nc] at *)
 all_goals (try simp (disch:=(first|omega|(simp only [lnS];omega))) only [rdT,rdS])
 all_goals simp_all [readsM]
theorem dreads_ok (V:Vw) {n:Nat} (hV:Wf V n) (a:Nat) (ha:a<n):Pure Try.prog γ false 77 [pVw V,.i fun _=>(a:Int)] (.b fun _=>readsM (V.ev.getD a ev0)):=
 dreads0_ok V a (by rw [hV.ev];exact ha)
theorem dwrites_ok (V:Vw) {n:Nat} (hV:Wf V n) (a:Nat) (ha:a<n):Pure Try.prog γ false 82 [pVw V,.i fun _=>(a:Int)] (.b fun _=>writesM (V.ev.getD a ev0)):=by
 have h1:=hV.ev
 refine Pure.go (ty:=ty) ty_eq mo Try.func82 rfl Try.ntmps82 Try.results82 Try.call82 (by simp) fun P C CQ D W F E hF=>?_
 cbv
 repeat' (first
  |(refine ⟨fun _ h_s=>?_,fun _ h_s=>?_⟩<;>(cbv;(try simp only [nc] at *);try simp (disch:=(first|omega|(simp only [lnS];omega))) only [rdT,rdS,reduceCtorEq,trT] at h_s))
  |(refine hF ?_;intro _;clear hF)
  |(refine hF ?_;cbv;clear hF)
  |(refine ⟨fun _=>?_,?_⟩;(· ((try simp only [nc] at *);first|done|omega|exact ⟨by omega,rfl⟩|(simp (disch:=(first|omega|(simp only [lnS];omega))) only [rdT,rdS];first|done|omega|rfl|exact ⟨by omega,rfl⟩|(simp;done)|(simp;omega))|(intros;trivial)));(try (simp only [nc] at *));(try simp (disch:=(first|omega|(simp only [lnS];omega))) only [rdT,rdS]);(try cbv))
  | fail
 )
 all_goals (try simp only [nc] at *)
 all_goals (try simp (disch:=(first|omega|(simp only [lnS];omega))) only [rdT,rdS])
 all_goals simp_all [writesM]
theorem dfence_ok (V:Vw) {n:Nat} (hV:Wf V n) (a:Nat) (ha:a<n):Pure Try.prog γ false 90 [pVw V,.i fun _=>(a:Int)] (.b fun _=>fenceM (V.ev.getD a ev0)):=by
 have h1:=hV.ev
 refine Pure.go (ty:=ty) ty_eq mo Try.func90 rfl Try.ntmps90 Try.results90 Try.call90 (by simp) fun P C CQ D W F E hF=>?_
 cbv
 repeat' (first
  |(refine ⟨fun _ h_s=>?_,fun _ h_s=>?_⟩<;>(cbv;(try simp only [nc] at *);try simp (disch:=(first|omega|(simp only [lnS];omega))) only [rdT,rdS,reduceCtorEq,trT] at h_s))
  |(refine hF ?_;intro _;clear hF)
  |(refine hF ?_;cbv;clear hF)
  |(refine ⟨fun _=>?_,?_⟩;(· ((try simp only [nc] at *);first|done|omega|exact ⟨by omega,rfl⟩|(simp (disch:=(first|omega|(simp only [lnS];omega))) only [rdT,rdS];first|done|omega|rfl|exact ⟨by omega,rfl⟩|(simp;done)|(simp;omega))|(intros;trivial)));(try (simp only [nc] at *));(try simp (disch:=(first|omega|(simp only [lnS];omega))) only [rdT,rdS]);(try cbv))
  | fail
 )
 all_goals (try simp only [nc] at *)
 all_goals (try simp (disch:=(first|omega|(simp only [lnS];omega))) only [rdT,rdS])
 all_goals simp_all [fenceM]
theorem dacq_ok (V:Vw) {n:Nat} (hV:Wf V n) (a:Nat) (ha:a<n):Pure Try.prog γ false 87 [pVw V,.i fun _=>(a:Int)] (.b fun _=>acqM (V.ev.getD a ev0)):=by
 have h1:=hV.ev
 refine Pure.go (ty:=ty) ty_eq mo Try.func87 rfl Try.ntmps87 Try.results87 Try.call87 (by simp) fun P C CQ D W F E hF=>?_
 cbv
 repeat' (first
  |(refine ⟨fun _ h_s=>?_,fun _ h_s=>?_⟩<;>(cbv;(try simp only [nc] at *);try simp (disch:=(first|omega|(simp only [lnS];omega))) only [rdT,rdS,reduceCtorEq,trT] at h_s))
  |(refine hF ?_;intro _;clear hF)
  |(refine hF ?_;cbv;clear hF)
  |(refine ⟨fun _=>?_,?_⟩;(· ((try simp only [nc] at *);first|done|omega|exact ⟨by omega,rfl⟩|(simp (disch:=(first|omega|(simp only [lnS];omega))) only [rdT,rdS];first|done|omega|rfl|exact ⟨by omega,rfl⟩|(simp;done)|(simp;omega))|(intros;trivial)));(try (simp only [nc] at *));(try simp (disch:=(first|omega|(simp only [lnS];omega))) only [rdT,rdS]);(try cbv))
  | fail
 )
 all_goals (try simp only [nc] at *)
 all_goals (try simp (disch:=(first|omega|(simp only [lnS];omega))) only [rdT,rdS])
 all_goals simp_all [acqM]
theorem drel_ok (V:Vw) {n:Nat} (hV:Wf V n) (a:Nat) (ha:a<n):Pure Try.prog γ false 89 [pVw V,.i fun _=>(a:Int)] (.b fun _=>relM (V.ev.getD a ev0)):=by
 have h1:=hV.ev
 refine Pure.go (ty:=ty) ty_eq mo Try.func89 rfl Try.ntmps89 Try.results89 Try.call89 (by simp) fun P C CQ D W F E hF=>?_
 cbv
 repeat' (first
  |(refine ⟨fun _ h_s=>?_,fun _ h_s=>?_⟩<;>(cbv;(try simp only [nc] at *);try simp (disch:=(first|omega|(simp only [lnS];omega))) only [rdT,rdS,reduceCtorEq,trT] at h_s))
  |(refine hF ?_;intro _;clear hF)
  |(refine hF ?_;cbv;clear hF)
  |(refine ⟨fun _=>?_,?_⟩;(· ((try simp only [nc] at *);first|done|omega|exact ⟨by omega,rfl⟩|(simp (disch:=(first|omega|(simp only [lnS];omega))) only [rdT,rdS];first|done|omega|rfl|exact ⟨by omega,rfl⟩|(simp;done)|(simp;omega))|(intros;trivial)));(try (simp only [nc] at *));(try simp (disch:=(first|omega|(simp only [lnS];omega))) only [rdT,rdS]);(try cbv))
  | fail
 )
 all_goals (try simp only [nc] at *)
 all_goals (try simp (disch:=(first|omega|(simp only [lnS];omega))) only [rdT,rdS])
 all_goals simp_all [relM]
theorem drf_ok (V:Vw) {n:Nat} (hV:Wf V n) (a b:Nat) (ha:a<n) (hb:b<n):Pure Try.prog γ false 58 [pVw V,.i fun _=>(a:Int),.i fun _=>(b:Int)] (.b fun _=>rfM V a b):=by
 have h1:=hV.fr
 refine Pure.go (ty:=ty) ty_eq mo Try.func58 rfl Try.ntmps58 Try.results58 Try.call58 (by simp) fun P C CQ D W F E hF=>?_
 cbv
 repeat' (first
  |(refine ⟨fun _ h_s=>?_,fun _ h_s=>?_⟩<;>(cbv;(try simp only [nc] at *);try simp (disch:=(first|omega|(simp only [lnS];omega))) only [rdT,rdS,reduceCtorEq,trT] at h_s))
  |(refine hF ?_;intro _;clear hF)
  |(refine hF ?_;cbv;clear hF)
  |(refine ⟨fun _=>?_,?_⟩;(· ((try simp only [nc] at *);first|done|omega|exact ⟨by omega,rfl⟩|(simp (disch:=(first|omega|(simp only [lnS];omega))) only [rdT,rdS];first|done|omega|rfl|exact ⟨by omega,rfl⟩|(simp;done)|(simp;omega))|(intros;trivial)));(try (simp only [nc] at *));(try simp (disch:=(first|omega|(simp only [lnS];omega))) only [rdT,rdS]);(try cbv))
  | fail
 )
 all_goals (try simp only [nc] at *)
 all_goals (try simp (disch:=(first|omega|(simp only [lnS];omega))) only [rdT,rdS])
 all_goals simp_all [rfM]
theorem dnear_ok (V:Vw) {n:Nat} (hV:Wf V n) (a b:Nat) (ha:a<n) (hb:b<n):Pure Try.prog γ false 79 [pVw V,.i fun _=>(a:Int),.i fun _=>(b:Int)] (.b fun _=>nearM V a b):=by
 have h1:=hV.ev
 refine Pure.go (ty:=ty) ty_eq mo Try.func79 rfl Try.ntmps79 Try.results79 Try.call79 (by simp) fun P C CQ D W F E hF=>?_
 cbv
 repeat' (first
  |((first|refine E.c (SCalls.of_le (dfence_ok V hV b hb) ?_ ?_)|refine E.q (QCalls.of_le (dfence_ok V hV b hb) ?_ ?_));(· (cbv;(try simp only [nc] at *);first|done|(simp;done)|(simp (disch:=(first|omega|(simp only [lnS];omega))) only [rdT,rdS,anT];first|done|omega|(refine ⟨?_,?_⟩<;>omega))|(simp (disch:=(first|omega|(simp only [lnS];omega))) [rdT,rdS];done)));cbv)
  |((first|refine E.c (SCalls.of_le (dfence_ok V hV a ha) ?_ ?_)|refine E.q (QCalls.of_le (dfence_ok V hV a ha) ?_ ?_));(· (cbv;(try simp only [nc] at *);first|done|(simp;done)|(simp (disch:=(first|omega|(simp only [lnS];omega))) only [rdT,rdS,anT];first|done|omega|(refine ⟨?_,?_⟩<;>omega))|(simp (disch:=(first|omega|(simp only [lnS];omega))) [rdT,rdS];done)));cbv)
  |(refine ⟨fun _ h_s=>?_,fun _ h_s=>?_⟩<;>(cbv;(try simp only [nc] at *);try simp (disch:=(first|omega|(simp only [lnS];omega))) only [rdT,rdS,reduceCtorEq,trT] at h_s))
  |(refine hF ?_;intro _;clear hF)
  |(refine hF ?_;cbv;clear hF)
  |(refine ⟨fun _=>?_,?_⟩;(· ((try simp only [nc] at *);first|done|omega|exact ⟨by omega,rfl⟩|(simp (disch:=(first|omega|(simp only [lnS];omega))) only [rdT,rdS];first|done|omega|rfl|exact ⟨by omega,rfl⟩|(simp;done)|(simp;omega))|(intros;trivial)));(try (simp only [nc] at *));(try simp (disch:=(first|omega|(simp only [lnS];omega))) only [rdT,rdS]);(try cbv))
  |(refine E.d 27 (by decide +kernel) ?_;cbv;(fail_if_success guard_target =~ False))
  | fail
 )
 all_goals (try simp only [nc] at *)
 all_goals (try simp (disch:=(first|omega|(simp only [lnS];omega))) only [rdT,rdS])
 all_goals simp_all [nearM]
theorem dco_ok (V:Vw) {n:Nat} (hV:Wf V n) (a b:Nat) (ha:a<n) (hb:b<n):Pure Try.prog γ false 59 [pVw V,.i fun _=>(a:Int),.i fun _=>(b:Int)] (.b fun _=>coM V a b):=by
 have h1:=hV.pl
 refine Pure.go (ty:=ty) ty_eq mo Try.func59 rfl Try.ntmps59 Try.results59 Try.call59 (by simp) fun P C CQ D W F E hF=>?_
 cbv
 repeat' (first
  |((first|refine E.c (SCalls.of_le (dnear_ok V hV a b ha hb) ?_ ?_)|refine E.q (QCalls.of_le (dnear_ok V hV a b ha hb) ?_ ?_));(· (cbv;(try simp only [nc] at *);first|done|(simp;done)|(simp (disch:=(first|omega|(simp only [lnS];omega))) only [rdT,rdS,anT];first|done|omega|(refine ⟨?_,?_⟩<;>omega))|(simp (disch:=(first|omega|(simp only [lnS];omega))) [rdT,rdS];done)));cbv)
  |(refine ⟨fun _ h_s=>?_,fun _ h_s=>?_⟩<;>(cbv;(try simp only [nc] at *);try simp (disch:=(first|omega|(simp only [lnS];omega))) only [rdT,rdS,reduceCtorEq,trT] at h_s))
  |(refine hF ?_;intro _;clear hF)
  |(refine hF ?_;cbv;clear hF)
  |(refine ⟨fun _=>?_,?_⟩;(· ((try simp only [nc] at *);first|done|omega|exact ⟨by omega,rfl⟩|(simp (disch:=(first|omega|(simp only [lnS];omega))) only [rdT,rdS];first|done|omega|rfl|exact ⟨by omega,rfl⟩|(simp;done)|(simp;omega))|(intros;trivial)));(try (simp only [nc] at *));(try simp (disch:=(first|omega|(simp only [lnS];omega))) only [rdT,rdS]);(try cbv))
  |(refine E.d 29 (by decide +kernel) ?_;cbv;(fail_if_success guard_target =~ False))
  | fail
 )
 all_goals (try simp only [nc] at *)
 all_goals (try simp (disch:=(first|omega|(simp only [lnS];omega))) only [rdT,rdS])
 all_goals (try simp only [coM])
 all_goals grind
theorem dfr_ok (V:Vw) {n:Nat} (hV:Wf V n) (a b:Nat) (ha:a<n) (hb:b<n):Pure Try.prog γ false 60 [pVw V,.i fun _=>(a:Int),.i fun _=>(b:Int)] (.b fun _=>frM V a b):=by
 have h1:=hV.fr
 have h2:=hV.frl a ha
 refine Pure.go (ty:=ty) ty_eq mo Try.func60 rfl Try.ntmps60 Try.results60 Try.call60 (by simp) fun P C CQ D W F E hF=>?_
 cbv
 repeat' (first
  |((first|refine E.c (SCalls.of_le (dco_ok V hV (V.fr.getD a 0).toNat b (by ((try simp only [nc] at *);omega)) hb) ?_ ?_)|refine E.q (QCalls.of_le (dco_ok V hV (V.fr.getD a 0).toNat b (by ((try simp only [nc] at *);omega)) hb) ?_ ?_));(· (cbv;(try simp only [nc] at *);first|done|(simp;done)|(simp (disch:=(first|omega|(simp only [lnS];omega))) only [rdT,rdS,anT];first|done|omega|(refine ⟨?_,?_⟩<;>omega))|(simp (disch:=(first|omega|(simp only [lnS];omega))) [rdT,rdS];done)));cbv)
  |(refine ⟨fun _ h_s=>?_,fun _ h_s=>?_⟩<;>(cbv;(try simp only [nc] at *);try simp (disch:=(first|omega|(simp only [lnS];omega))) only [rdT,rdS,reduceCtorEq,trT] at h_s))
  |(refine hF ?_;intro _;clear hF)
  |(refine hF ?_;cbv;clear hF)
  |(refine ⟨fun _=>?_,?_⟩;(· ((try simp only [nc] at *);first|done|omega|exact ⟨by omega,rfl⟩|(simp (disch:=(first|omega|(simp only [lnS];omega))) only [rdT,rdS];first|done|omega|rfl|exact ⟨by omega,rfl⟩|(simp;done)|(simp;omega))|(intros;trivial)));(try (simp only [nc] at *));(try simp (disch:=(first|omega|(simp only [lnS];omega))) only [rdT,rdS]);(try cbv))
  | fail
 )
 all_goals (try simp only [nc] at *)
 all_goals (try simp (disch:=(first|omega|(simp only [lnS];omega))) only [rdT,rdS])
 all_goals (have e:((a:Int)=b)↔a=b:=Int.ofNat_inj;try simp only [frM,e] at *)
 all_goals grind
theorem dloc_ok (V:Vw) {n:Nat} (hV:Wf V n) (a b:Nat) (ha:a<n) (hb:b<n):Pure Try.prog γ false 62 [pVw V,.i fun _=>(a:Int),.i fun _=>(b:Int)] (.b fun _=>locM V a b):=by
 refine Pure.go (ty:=ty) ty_eq mo Try.func62 rfl Try.ntmps62 Try.results62 Try.call62 (by simp) fun P C CQ D W F E hF=>?_
 cbv
 repeat' (first
  |((first|refine E.c (SCalls.of_le (dnear_ok V hV a b ha hb) ?_ ?_)|refine E.q (QCalls.of_le (dnear_ok V hV a b ha hb) ?_ ?_));(· (cbv;(try simp only [nc] at *);first|done|(simp;done)|(simp (disch:=(first|omega|(simp only [lnS];omega))) only [rdT,rdS,anT];first|done|omega|(refine ⟨?_,?_⟩<;>omega))|(simp (disch:=(first|omega|(simp only [lnS];omega))) [rdT,rdS];done)));cbv)
  |(refine ⟨fun _ h_s=>?_,fun _ h_s=>?_⟩<;>(cbv;(try simp only [nc] at *);try simp (disch:=(first|omega|(simp only [lnS];omega))) only [rdT,rdS,reduceCtorEq,trT] at h_s))
  |(refine hF ?_;intro _;clear hF)
  |(refine hF ?_;cbv;clear hF)
  |(refine ⟨fun _=>?_,?_⟩;(· ((try simp only [nc] at *);first|done|omega|exact ⟨by omega,rfl⟩|(simp (disch:=(first|omega|(simp only [lnS];omega))) only [rdT,rdS];first|done|omega|rfl|exact ⟨by omega,rfl⟩|(simp;done)|(simp;omega))|(intros;trivial)));(try (simp only [nc] at *));(try simp (disch:=(first|omega|(simp only [lnS];omega))) only [rdT,rdS]);(try cbv))
  | fail
 )
 all_goals (try simp only [nc] at *)
 all_goals (try simp (disch:=(first|omega|(simp only [lnS];omega))) only [rdT,rdS])
 all_goals (have e:((a:Int)=b)↔a=b:=Int.ofNat_inj;simp_all [locM])
end Go.AL.Rl
namespace Go.AL.Rl
open Go Go.AL Go.Proofs
set_option maxRecDepth 100000
variable {γ:Nat→Option AV}
def maskTo (p:Nat→Bool):Nat→BitVec 64
 | 0=>0#64
 | n+1=>if p n=true then maskTo p n ||| 1#64 <<< n else maskTo p n
theorem mask_bit (p:Nat→Bool):∀ (n:Nat),n≤64→∀ j,(maskTo p n).getLsbD j=(decide (j<n) && p j)
 | 0,_,j=>by simp [maskTo]
 | n+1,h,j=>by
  have ih:=mask_bit p n (by omega) j
  unfold maskTo
  split
  ·rename_i hp
   rw [BitVec.getLsbD_or,ih,BitVec.getLsbD_shiftLeft,BitVec.getLsbD_one]
   by_cases hj:j=n
   ·subst hj;simp [hp];omega
   ·by_cases hlt:j<n
    ·simp [hlt,show j<n+1 by omega]
    ·simp [hlt,show ¬ j<n+1 by omega];omega
  ·rename_i hp
   rw [ih]
   by_cases hj:j=n
   ·subst hj;simp at hp;simp [hp]
   ·by_cases hlt:j<n
    ·simp [hlt,show j<n+1 by omega]
    ·simp [hlt,show ¬ j<n+1 by omega]
theorem bofInt {k:Nat} (h:k<9223372036854775808):(BitVec.ofInt 64 (k:Int)).toNat=k:=by simp;omega
theorem dmask3_ok (V:Vw) {n:Nat} (hV:Wf V n) (f:Nat) (v u:Unit→AV) (p:Nat→Bool) (hp:∀ k<n,Pure Try.prog γ false f [.i fun _=>(k:Int),.vp v 0,.vp u 0] (.b fun _=>p k)) :
  Pure Try.prog γ false 84 [pVw V,.fn f [] [.vp v 0,.vp u 0]] (.u fun _=>maskTo p n):=by
 have h1:=hV.ids
 have h2:=hV.small
 refine Pure.go (ty:=ty) ty_eq mo Try.func84 rfl Try.ntmps84 Try.results84 Try.call84 (by simp) fun P C CQ D W F E hF=>?_
 cbv
 repeat' (first
  |(refine ⟨fun _ h_s=>?_,fun _ h_s=>?_⟩<;>(cbv;(try simp only [nc] at *);try simp (disch:=(first|omega|(simp only [lnS];omega))) only [rdT,rdS,reduceCtorEq,trT] at h_s))
  |(refine hF ?_;intro _;clear hF)
  |(refine hF ?_;cbv;clear hF)
  |(refine ⟨fun _=>?_,?_⟩;(· ((try simp only [nc] at *);first|done|omega|exact ⟨by omega,rfl⟩|(simp (disch:=(first|omega|(simp only [lnS];omega))) only [rdT,rdS];first|done|omega|rfl|exact ⟨by omega,rfl⟩|(simp;done)|(simp;omega))|(intros;trivial)));(try (simp only [nc] at *));(try simp (disch:=(first|omega|(simp only [lnS];omega))) only [rdT,rdS]);(try cbv))
  | fail
 )
 refine E.loopS (ι:=Nat) (fun k=>k≤n) (fun k=>n-k) (fun k=>[(12,.i fun _=>((k:Nat):Int)),(5,.u fun _=>maskTo p k)]) (fun k h=>h) 0 (fun _=>by first|rfl|simp) (Nat.zero_le _) ?_ fun k hk I hI=>?_
 ·cbv;simp [h1,maskTo]
 cbv
 have hpk:=hp k
 have hbk:=bofInt (k:=k) (by omega)
 repeat' (first
  |(refine hI (k+1) ?_ ?_ ?_;rotate_left 1;(· ((try simp only [nc] at *);omega));(cbv;clear hI;(try clear hF);(try simp only [nc] at *);(try simp (disch:=(first|omega|(simp only [lnS];omega))) only [rdT,rdS,anT]));rotate_left 1;(try ((try simp only [nc] at *);omega)))
  |(refine E.c (SCalls.of_le (hpk (by ((try simp only [nc] at *);omega))) ?_ ?_);(· (cbv;(try simp only [nc] at *);first|done|(simp;done)|(simp (disch:=(first|omega|(simp only [lnS];omega))) only [rdT,rdS,anT];first|done|omega|(refine ⟨?_,?_⟩<;>omega))|(simp (disch:=(first|omega|(simp only [lnS];omega))) [rdT,rdS];done)));cbv)
  |(refine ⟨fun _ h_s=>?_,fun _ h_s=>?_⟩<;>(cbv;(try simp only [nc] at *);try simp (disch:=(first|omega|(simp only [lnS];omega))) only [rdT,rdS,reduceCtorEq,trT] at h_s))
  |(refine hF ?_;intro _;clear hF)
  |(refine hF ?_;cbv;clear hF)
  |(refine ⟨fun _=>?_,?_⟩;(· ((try simp only [nc] at *);first|done|omega|exact ⟨by omega,rfl⟩|(simp (disch:=(first|omega|(simp only [lnS];omega))) only [rdT,rdS];first|done|omega|rfl|exact ⟨by omega,rfl⟩|(simp;done)|(simp;omega))|(intros;trivial)));(try (simp only [nc] at *));(try simp (disch:=(first|omega|(simp only [lnS];omega))) only [rdT,rdS]);(try cbv))
  | fail
 )
 all_goals (try simp only [nc] at *)
 all_goals (try simp (disch:=(first|omega|(simp only [lnS];omega))) only [rdT,rdS])
 ·refine ⟨?_,by omega⟩
  (try simp only [hbk])
  rw [maskTo,if_pos (by assumption)]
  (try rfl)
 ·refine ⟨?_,by omega⟩
  rw [maskTo,if_neg (by simp_all)]
 ·have e:k=n:=by omega
  rw [e]
theorem rowsEq {n:Nat} {a b:List (BitVec 64)} (ha:a.length=n) (hb:b.length=n) (h:∀ i j,bit a i j=bit b i j):a=b:=by
 apply List.ext_getElem (by omega)
 intro i h1 h2
 apply BitVec.eq_of_getLsbD_eq
 intro j hj
 have:=h i j
 unfold bit at this
 simpa [h1,h2] using this
def relRows (n:Nat) (p:Nat→Nat→Bool):List (BitVec 64):=tab n fun i=>maskTo (p i) n
theorem relRows_len (n:Nat) (p:Nat→Nat→Bool):(relRows n p).length=n:=by simp [relRows]
theorem bit_rel {n:Nat} (hn:n≤64) (p:Nat→Nat→Bool) (i j:Nat):bit (relRows n p) i j=(decide (i<n) && (decide (j<n) && p i j)):=by
 by_cases hi:i<n
 ·unfold bit relRows
  rw [tab_get n _ i hi,mask_bit _ _ hn];simp [hi]
 ·rw [bit_out (by rw [relRows_len];omega)];simp [hi]
theorem fits_rel {n:Nat} (hn:n≤64) (p:Nat→Nat→Bool):Fits n (relRows n p):=fits_mk hn (relRows_len n p) fun i j h=>by
 rw [bit_rel hn] at h;simp at h;exact h.2.1
def prE (p:Nat→Nat→Bool) (a b:Nat):List (Int × Int):=(List.range b).flatMap fun j=>if p a j=true then [((a:Int),(j:Int))] else []
def prA (p:Nat→Nat→Bool) (n a:Nat):List (Int × Int):=(List.range a).flatMap fun i=>prE p i n
theorem prE_succ (p:Nat→Nat→Bool) (a b:Nat):prE p a (b+1)=prE p a b++if p a b=true then [((a:Int),(b:Int))] else []:=by
 unfold prE;rw [List.range_succ,List.flatMap_append];simp
theorem prA_succ (p:Nat→Nat→Bool) (n a:Nat):prA p n (a+1)=prA p n a++prE p a n:=by
 unfold prA;rw [List.range_succ,List.flatMap_append];simp
theorem prE_len (p:Nat→Nat→Bool) (a:Nat):∀ b,(prE p a b).length≤b
 | 0=>by simp [prE]
 | b+1=>by rw [prE_succ,List.length_append];have:=prE_len p a b;split<;>simp<;>omega
theorem prA_len (p:Nat→Nat→Bool) (n:Nat):∀ a,(prA p n a).length≤a * n
 | 0=>by simp [prA]
 | a+1=>by rw [prA_succ,List.length_append,Nat.add_mul];have:=prA_len p n a;have:=prE_len p a n;omega
theorem prA_mem (p:Nat→Nat→Bool) (n a:Nat) (q:Int × Int):q∈prA p n a↔∃ i<a,∃ j<n,p i j=true∧q=((i:Int),(j:Int)):=by
 unfold prA prE
 simp only [List.mem_flatMap,List.mem_range]
 constructor
 ·rintro ⟨i,hi,j,hj,h⟩
  split at h
  ·exact ⟨i,hi,j,hj,by assumption,by simpa using h⟩
  ·cases h
 ·rintro ⟨i,hi,j,hj,h1,h2⟩
  exact ⟨i,hi,j,hj,by rw [if_pos h1];simp [h2]⟩
theorem bit_ofStep (n:Nat) (acc:List (BitVec 64)) (hl:acc.length=n) (hn:n≤64) (a b:Nat) (ha:a<n) (hb:b<n) (i j:Nat):bit (ofStep n acc ((a:Int),(b:Int))) i j=(bit acc i j || (decide (i=a) && decide (j=b))):=by
 unfold ofStep
 rw [if_pos (by simp only;omega)]
 simp only [Int.toNat_natCast]
 unfold bit
 by_cases h:i=a
 ·subst h
  rw [getD_set_self _ _ _ (by omega),BitVec.getLsbD_or,BitVec.getLsbD_shiftLeft,BitVec.getLsbD_one]
  by_cases h2:j=b
  ·subst h2;simp;right;omega
  ·simp [h2];omega
 ·rw [getD_set_ne' _ _ _ _ (by omega)];simp [h]
theorem bit_ofTo (n:Nat) (hn:n≤64) (l:List (Int × Int)) (hl:∀ q∈l,∃ a<n,∃ b<n,q=(((a:Nat):Int),((b:Nat):Int))) (i j:Nat):∀ k,k≤l.length→bit (ofTo n l k) i j=decide (((i:Int),(j:Int))∈l.take k)
 | 0,_=>by
  simp only [ofTo,List.take_zero,List.foldl_nil,List.not_mem_nil,decide_false]
  exact bit_zero _ _ _
 | k+1,hk=>by
  have ih:=bit_ofTo n hn l hl i j k (by omega)
  obtain ⟨a,ha,b,hb,he⟩:=hl _ (getD_mem (d:=(0,0)) (show k<l.length by omega))
  rw [ofTo_succ n l k (by omega),he,bit_ofStep n _ (by rw [ofTo_len];simp) hn a b ha hb,ih,take_succ' l k (0,0) (by omega),he]
  simp only [List.mem_append,List.mem_singleton,Prod.mk.injEq,Int.ofNat_inj,Bool.decide_or,Bool.decide_and]
theorem ofTo_rel (n:Nat) (hn:n≤64) (p:Nat→Nat→Bool):ofTo n (prA p n n) (prA p n n).length=relRows n p:=by
 refine rowsEq (n:=n) (by rw [ofTo_len];simp) (relRows_len n p) fun i j=>?_
 rw [bit_ofTo n hn _ (fun q hq=>by
  obtain ⟨a,ha,b,hb,_,he⟩:=(prA_mem p n n q).1 hq
  exact ⟨a,ha,b,hb,he⟩) i j _ (Nat.le_refl _),List.take_length,bit_rel hn,Bool.eq_iff_iff,decide_eq_true_iff,prA_mem]
 simp only [Bool.and_eq_true,decide_eq_true_eq,Prod.mk.injEq,Int.ofNat_inj]
 constructor
 ·rintro ⟨a,ha,b,hb,h1,h2,h3⟩;subst h2;subst h3;exact ⟨ha,hb,h1⟩
 ·rintro ⟨ha,hb,h1⟩;exact ⟨i,ha,j,hb,h1,rfl,rfl⟩
theorem drel1_ok (V:Vw) {n:Nat} (hV:Wf V n) (f:Nat) (v:Unit→AV) (p:Nat→Nat→Bool) (hp:∀ a<n,∀ b<n,Pure Try.prog γ false f [.vp v 0,.i fun _=>(a:Int),.i fun _=>(b:Int)] (.b fun _=>p a b)) :
  Pure Try.prog γ false 56 [pVw V,.fn f [.vp v 0] []] (encRel n (relRows n p)):=by
 have h1:=hV.ids
 have h2:=hV.small
 obtain ⟨G,hG⟩:∃ G:Nat→Nat→Nat,∀ a b,G a b=(prA p n a++prE p a b).length:=⟨_,fun _ _=>rfl⟩
 have hG0:G 0 0=0:=by rw [hG];rfl
 have hof:=of_in (γ:=γ) (n:Int) (prA p n n) (by omega) (by omega) (by have:=prA_len p n n;have:n * n≤62 * 62:=Nat.mul_le_mul h2 h2;omega)
 rw [ofTo_rel n (by omega) p] at hof
 refine Pure.goL (ty:=ty) ty_eq mo Try.func56 rfl Try.ntmps56 Try.results56 Try.call56 (by simp) fun P C CQ D W F E hF=>?_
 refine E.cut 4 (told 43 [(0,pVw V),(4,.ptr 0 0),(5,.vs 2 fun _=>ps (prA p n n))] [.box (.agg [.lit 0,.nils])]) (by kernel_rfl) (Nat.zero_le _) (fun I hI=>?_) (E.bl ?_)
 ·cbv
  repeat' (first
   |(refine ⟨fun _ h_s=>?_,fun _ h_s=>?_⟩<;>(cbv;(try simp only [nc] at *);try simp (disch:=(first|omega|(simp only [lnS];omega))) only [rdT,rdS,reduceCtorEq,trT] at h_s))
   |(refine hF ?_;intro _;clear hF)
   |(refine hF ?_;cbv;clear hF)
   |(refine ⟨fun _=>?_,?_⟩;(· ((try simp only [nc] at *);first|done|omega|exact ⟨by omega,rfl⟩|(simp (disch:=(first|omega|(simp only [lnS];omega))) only [rdT,rdS];first|done|omega|rfl|exact ⟨by omega,rfl⟩|(simp;done)|(simp;omega))|(intros;trivial)));(try (simp only [nc] at *));(try simp (disch:=(first|omega|(simp only [lnS];omega))) only [rdT,rdS]);(try cbv))
   | fail
  )
  refine E.w (AWP.ghostSlot 5 2 rfl (by omega) (E.loopSA (ι:=Nat) (fun a=>a≤n) (fun a=>n-a) (fun a=>[(13,.i fun _=>((a:Nat):Int)),(5,.sl 1 (G a 0) 2 (fun _=>0) fun _=>(prA p n a).length)]) (fun a h=>h.set 1 (.run (G a 0) 2 fun _=>ps (prA p n a))) 0 (fun _=>by first | rfl | simp) (Nat.zero_le _) ?_ fun a ha I hI'=>?_))
  ·cbv;simp [h1,prA,hG0,ps,LV.of]
  cbv
  have hla:=prA_len p n a
  have hsa:=prA_succ p n a
  have hma:a * n≤62 * 62:=Nat.mul_le_mul (by omega) h2
  skip
  repeat' (first
   |(refine ⟨fun _ h_s=>?_,fun _ h_s=>?_⟩<;>(cbv;(try simp only [nc] at *);try simp (disch:=(first|omega|(simp only [lnS];omega))) only [rdT,rdS,reduceCtorEq,trT] at h_s))
   |(refine hF ?_;intro _;clear hF)
   |(refine hF ?_;cbv;clear hF)
   |(refine ⟨fun _=>?_,?_⟩;(· ((try simp only [nc] at *);first|done|omega|exact ⟨by omega,rfl⟩|(simp (disch:=(first|omega|(simp only [lnS];omega))) only [rdT,rdS];first|done|omega|rfl|exact ⟨by omega,rfl⟩|(simp;done)|(simp;omega))|(intros;trivial)|exact ⟨by first|trivial|rfl,by first|trivial|rfl|simp,by first|trivial|simp,by simp;omega,by simp;omega,by simp [AV.flat,AV.cells,AV.one]⟩));(try (simp only [nc] at *));(try simp (disch:=(first|omega|(simp only [lnS];omega))) only [rdT,rdS]);(try cbv))
   | fail
  )
  ·refine E.loopS (ι:=Nat) (fun b=>b≤n) (fun b=>n-b) (fun b=>[(21,.i fun _=>((b:Nat):Int)),(5,.sl 1 (G a b) 2 (fun _=>0) fun _=>(prA p n a++prE p a b).length)]) (fun b h=>h.set 1 (.run (G a b) 2 fun _=>ps (prA p n a++prE p a b))) 0 (fun _=>by first|rfl|simp) (Nat.zero_le _) ?_ fun b hb I2 hI2=>?_
   ·cbv;simp [h1,prE]
   cbv
   have hpk:=hp a
   have hlb:=prE_len p a b
   have hsb:=prE_succ p a b
   repeat' (first
    |(refine hI' (a+1) ?_ ?_ ?_;rotate_left 1;(· ((try simp only [nc] at *);omega));(cbv;clear hI';(try clear hF);(try simp only [nc] at *);(try simp (disch:=(first|omega|(simp only [lnS];omega))) only [rdT,rdS,anT]));rotate_left 1;(try ((try simp only [nc] at *);omega)))
    |(refine hI2 (b+1) ?_ ?_ ?_;rotate_left 1;(· ((try simp only [nc] at *);omega));(cbv;clear hI2;(try clear hF);(try simp only [nc] at *);(try simp (disch:=(first|omega|(simp only [lnS];omega))) only [rdT,rdS,anT]));rotate_left 1;(try ((try simp only [nc] at *);omega)))
    |(refine E.c (SCalls.of_le (hpk (by ((try simp only [nc] at *);omega)) b (by ((try simp only [nc] at *);omega))) ?_ ?_);(· (cbv;(try simp only [nc] at *);first|done|(simp;done)|(simp (disch:=(first|omega|(simp only [lnS];omega))) only [rdT,rdS,anT];first|done|omega|(refine ⟨?_,?_⟩<;>omega))|(simp (disch:=(first|omega|(simp only [lnS];omega))) [rdT,rdS];done)));cbv)
    |(refine ⟨fun _ h_s=>?_,fun _ h_s=>?_⟩<;>(cbv;(try simp only [nc] at *);try simp (disch:=(first|omega|(simp only [lnS];omega))) only [rdT,rdS,reduceCtorEq,trT] at h_s))
    |(refine hF ?_;intro _;clear hF)
    |(refine hF ?_;cbv;clear hF)
    |(refine ⟨fun _=>?_,?_⟩;(· ((try simp only [nc] at *);first|done|omega|exact ⟨by omega,rfl⟩|(simp (disch:=(first|omega|(simp only [lnS];omega))) only [rdT,rdS];first|done|omega|rfl|exact ⟨by omega,rfl⟩|(simp;done)|(simp;omega))|(intros;trivial)|exact ⟨by first|trivial|rfl,by first|trivial|rfl|simp,by first|trivial|simp,by simp;omega,by simp;omega,by simp [AV.flat,AV.cells,AV.one]⟩));(try (simp only [nc] at *));(try simp (disch:=(first|omega|(simp only [lnS];omega))) only [rdT,rdS]);(try cbv))
    | fail
   )
   all_goals (try simp only [nc] at *)
   all_goals (try simp (disch:=(first|omega|(simp only [lnS];omega))) only [rdT,rdS])
   ·rw [if_pos (by assumption)] at hsb
    simp [hG,hsb,ps]
    omega
   ·rw [if_neg (by simp_all)] at hsb
    simp [hG,hsb]
   ·have e:b=n:=by omega
    subst e
    have e0:prE p (a+1) 0=[]:=rfl
    simp only [hG,hsa,e0,List.append_nil]
    simp
  ·refine hI ?_
   cbv
   clear hI hI' hF
   have e:a=n:=by ((try simp only [nc] at *);omega)
   subst e
   (try simp only [nc] at *)
   (try simp (disch:=(first|omega|(simp only [lnS];omega))) only [rdT,rdS,anT])
   refine ⟨by omega,?_⟩
   rw [List.drop_zero,List.take_of_length_le (by simp)]
 ·cbv
  repeat' (first
   |(refine E.c (SCalls.of_le (hof) ?_ ?_);(· (cbv;(try simp only [nc] at *);first|done|(simp;done)|(simp (disch:=(first|omega|(simp only [lnS];omega))) only [rdT,rdS,anT];first|done|omega|(refine ⟨?_,?_⟩<;>omega))|(simp (disch:=(first|omega|(simp only [lnS];omega))) [rdT,rdS];done)));cbv)
   |(refine ⟨fun _ h_s=>?_,fun _ h_s=>?_⟩<;>(cbv;(try simp only [nc] at *);try simp (disch:=(first|omega|(simp only [lnS];omega))) only [rdT,rdS,reduceCtorEq,trT] at h_s))
   |(refine hF ?_;intro _;clear hF)
   |(refine hF ?_;cbv;clear hF)
   |(refine ⟨fun _=>?_,?_⟩;(· ((try simp only [nc] at *);first|done|omega|exact ⟨by omega,rfl⟩|(simp (disch:=(first|omega|(simp only [lnS];omega))) only [rdT,rdS];first|done|omega|rfl|exact ⟨by omega,rfl⟩|(simp;done)|(simp;omega))|(intros;trivial)|exact ⟨by first|trivial|rfl,by first|trivial|rfl|simp,by first|trivial|simp,by simp;omega,by simp;omega,by simp [AV.flat,AV.cells,AV.one]⟩));(try (simp only [nc] at *));(try simp (disch:=(first|omega|(simp only [lnS];omega))) only [rdT,rdS]);(try cbv))
   | fail
  )
  all_goals (try simp only [nc] at *)
  all_goals (try simp (disch:=(first|omega|(simp only [lnS];omega))) only [rdT,rdS])
theorem drel2_ok (V:Vw) {n:Nat} (hV:Wf V n) (f:Nat) (v:Unit→AV) (p:Nat→Nat→Bool) (hp:∀ a<n,∀ b<n,Pure Try.prog γ false f [.i fun _=>(a:Int),.i fun _=>(b:Int),.vp v 0] (.b fun _=>p a b)) :
  Pure Try.prog γ false 56 [pVw V,.fn f [] [.vp v 0]] (encRel n (relRows n p)):=by
 have h1:=hV.ids
 have h2:=hV.small
 obtain ⟨G,hG⟩:∃ G:Nat→Nat→Nat,∀ a b,G a b=(prA p n a++prE p a b).length:=⟨_,fun _ _=>rfl⟩
 have hG0:G 0 0=0:=by rw [hG];rfl
 have hof:=of_in (γ:=γ) (n:Int) (prA p n n) (by omega) (by omega) (by have:=prA_len p n n;have:n * n≤62 * 62:=Nat.mul_le_mul h2 h2;omega)
 rw [ofTo_rel n (by omega) p] at hof
 refine Pure.goL (ty:=ty) ty_eq mo Try.func56 rfl Try.ntmps56 Try.results56 Try.call56 (by simp) fun P C CQ D W F E hF=>?_
 refine E.cut 4 (told 43 [(0,pVw V),(4,.ptr 0 0),(5,.vs 2 fun _=>ps (prA p n n))] [.box (.agg [.lit 0,.nils])]) (by kernel_rfl) (Nat.zero_le _) (fun I hI=>?_) (E.bl ?_)
 ·cbv
  repeat' (first
   |(refine ⟨fun _ h_s=>?_,fun _ h_s=>?_⟩<;>(cbv;(try simp only [nc] at *);try simp (disch:=(first|omega|(simp only [lnS];omega))) only [rdT,rdS,reduceCtorEq,trT] at h_s))
   |(refine hF ?_;intro _;clear hF)
   |(refine hF ?_;cbv;clear hF)
   |(refine ⟨fun _=>?_,?_⟩;(· ((try simp only [nc] at *);first|done|omega|exact ⟨by omega,rfl⟩|(simp (disch:=(first|omega|(simp only [lnS];omega))) only [rdT,rdS];first|done|omega|rfl|exact ⟨by omega,rfl⟩|(simp;done)|(simp;omega))|(intros;trivial)|exact ⟨by first|trivial|rfl,by first|trivial|rfl|simp,by first|trivial|simp,by simp;omega,by simp;omega,by simp [AV.flat,AV.cells,AV.one]⟩));(try (simp only [nc] at *));(try simp (disch:=(first|omega|(simp only [lnS];omega))) only [rdT,rdS]);(try cbv))
   | fail
  )
  refine E.w (AWP.ghostSlot 5 2 rfl (by omega) (E.loopSA (ι:=Nat) (fun a=>a≤n) (fun a=>n-a) (fun a=>[(13,.i fun _=>((a:Nat):Int)),(5,.sl 1 (G a 0) 2 (fun _=>0) fun _=>(prA p n a).length)]) (fun a h=>h.set 1 (.run (G a 0) 2 fun _=>ps (prA p n a))) 0 (fun _=>by first | rfl | simp) (Nat.zero_le _) ?_ fun a ha I hI'=>?_))
  ·cbv;simp [h1,prA,hG0,ps,LV.of]
  cbv
  have hla:=prA_len p n a
  have hsa:=prA_succ p n a
  have hma:a * n≤62 * 62:=Nat.mul_le_mul (by omega) h2
  skip
  repeat' (first
   |(refine ⟨fun _ h_s=>?_,fun _ h_s=>?_⟩<;>(cbv;(try simp only [nc] at *);try simp (disch:=(first|omega|(simp only [lnS];omega))) only [rdT,rdS,reduceCtorEq,trT] at h_s))
   |(refine hF ?_;intro _;clear hF)
   |(refine hF ?_;cbv;clear hF)
   |(refine ⟨fun _=>?_,?_⟩;(· ((try simp only [nc] at *);first|done|omega|exact ⟨by omega,rfl⟩|(simp (disch:=(first|omega|(simp only [lnS];omega))) only [rdT,rdS];first|done|omega|rfl|exact ⟨by omega,rfl⟩|(simp;done)|(simp;omega))|(intros;trivial)|exact ⟨by first|trivial|rfl,by first|trivial|rfl|simp,by first|trivial|simp,by simp;omega,by simp;omega,by simp [AV.flat,AV.cells,AV.one]⟩|exact ⟨by first|trivial|rfl,by first|trivial|rfl|simp,by first|trivial|simp,by simp;omega,by simp;omega,by simp [AV.flat,AV.cells,AV.one]⟩));(try (simp only [nc] at *));(try simp (disch:=(first|omega|(simp only [lnS];omega))) only [rdT,rdS]);(try cbv))
   | fail
  )
  ·refine E.loopS (ι:=Nat) (fun b=>b≤n) (fun b=>n-b) (fun b=>[(21,.i fun _=>((b:Nat):Int)),(5,.sl 1 (G a b) 2 (fun _=>0) fun _=>(prA p n a++prE p a b).length)]) (fun b h=>h.set 1 (.run (G a b) 2 fun _=>ps (prA p n a++prE p a b))) 0 (fun _=>by first|rfl|simp) (Nat.zero_le _) ?_ fun b hb I2 hI2=>?_
   ·cbv;simp [h1,prE]
   cbv
   have hpk:=hp a
   have hlb:=prE_len p a b
   have hsb:=prE_succ p a b
   repeat' (first
    |(refine hI' (a+1) ?_ ?_ ?_;rotate_left 1;(· ((try simp only [nc] at *);omega));(cbv;clear hI';(try clear hF);(try simp only [nc] at *);(try simp (disch:=(first|omega|(simp only [lnS];omega))) only [rdT,rdS,anT]));rotate_left 1;(try ((try simp only [nc] at *);omega)))
    |(refine hI2 (b+1) ?_ ?_ ?_;rotate_left 1;(· ((try simp only [nc] at *);omega));(cbv;clear hI2;(try clear hF);(try simp only [nc] at *);(try simp (disch:=(first|omega|(simp only [lnS];omega))) only [rdT,rdS,anT]));rotate_left 1;(try ((try simp only [nc] at *);omega)))
    |(refine E.c (SCalls.of_le (hpk (by ((try simp only [nc] at *);omega)) b (by ((try simp only [nc] at *);omega))) ?_ ?_);(· (cbv;(try simp only [nc] at *);first|done|(simp;done)|(simp (disch:=(first|omega|(simp only [lnS];omega))) only [rdT,rdS,anT];first|done|omega|(refine ⟨?_,?_⟩<;>omega))|(simp (disch:=(first|omega|(simp only [lnS];omega))) [rdT,rdS];done)));cbv)
    |(refine ⟨fun _ h_s=>?_,fun _ h_s=>?_⟩<;>(cbv;(try simp only [nc] at *);try simp (disch:=(first|omega|(simp only [lnS];omega))) only [rdT,rdS,reduceCtorEq,trT] at h_s))
    |(refine hF ?_;intro _;clear hF)
    |(refine hF ?_;cbv;clear hF)
    |(refine ⟨fun _=>?_,?_⟩;(· ((try simp only [nc] at *);first|done|omega|exact ⟨by omega,rfl⟩|(simp (disch:=(first|omega|(simp only [lnS];omega))) only [rdT,rdS];first|done|omega|rfl|exact ⟨by omega,rfl⟩|(simp;done)|(simp;omega))|(intros;trivial)|exact ⟨by first|trivial|rfl,by first|trivial|rfl|simp,by first|trivial|simp,by simp;omega,by simp;omega,by simp [AV.flat,AV.cells,AV.one]⟩|exact ⟨by first|trivial|rfl,by first|trivial|rfl|simp,by first|trivial|simp,by simp;omega,by simp;omega,by simp [AV.flat,AV.cells,AV.one]⟩));(try (simp only [nc] at *));(try simp (disch:=(first|omega|(simp only [lnS];omega))) only [rdT,rdS]);(try cbv))
    | fail
   )
   all_goals (try simp only [nc] at *)
   all_goals (try simp (disch:=(first|omega|(simp only [lnS];omega))) only [rdT,rdS])
   ·rw [if_pos (by assumption)] at hsb
    simp [hG,hsb,ps]
    omega
   ·rw [if_neg (by simp_all)] at hsb
    simp [hG,hsb]
   ·have e:b=n:=by omega
    subst e
    have e0:prE p (a+1) 0=[]:=rfl
    simp only [hG,hsa,e0,List.append_nil]
    simp
  ·refine hI ?_
   cbv
   clear hI hI' hF
   have e:a=n:=by ((try simp only [nc] at *);omega)
   subst e
   (try simp only [nc] at *)
   (try simp (disch:=(first|omega|(simp only [lnS];omega))) only [rdT,rdS,anT])
   refine ⟨by omega,?_⟩
   rw [List.drop_zero,List.take_of_length_le (by simp)]
 ·cbv
  repeat' (first
   |(refine E.c (SCalls.of_le (hof) ?_ ?_);(· (cbv;(try simp only [nc] at *);first|done|(simp;done)|(simp (disch:=(first|omega|(simp only [lnS];omega))) only [rdT,rdS,anT];first|done|omega|(refine ⟨?_,?_⟩<;>omega))|(simp (disch:=(first|omega|(simp only [lnS];omega))) [rdT,rdS];done)));cbv)
   |(refine ⟨fun _ h_s=>?_,fun _ h_s=>?_⟩<;>(cbv;(try simp only [nc] at *);try simp (disch:=(first|omega|(simp only [lnS];omega))) only [rdT,rdS,reduceCtorEq,trT] at h_s))
   |(refine hF ?_;intro _;clear hF)
   |(refine hF ?_;cbv;clear hF)
   |(refine ⟨fun _=>?_,?_⟩;(· ((try simp only [nc] at *);first|done|omega|exact ⟨by omega,rfl⟩|(simp (disch:=(first|omega|(simp only [lnS];omega))) only [rdT,rdS];first|done|omega|rfl|exact ⟨by omega,rfl⟩|(simp;done)|(simp;omega))|(intros;trivial)|exact ⟨by first|trivial|rfl,by first|trivial|rfl|simp,by first|trivial|simp,by simp;omega,by simp;omega,by simp [AV.flat,AV.cells,AV.one]⟩|exact ⟨by first|trivial|rfl,by first|trivial|rfl|simp,by first|trivial|simp,by simp;omega,by simp;omega,by simp [AV.flat,AV.cells,AV.one]⟩));(try (simp only [nc] at *));(try simp (disch:=(first|omega|(simp only [lnS];omega))) only [rdT,rdS]);(try cbv))
   | fail
  )
  all_goals (try simp only [nc] at *)
  all_goals (try simp (disch:=(first|omega|(simp only [lnS];omega))) only [rdT,rdS])
end Go.AL.Rl
namespace Go.AL.Rl
open Go Go.AL Go.Proofs
set_option maxRecDepth 100000
variable {γ:Nat→Option AV}
inductive InSeq (V:Vw) (n w:Nat):Nat→Prop
 | base:InSeq V n w w
 | step {i:Nat}:i<n→(V.ev.getD i ev0).kind=3→InSeq V n w (V.fr.getD i 0).toNat→InSeq V n w i
theorem InSeq.lt {V:Vw} {n w:Nat} (hw:w<n) {i:Nat} (h:InSeq V n w i):i<n:=by
 cases h with
 | base=>exact hw
 | step h _ _=>exact h
noncomputable def seqM (V:Vw) (n w:Nat):BitVec 64:=maskTo (fun i=>@decide (InSeq V n w i) (Classical.propDecidable _)) n
theorem seq_bit {V:Vw} {n w:Nat} (hn:n≤64) (hw:w<n) (j:Nat):(seqM V n w).getLsbD j=true↔InSeq V n w j:=by
 unfold seqM
 simp only [mask_bit _ _ hn,Bool.and_eq_true,decide_eq_true_eq]
 exact ⟨fun h=>h.2,fun h=>⟨h.lt hw,h⟩⟩
theorem seq_unique {V:Vw} {n w:Nat} (hn:n≤64) (hw:w<n) {s:BitVec 64} (h1:s.getLsbD w=true) (h2:∀ j,s.getLsbD j=true→InSeq V n w j)
  (h3:∀ i<n,(V.ev.getD i ev0).kind=3→s.getLsbD (V.fr.getD i 0).toNat=true→s.getLsbD i=true):s=seqM V n w:=by
 have key:∀ j,InSeq V n w j→s.getLsbD j=true:=by
  intro j h
  induction h with
  | base=>exact h1
  | step hi hk _ ih=>exact h3 _ hi hk ih
 apply BitVec.eq_of_getLsbD_eq
 intro j _
 rw [Bool.eq_iff_iff,seq_bit hn hw]
 exact ⟨h2 j,key j⟩
def cntB:Nat→BitVec 64→Nat
 | 0,_=>0
 | k+1,x=>cntB k x+if x.getLsbD k=true then 1 else 0
theorem cntB_le (x:BitVec 64):∀ k,cntB k x≤k
 | 0=>Nat.le_refl _
 | k+1=>by unfold cntB;have:=cntB_le x k;split<;>omega
theorem cntB_mono {x y:BitVec 64} (h:∀ j,x.getLsbD j=true→y.getLsbD j=true):∀ k,cntB k x≤cntB k y
 | 0=>Nat.le_refl _
 | k+1=>by
  unfold cntB
  have:=cntB_mono h k
  have:=h k
  split<;>split<;>first | omega | simp_all
theorem cntB_lt {x y:BitVec 64} (h:∀ j,x.getLsbD j=true→y.getLsbD j=true) {i:Nat} (h1:x.getLsbD i=false) (h2:y.getLsbD i=true):∀ k,i<k→cntB k x<cntB k y
 | 0,hk=>by omega
 | k+1,hk=>by
  unfold cntB
  by_cases e:i=k
  ·subst e
   have:=cntB_mono h i
   rw [h1,h2];simp;omega
  ·have:=cntB_lt h h1 h2 k (by omega)
   have:=h k
   split<;>split<;>first | omega | simp_all
theorem cntB_ne {x y:BitVec 64} (h:∀ j,x.getLsbD j=true→y.getLsbD j=true) (hne:x≠y):cntB 64 x<cntB 64 y:=by
 have:∃ i,i<64∧x.getLsbD i≠y.getLsbD i:=by
  apply Classical.byContradiction
  intro hc
  apply hne
  apply BitVec.eq_of_getLsbD_eq
  intro i hi
  apply Classical.byContradiction
  intro hd
  exact hc ⟨i,hi,hd⟩
 obtain ⟨i,hi,hd⟩:=this
 have hx:x.getLsbD i=false:=by
  cases hx:x.getLsbD i with
  | false=>rfl
  | true=>rw [hx,h i hx] at hd;exact absurd rfl hd
 have hy:y.getLsbD i=true:=by
  cases hy:y.getLsbD i with
  | true=>rfl
  | false=>rw [hx,hy] at hd;exact absurd rfl hd
 exact cntB_lt h hx hy 64 hi
def upSeq (V:Vw) (s:BitVec 64) (i:Nat):Bool:=decide ((V.ev.getD i ev0).kind=3) && s.getLsbD (V.fr.getD i 0).toNat
theorem getLsb_and1 (x:BitVec 64) (k:Nat):(!decide ((x >>> k) &&& 1#64=0#64))=x.getLsbD k:=by
 cases h:x.getLsbD k with
 | false=>simp [and_one_zero,h]
 | true=>
  have:¬ (x >>> k) &&& 1#64=0#64:=fun h2=>by rw [and_one_zero,h] at h2;cases h2
  simp [this]
theorem seq1_ok (V:Vw) {n:Nat} (hV:Wf V n) (s:BitVec 64) (a:Nat) (ha:a<n):Pure Try.prog γ false 98 [.i fun _=>(a:Int),.vp (fun _=>pVw V) 0,.vp (fun _=>.u fun _=>s) 0] (.b fun _=>upSeq V s a):=by
 have h1:=hV.ev
 have h2:=hV.fr
 have h3:=hV.frl a ha
 have h4:=hV.frg a ha
 have h5:=hV.small
 refine Pure.go (ty:=ty) ty_eq mo Try.func98 rfl Try.ntmps98 Try.results98 Try.call98 (by simp) fun P C CQ D W F E hF=>?_
 cbv
 repeat' (first
  |(refine ⟨fun _ h_s=>?_,fun _ h_s=>?_⟩<;>(cbv;(try simp only [nc] at *);try simp (disch:=(first|omega|(simp only [lnS];omega))) only [rdT,rdS,reduceCtorEq,trT] at h_s))
  |(refine hF ?_;intro _;clear hF)
  |(refine hF ?_;cbv;clear hF)
  |(refine ⟨fun _=>?_,?_⟩;(· ((try simp only [nc] at *);first|done|omega|exact ⟨by omega,rfl⟩|(simp (disch:=(first|omega|(simp only [lnS];omega))) only [rdT,rdS];first|done|omega|rfl|exact ⟨by omega,rfl⟩|(simp;done)|(simp;omega))|(intros;trivial)));(try (simp only [nc] at *));(try simp (disch:=(first|omega|(simp only [lnS];omega))) only [rdT,rdS]);(try cbv))
  |(refine E.d 19 (by decide +kernel) ?_;cbv;(fail_if_success guard_target =~ False))
  | fail
 )
 all_goals (try simp only [nc] at *)
 all_goals (try simp (disch:=(first|omega|(simp only [lnS];omega))) only [rdT,rdS])
 ·have hsh:(BitVec.ofInt 64 (V.fr.getD a 0)).toNat=(V.fr.getD a 0).toNat:=bofZ (h4 (by simp_all [readsM])) (by omega)
  have e:(V.ev.getD a ev0).kind=3:=by assumption
  rw [upSeq,←getLsb_and1]
  (try rw [hsh])
  simp only [e,decide_true,Bool.true_and,decide_not]
 ·simp_all [upSeq]
theorem sequence_ok (V:Vw) {n:Nat} (hV:Wf V n) (w:Nat) (hw:w<n):Pure Try.prog γ false 83 [pVw V,.i fun _=>(w:Int)] (.u fun _=>seqM V n w):=by
 have h5:=hV.small
 have h64:n≤64:=by omega
 have hbw:=bofInt (k:=w) (by omega)
 refine Pure.go (ty:=ty) ty_eq mo Try.func83 rfl Try.ntmps83 Try.results83 Try.call83 (by simp) fun P C CQ D W F E hF=>?_
 cbv
 refine E.loopS (ι:=BitVec 64 × BitVec 64) (fun q=>(∀ j,q.1.getLsbD j=true→q.2.getLsbD j=true)∧(∀ j,q.2.getLsbD j=true→InSeq V n w j)∧q.2.getLsbD w=true∧(∀ i<n,upSeq V q.1 i=true→q.2.getLsbD i=true)) (fun q=>64-cntB 64 q.1) (fun q=>[(6,.u fun _=>q.1)]) (fun q h=>h.set 1 (.box (.u fun _=>q.2))) (0#64,1#64 <<< w) (fun _=>rfl) ?_ ?_ fun q hq I hI=>?_
 ·simp only
  refine ⟨fun j hj=>(by simp at hj),fun j hj=>?_,?_,fun i hi h=>(by simp [upSeq] at h)⟩
  ·rw [BitVec.getLsbD_shiftLeft,BitVec.getLsbD_one] at hj
   simp at hj
   obtain rfl:j=w:=by omega
   exact .base
  ·rw [BitVec.getLsbD_shiftLeft,BitVec.getLsbD_one];simp;omega
 ·cbv
  simp only [hbw,bof0,bof1]
  simp
 obtain ⟨g,a⟩:=q
 simp only at hq
 obtain ⟨hq1,hq2,hq3,hq4⟩:=hq
 cbv
 have hm:=dmask3_ok V hV 98 (fun _=>pVw V) (fun _=>.u fun _=>a) (upSeq V a) fun k hk=>seq1_ok (γ:=γ) V hV a k hk
 repeat' (first
  |(refine E.c (SCalls.of_bare (hm) rfl ?_ ?_);(· (cbv;(try simp only [nc] at *);first|done|(simp;done)|(simp (disch:=(first|omega|(simp only [lnS];omega))) only [rdT,rdS,anT];first|done|omega|(refine ⟨?_,?_⟩<;>omega))|(simp (disch:=(first|omega|(simp only [lnS];omega))) [rdT,rdS];done)));cbv)
  |(refine E.q (QCalls.of_bare (hm) rfl ?_ ?_);(· (cbv;(try simp only [nc] at *);first|done|(simp;done)|(simp (disch:=(first|omega|(simp only [lnS];omega))) only [rdT,rdS,anT];first|done|omega|(refine ⟨?_,?_⟩<;>omega))|(simp (disch:=(first|omega|(simp only [lnS];omega))) [rdT,rdS];done)));cbv)
  |(refine ⟨fun _ h_s=>?_,fun _ h_s=>?_⟩<;>(cbv;(try simp only [nc] at *);try simp (disch:=(first|omega|(simp only [lnS];omega))) only [rdT,rdS,reduceCtorEq,trT] at h_s))
  |(refine hF ?_;intro _;clear hF)
  |(refine hF ?_;cbv;clear hF)
  |(refine ⟨fun _=>?_,?_⟩;(· ((try simp only [nc] at *);first|done|omega|exact ⟨by omega,rfl⟩|(simp (disch:=(first|omega|(simp only [lnS];omega))) only [rdT,rdS];first|done|omega|rfl|exact ⟨by omega,rfl⟩|(simp;done)|(simp;omega))|(intros;trivial)));(try (simp only [nc] at *));(try simp (disch:=(first|omega|(simp only [lnS];omega))) only [rdT,rdS]);(try cbv))
  |(refine E.d 4 (by decide +kernel) ?_;cbv;(fail_if_success guard_target =~ False))
  | fail
 )
 ·have hbits:∀ j,(a ||| maskTo (upSeq V a) n).getLsbD j=(a.getLsbD j || (decide (j<n) && upSeq V a j)):=fun j=>by rw [BitVec.getLsbD_or,mask_bit _ _ h64]
  refine hI (a,a ||| maskTo (upSeq V a) n) ⟨fun j hj=>?_,fun j hj=>?_,?_,fun i hi h=>?_⟩ ?_ ?_
  ·simp only at hj ⊢
   rw [hbits,hj];rfl
  ·simp only at hj
   rw [hbits,Bool.or_eq_true] at hj
   rcases hj with hj | hj
   ·exact hq2 j hj
   ·simp only [upSeq,Bool.and_eq_true,decide_eq_true_eq] at hj
    exact .step hj.1 hj.2.1 (hq2 _ hj.2.2)
  ·simp only;rw [hbits,hq3];rfl
  ·simp only at h ⊢
   rw [hbits,h,decide_eq_true hi];simp
  ·simp only
   have:=cntB_ne hq1 (by assumption)
   have:=cntB_le a 64
   omega
  ·cbv
   clear hI hF
   simp
 ·all_goals (try simp only [nc] at *)
  all_goals (try simp (disch:=(first|omega|(simp only [lnS];omega))) only [rdT,rdS])
  have e:g=a:=by simp_all
  subst e
  exact seq_unique h64 hw hq3 hq2 fun i hi hk h=>hq4 i hi (by unfold upSeq;rw [hk,h];rfl)
def behM (V:Vw) (n:Nat) (s:BitVec 64) (a:Nat):Bool:=s.getLsbD a || (fenceM (V.ev.getD a ev0) && decide (s &&& maskTo (fun b=>poM V b a) n≠0#64))
theorem behind1_ok (V:Vw) {n:Nat} (hV:Wf V n) (a b:Nat) (ha:a<n) (hb:b<n):Pure Try.prog γ false 99 [.i fun _=>(b:Int),.vp (fun _=>pVw V) 0,.vp (fun _=>.i fun _=>(a:Int)) 0] (.b fun _=>poM V b a):=by
 refine Pure.go (ty:=ty) ty_eq mo Try.func99 rfl Try.ntmps99 Try.results99 Try.call99 (by simp) fun P C CQ D W F E hF=>?_
 cbv
 repeat' (first
  |((first|refine E.c (SCalls.of_le (dpo_ok V hV b a hb ha) ?_ ?_)|refine E.q (QCalls.of_le (dpo_ok V hV b a hb ha) ?_ ?_));(· (cbv;(try simp only [nc] at *);first|done|(simp;done)|(simp (disch:=(first|omega|(simp only [lnS];omega))) only [rdT,rdS,anT];first|done|omega|(refine ⟨?_,?_⟩<;>omega))|(simp (disch:=(first|omega|(simp only [lnS];omega))) [rdT,rdS];done)));cbv)
  |(refine ⟨fun _ h_s=>?_,fun _ h_s=>?_⟩<;>(cbv;(try simp only [nc] at *);try simp (disch:=(first|omega|(simp only [lnS];omega))) only [rdT,rdS,reduceCtorEq,trT] at h_s))
  |(refine hF ?_;intro _;clear hF)
  |(refine hF ?_;cbv;clear hF)
  |(refine ⟨fun _=>?_,?_⟩;(· ((try simp only [nc] at *);first|done|omega|exact ⟨by omega,rfl⟩|(simp (disch:=(first|omega|(simp only [lnS];omega))) only [rdT,rdS];first|done|omega|rfl|exact ⟨by omega,rfl⟩|(simp;done)|(simp;omega))|(intros;trivial)));(try (simp only [nc] at *));(try simp (disch:=(first|omega|(simp only [lnS];omega))) only [rdT,rdS]);(try cbv))
  | fail
 )
 all_goals (try simp only [nc] at *)
 all_goals (try simp (disch:=(first|omega|(simp only [lnS];omega))) only [rdT,rdS])
theorem behind_ok (V:Vw) {n:Nat} (hV:Wf V n) (s:BitVec 64) (a:Nat) (ha:a<n):Pure Try.prog γ false 88 [pVw V,.u fun _=>s,.i fun _=>(a:Int)] (.b fun _=>behM V n s a):=by
 have h5:=hV.small
 have hbw:=bofInt (k:=a) (by omega)
 have hm:=dmask3_ok V hV 99 (fun _=>pVw V) (fun _=>.i fun _=>(a:Int)) (fun b=>poM V b a) fun k hk=>behind1_ok (γ:=γ) V hV a k ha hk
 refine Pure.go (ty:=ty) ty_eq mo Try.func88 rfl Try.ntmps88 Try.results88 Try.call88 (by simp) fun P C CQ D W F E hF=>?_
 cbv
 repeat' (first
  |(refine E.c (SCalls.of_bare (hm) rfl ?_ ?_);(· (cbv;(try simp only [nc] at *);first|done|(simp;done)|(simp (disch:=(first|omega|(simp only [lnS];omega))) only [rdT,rdS,anT];first|done|omega|(refine ⟨?_,?_⟩<;>omega))|(simp (disch:=(first|omega|(simp only [lnS];omega))) [rdT,rdS];done)));cbv)
  |(refine E.q (QCalls.of_bare (hm) rfl ?_ ?_);(· (cbv;(try simp only [nc] at *);first|done|(simp;done)|(simp (disch:=(first|omega|(simp only [lnS];omega))) only [rdT,rdS,anT];first|done|omega|(refine ⟨?_,?_⟩<;>omega))|(simp (disch:=(first|omega|(simp only [lnS];omega))) [rdT,rdS];done)));cbv)
  |((first|refine E.c (SCalls.of_le (dfence_ok V hV a ha) ?_ ?_)|refine E.q (QCalls.of_le (dfence_ok V hV a ha) ?_ ?_));(· (cbv;(try simp only [nc] at *);first|done|(simp;done)|(simp (disch:=(first|omega|(simp only [lnS];omega))) only [rdT,rdS,anT];first|done|omega|(refine ⟨?_,?_⟩<;>omega))|(simp (disch:=(first|omega|(simp only [lnS];omega))) [rdT,rdS];done)));cbv)
  |(refine ⟨fun _ h_s=>?_,fun _ h_s=>?_⟩<;>(cbv;(try simp only [nc] at *);try simp (disch:=(first|omega|(simp only [lnS];omega))) only [rdT,rdS,reduceCtorEq,trT] at h_s))
  |(refine hF ?_;intro _;clear hF)
  |(refine hF ?_;cbv;clear hF)
  |(refine ⟨fun _=>?_,?_⟩;(· ((try simp only [nc] at *);first|done|omega|exact ⟨by omega,rfl⟩|(simp (disch:=(first|omega|(simp only [lnS];omega))) only [rdT,rdS];first|done|omega|rfl|exact ⟨by omega,rfl⟩|(simp;done)|(simp;omega))|(intros;trivial)));(try (simp only [nc] at *));(try simp (disch:=(first|omega|(simp only [lnS];omega))) only [rdT,rdS]);(try cbv))
  | fail
 )
 all_goals (try simp only [nc] at *)
 all_goals (try simp (disch:=(first|omega|(simp only [lnS];omega))) only [rdT,rdS])
 all_goals (have hg:=getLsb_and1 s a;simp_all [behM])
def rdrM (V:Vw) (s:BitVec 64) (b:Nat):Bool:=readsM (V.ev.getD b ev0) && decide ((V.ev.getD b ev0).order≠1) && s.getLsbD (V.fr.getD b 0).toNat
theorem sw1_ok (V:Vw) {n:Nat} (hV:Wf V n) (s:BitVec 64) (b:Nat) (hb:b<n):Pure Try.prog γ false 85 [.i fun _=>(b:Int),.vp (fun _=>pVw V) 0,.vp (fun _=>.u fun _=>s) 0] (.b fun _=>rdrM V s b):=by
 have h1:=hV.ev
 have h2:=hV.fr
 have h3:=hV.frl b hb
 have h4:=hV.frg b hb
 have h5:=hV.small
 refine Pure.go (ty:=ty) ty_eq mo Try.func85 rfl Try.ntmps85 Try.results85 Try.call85 (by simp) fun P C CQ D W F E hF=>?_
 cbv
 repeat' (first
  |((first|refine E.c (SCalls.of_le (dreads_ok V hV b hb) ?_ ?_)|refine E.q (QCalls.of_le (dreads_ok V hV b hb) ?_ ?_));(· (cbv;(try simp only [nc] at *);first|done|(simp;done)|(simp (disch:=(first|omega|(simp only [lnS];omega))) only [rdT,rdS,anT];first|done|omega|(refine ⟨?_,?_⟩<;>omega))|(simp (disch:=(first|omega|(simp only [lnS];omega))) [rdT,rdS];done)));cbv)
  |(refine ⟨fun _ h_s=>?_,fun _ h_s=>?_⟩<;>(cbv;(try simp only [nc] at *);try simp (disch:=(first|omega|(simp only [lnS];omega))) only [rdT,rdS,reduceCtorEq,trT] at h_s))
  |(refine hF ?_;intro _;clear hF)
  |(refine hF ?_;cbv;clear hF)
  |(refine ⟨fun _=>?_,?_⟩;(· ((try simp only [nc] at *);first|done|omega|exact ⟨by omega,rfl⟩|(simp (disch:=(first|omega|(simp only [lnS];omega))) only [rdT,rdS];first|done|omega|rfl|exact ⟨by omega,rfl⟩|(simp;done)|(simp;omega))|(intros;trivial)));(try (simp only [nc] at *));(try simp (disch:=(first|omega|(simp only [lnS];omega))) only [rdT,rdS]);(try cbv))
  |(refine E.d 24 (by decide +kernel) ?_;cbv;(fail_if_success guard_target =~ False))
  | fail
 )
 all_goals (try simp only [nc] at *)
 all_goals (try simp (disch:=(first|omega|(simp only [lnS];omega))) only [rdT,rdS])
 ·have hsh:(BitVec.ofInt 64 (V.fr.getD b 0)).toNat=(V.fr.getD b 0).toNat:=bofZ (h4 (by assumption)) (by omega)
  have e1:readsM (V.ev.getD b ev0)=true:=by assumption
  have e2:¬ (V.ev.getD b ev0).order=1:=by assumption
  rw [rdrM,←getLsb_and1]
  (try rw [hsh])
  simp only [e1,ne_eq,e2,not_false_eq_true,decide_true,Bool.true_and,decide_not]
 ·simp_all [rdrM]
 ·simp_all [rdrM]
theorem sw2_ok (V:Vw) {n:Nat} (hV:Wf V n) (s:BitVec 64) (a:Nat) (ha:a<n):Pure Try.prog γ false 86 [.i fun _=>(a:Int),.vp (fun _=>pVw V) 0,.vp (fun _=>.u fun _=>s) 0] (.b fun _=>acqM (V.ev.getD a ev0) && behM V n s a):=by
 refine Pure.go (ty:=ty) ty_eq mo Try.func86 rfl Try.ntmps86 Try.results86 Try.call86 (by simp) fun P C CQ D W F E hF=>?_
 cbv
 repeat' (first
  |((first|refine E.c (SCalls.of_le (behind_ok V hV s a ha) ?_ ?_)|refine E.q (QCalls.of_le (behind_ok V hV s a ha) ?_ ?_));(· (cbv;(try simp only [nc] at *);first|done|(simp;done)|(simp (disch:=(first|omega|(simp only [lnS];omega))) only [rdT,rdS,anT];first|done|omega|(refine ⟨?_,?_⟩<;>omega))|(simp (disch:=(first|omega|(simp only [lnS];omega))) [rdT,rdS];done)));cbv)
  |((first|refine E.c (SCalls.of_le (dacq_ok V hV a ha) ?_ ?_)|refine E.q (QCalls.of_le (dacq_ok V hV a ha) ?_ ?_));(· (cbv;(try simp only [nc] at *);first|done|(simp;done)|(simp (disch:=(first|omega|(simp only [lnS];omega))) only [rdT,rdS,anT];first|done|omega|(refine ⟨?_,?_⟩<;>omega))|(simp (disch:=(first|omega|(simp only [lnS];omega))) [rdT,rdS];done)));cbv)
  |(refine ⟨fun _ h_s=>?_,fun _ h_s=>?_⟩<;>(cbv;(try simp only [nc] at *);try simp (disch:=(first|omega|(simp only [lnS];omega))) only [rdT,rdS,reduceCtorEq,trT] at h_s))
  |(refine hF ?_;intro _;clear hF)
  |(refine hF ?_;cbv;clear hF)
  |(refine ⟨fun _=>?_,?_⟩;(· ((try simp only [nc] at *);first|done|omega|exact ⟨by omega,rfl⟩|(simp (disch:=(first|omega|(simp only [lnS];omega))) only [rdT,rdS];first|done|omega|rfl|exact ⟨by omega,rfl⟩|(simp;done)|(simp;omega))|(intros;trivial)));(try (simp only [nc] at *));(try simp (disch:=(first|omega|(simp only [lnS];omega))) only [rdT,rdS]);(try cbv))
  | fail
 )
 all_goals (try simp only [nc] at *)
 all_goals (try simp (disch:=(first|omega|(simp only [lnS];omega))) only [rdT,rdS])
 all_goals simp_all
theorem sw3_ok (rows:List (BitVec 64)) (n:Nat) (hr:rows.length=n) (hn:n≤64) (a b:Nat) (ha:a<n) (hb:b<n):Pure Try.prog γ false 91 [.i fun _=>(a:Int),.i fun _=>(b:Int),.vp (fun _=>.vs 1 fun _=>us rows) 0] (.b fun _=>bit rows a b):=by
 have hbw:=bofInt (k:=b) (by omega)
 refine Pure.go (ty:=ty) ty_eq mo Try.func91 rfl Try.ntmps91 Try.results91 Try.call91 (by simp) fun P C CQ D W F E hF=>?_
 cbv
 repeat' (first
  |(refine ⟨fun _ h_s=>?_,fun _ h_s=>?_⟩<;>(cbv;(try simp only [nc] at *);try simp (disch:=(first|omega|(simp only [lnS];omega))) only [rdT,rdS,reduceCtorEq,trT] at h_s))
  |(refine hF ?_;intro _;clear hF)
  |(refine hF ?_;cbv;clear hF)
  |(refine ⟨fun _=>?_,?_⟩;(· ((try simp only [nc] at *);first|done|omega|exact ⟨by omega,rfl⟩|(simp (disch:=(first|omega|(simp only [lnS];omega))) only [rdT,rdS];first|done|omega|rfl|exact ⟨by omega,rfl⟩|(simp;done)|(simp;omega))|(intros;trivial)));(try (simp only [nc] at *));(try simp (disch:=(first|omega|(simp only [lnS];omega))) only [rdT,rdS]);(try cbv))
  | fail
 )
 all_goals (try simp only [nc] at *)
 all_goals (try simp (disch:=(first|omega|(simp only [lnS];omega))) only [rdT,rdS])
 have hg:=getLsb_and1 (rows.getD a 0) b
 simp_all [bit]
end Go.AL.Rl
namespace Go.AL.Rl
open Go Go.AL Go.Proofs
set_option maxRecDepth 100000
set_option maxHeartbeats 1600000
variable {γ:Nat→Option AV}
noncomputable def tgtM (V:Vw) (n w:Nat):BitVec 64:=maskTo (fun a=>acqM (V.ev.getD a ev0) && behM V n (maskTo (rdrM V (seqM V n w)) n) a) n
def swR (V:Vw) (w r:Nat):Bool:=writesM (V.ev.getD w ev0) && decide ((V.ev.getD w ev0).order≠1) && relM (V.ev.getD r ev0) && (decide (r=w) || fenceM (V.ev.getD r ev0) && poM V r w)
noncomputable def rowT (V:Vw) (n:Nat):Nat→Nat→BitVec 64
 | 0,_=>0#64
 | w+1,r=>if swR V w r=true then rowT V n w r ||| tgtM V n w else rowT V n w r
theorem tgt_zero (V:Vw) (n w:Nat) (h:maskTo (rdrM V (seqM V n w)) n=0#64):tgtM V n w=0#64:=by
 unfold tgtM
 rw [h]
 have:∀ k,maskTo (fun a=>acqM (V.ev.getD a ev0) && behM V n 0#64 a) k=0#64:=by
  intro k
  induction k with
  | zero=>rfl
  | succ k ih=>unfold maskTo;rw [ih];simp [behM]
 exact this n
theorem rowT_same (V:Vw) (n w:Nat) (r:Nat) (h:swR V w r=false∨tgtM V n w=0#64):rowT V n (w+1) r=rowT V n w r:=by
 unfold rowT
 rcases h with h | h
 ·rw [if_neg (by simp [h])];cases w<;>rfl
 ·rw [h];simp;cases w<;>rfl
noncomputable def swRows (V:Vw) (n:Nat):List (BitVec 64):=tab n (rowT V n n)
theorem row0 (V:Vw) (n:Nat):us (tab n (rowT V n 0))=LV.of (List.replicate n (.u fun _=>0#64)):=by
 rw [show rowT V n 0=fun _=>0#64 from rfl,tab_zero];simp [us]
theorem ustab_get (n:Nat) (f:Nat→BitVec 64) (r:Nat) (h:r<n):(us (tab n f)).l.getD r .any=.u fun _=>f r:=by
 rw [us_get _ r (by rw [tab_len];exact h),tab_get n f r h]
theorem dsw_ok (V:Vw) {n:Nat} (hV:Wf V n):Pure Try.prog γ false 63 [pVw V] (encRel n (relRows n (bit (swRows V n)))):=by
 have h1:=hV.ids
 have h1e:=hV.ev
 have h5:=hV.small
 have hlr:(swRows V n).length=n:=by simp [swRows]
 have hrel:=drel2_ok V hV 91 (fun _=>.vs 1 fun _=>us (swRows V n)) (bit (swRows V n)) fun a ha b hb=>sw3_ok (γ:=γ) (swRows V n) n hlr (by omega) a b ha hb
 refine Pure.goL (ty:=ty) ty_eq mo Try.func63 rfl Try.ntmps63 Try.results63 Try.call63 (by simp) fun P C CQ D W F E hF=>?_
 refine E.cut 4 (told 88 [(1,.ptr 0 0),(2,.ptr 1 0),(3,.vp (fun _=>.vs 1 fun _=>us (swRows V n)) 0)] [.box (pVw V),.box (.agg [.lit 0,.nils])]) (by kernel_rfl) (Nat.zero_le _) (fun I hI=>?_) (E.bl ?_)
 ·cbv
  repeat' (first
   |(refine ⟨fun _ h_s=>?_,fun _ h_s=>?_⟩<;>(cbv;(try simp only [nc] at *);try simp (disch:=(first|omega|(simp only [lnS];omega))) only [rdT,rdS,reduceCtorEq,trT] at h_s))
   |(refine hF ?_;intro _;clear hF)
   |(refine hF ?_;cbv;clear hF)
   |(refine ⟨fun _=>?_,?_⟩;(· ((try simp only [nc] at *);first|done|omega|exact ⟨by omega,rfl⟩|(simp (disch:=(first|omega|(simp only [lnS];omega))) only [rdT,rdS];first|done|omega|rfl|exact ⟨by omega,rfl⟩|(simp;done)|(simp;omega))|(intros;trivial)));(try (simp only [nc] at *));(try simp (disch:=(first|omega|(simp only [lnS];omega))) only [rdT,rdS]);(try cbv))
   | fail
  )
  refine E.loopS (ι:=Nat) (fun w=>w≤n) (fun w=>n-w) (fun w=>[(20,.i fun _=>((w:Nat):Int))]) (fun w h=>h.set 2 (.run 0 1 fun _=>us (tab n (rowT V n w)))) 0 (fun _=>by first|rfl|simp) (Nat.zero_le _) ?_ fun w hw I hI'=>?_
  ·cbv
   (try simp only [nc] at *)
   refine ⟨by simp,⟨by simp,by simp,⟨fun _=>⟨trivial,?_⟩,by simp⟩⟩⟩
   rw [h1,row0];rfl
  cbv
  have hsq:=sequence_ok (γ:=γ) V hV w
  have hm1:=dmask3_ok V hV 85 (fun _=>pVw V) (fun _=>.u fun _=>seqM V n w) (rdrM V (seqM V n w)) fun k hk=>sw1_ok (γ:=γ) V hV (seqM V n w) k hk
  have hm2:=dmask3_ok V hV 86 (fun _=>pVw V) (fun _=>.u fun _=>maskTo (rdrM V (seqM V n w)) n) (fun a=>acqM (V.ev.getD a ev0) && behM V n (maskTo (rdrM V (seqM V n w)) n) a) fun k hk=>sw2_ok (γ:=γ) V hV _ k hk
  repeat' (first
   |(refine hI' (w+1) ?_ ?_ ?_;rotate_left 1;(· ((try simp only [nc] at *);omega));(cbv;clear hI';(try clear hF);(try simp only [nc] at *);(try simp (disch:=(first|omega|(simp only [lnS];omega))) only [rdT,rdS,anT]));rotate_left 1;(try ((try simp only [nc] at *);omega)))
   |(refine E.c (SCalls.of_bare (hm2) rfl ?_ ?_);(· (cbv;(try simp only [nc] at *);first|done|(simp;done)|(simp (disch:=(first|omega|(simp only [lnS];omega))) only [rdT,rdS,anT];first|done|omega|(refine ⟨?_,?_⟩<;>omega))|(simp (disch:=(first|omega|(simp only [lnS];omega))) [rdT,rdS];done)));cbv)
   |(refine E.q (QCalls.of_bare (hm2) rfl ?_ ?_);(· (cbv;(try simp only [nc] at *);first|done|(simp;done)|(simp (disch:=(first|omega|(simp only [lnS];omega))) only [rdT,rdS,anT];first|done|omega|(refine ⟨?_,?_⟩<;>omega))|(simp (disch:=(first|omega|(simp only [lnS];omega))) [rdT,rdS];done)));cbv)
   |(refine E.c (SCalls.of_bare (hm1) rfl ?_ ?_);(· (cbv;(try simp only [nc] at *);first|done|(simp;done)|(simp (disch:=(first|omega|(simp only [lnS];omega))) only [rdT,rdS,anT];first|done|omega|(refine ⟨?_,?_⟩<;>omega))|(simp (disch:=(first|omega|(simp only [lnS];omega))) [rdT,rdS];done)));cbv)
   |(refine E.q (QCalls.of_bare (hm1) rfl ?_ ?_);(· (cbv;(try simp only [nc] at *);first|done|(simp;done)|(simp (disch:=(first|omega|(simp only [lnS];omega))) only [rdT,rdS,anT];first|done|omega|(refine ⟨?_,?_⟩<;>omega))|(simp (disch:=(first|omega|(simp only [lnS];omega))) [rdT,rdS];done)));cbv)
   |(refine E.c (SCalls.of_le (hsq (by ((try simp only [nc] at *);omega))) ?_ ?_);(· (cbv;(try simp only [nc] at *);first|done|(simp;done)|(simp (disch:=(first|omega|(simp only [lnS];omega))) only [rdT,rdS,anT];first|done|omega|(refine ⟨?_,?_⟩<;>omega))|(simp (disch:=(first|omega|(simp only [lnS];omega))) [rdT,rdS];done)));cbv)
   |(refine E.c (SCalls.of_le (dwrites_ok V hV w (by ((try simp only [nc] at *);omega))) ?_ ?_);(· (cbv;(try simp only [nc] at *);first|done|(simp;done)|(simp (disch:=(first|omega|(simp only [lnS];omega))) only [rdT,rdS,anT];first|done|omega|(refine ⟨?_,?_⟩<;>omega))|(simp (disch:=(first|omega|(simp only [lnS];omega))) [rdT,rdS];done)));cbv)
   |(refine ⟨fun _ h_s=>?_,fun _ h_s=>?_⟩<;>(cbv;(try simp only [nc] at *);try simp (disch:=(first|omega|(simp only [lnS];omega))) only [rdT,rdS,reduceCtorEq,trT] at h_s))
   |(refine hF ?_;intro _;clear hF)
   |(refine hF ?_;cbv;clear hF)
   |(refine ⟨fun _=>?_,?_⟩;(· ((try simp only [nc] at *);first|done|omega|exact ⟨by omega,rfl⟩|(simp (disch:=(first|omega|(simp only [lnS];omega))) only [rdT,rdS];first|done|omega|rfl|exact ⟨by omega,rfl⟩|(simp;done)|(simp;omega))|(intros;trivial)));(try (simp only [nc] at *));(try simp (disch:=(first|omega|(simp only [lnS];omega))) only [rdT,rdS]);(try cbv))
   | fail
  )
  ·refine ⟨by omega,congrArg us (tab_congr fun r _=>(rowT_same V n w r (.inl ?_)).symm)⟩
   simp_all [swR]
  ·refine ⟨by omega,congrArg us (tab_congr fun r _=>(rowT_same V n w r (.inl ?_)).symm)⟩
   simp_all [swR]
  ·refine ⟨by omega,congrArg us (tab_congr fun r _=>(rowT_same V n w r (.inr (tgt_zero V n w ?_))).symm)⟩
   simp_all
  ·have hwm:writesM (V.ev.getD w ev0)=true:=by assumption
   have hwo:¬ (V.ev.getD w ev0).order=1:=by assumption
   refine E.loopS (ι:=Nat) (fun r=>r≤n) (fun r=>n-r) (fun r=>[(54,.i fun _=>((r:Nat):Int))]) (fun r h=>h.set 2 (.run 0 1 fun _=>us (tab n fun k=>if k<r then rowT V n (w+1) k else rowT V n w k))) 0 (fun _=>by first|rfl|simp) (Nat.zero_le _) ?_ fun r hr I2 hI2=>?_
   ·cbv
    (try simp only [nc] at *)
    simp [h1]
   cbv
   skip
   repeat' (first
    |(refine hI' (w+1) ?_ ?_ ?_;rotate_left 1;(· ((try simp only [nc] at *);omega));(cbv;clear hI';(try clear hF);(try simp only [nc] at *);(try simp (disch:=(first|omega|(simp only [lnS,tab_len];omega))) only [rdT,rdS,Nat.zero_add,tab_len,tab_get,true_and,anT]));rotate_left 1;(try ((try simp only [nc] at *);omega)))
    |(refine hI2 (r+1) ?_ ?_ ?_;rotate_left 1;(· ((try simp only [nc] at *);omega));(cbv;clear hI2;(try clear hF);(try simp only [nc] at *);(try simp (disch:=(first|omega|(simp only [lnS,tab_len];omega))) only [rdT,rdS,Nat.zero_add,tab_len,tab_get,true_and,anT]));rotate_left 1;(try ((try simp only [nc] at *);omega)))
    |((first|refine E.c (SCalls.of_le (dpo_ok V hV r w (by ((try simp only [nc] at *);omega)) (by ((try simp only [nc] at *);omega))) ?_ ?_)|refine E.q (QCalls.of_le (dpo_ok V hV r w (by ((try simp only [nc] at *);omega)) (by ((try simp only [nc] at *);omega))) ?_ ?_));(· (cbv;(try simp only [nc] at *);first|done|(simp;done)|(simp (disch:=(first|omega|(simp only [lnS,tab_len];omega))) only [rdT,rdS,Nat.zero_add,tab_len,tab_get,true_and,anT];first|done|omega|(refine ⟨?_,?_⟩<;>omega))|(simp (disch:=(first|omega|(simp only [lnS,tab_len];omega))) [rdT,rdS,Nat.zero_add,tab_len,tab_get,true_and];done)));cbv)
    |((first|refine E.c (SCalls.of_le (dfence_ok V hV r (by ((try simp only [nc] at *);omega))) ?_ ?_)|refine E.q (QCalls.of_le (dfence_ok V hV r (by ((try simp only [nc] at *);omega))) ?_ ?_));(· (cbv;(try simp only [nc] at *);first|done|(simp;done)|(simp (disch:=(first|omega|(simp only [lnS,tab_len];omega))) only [rdT,rdS,Nat.zero_add,tab_len,tab_get,true_and,anT];first|done|omega|(refine ⟨?_,?_⟩<;>omega))|(simp (disch:=(first|omega|(simp only [lnS,tab_len];omega))) [rdT,rdS,Nat.zero_add,tab_len,tab_get,true_and];done)));cbv)
    |(refine E.c (SCalls.of_le (drel_ok V hV r (by ((try simp only [nc] at *);omega))) ?_ ?_);(· (cbv;(try simp only [nc] at *);first|done|(simp;done)|(simp (disch:=(first|omega|(simp only [lnS,tab_len];omega))) only [rdT,rdS,Nat.zero_add,tab_len,tab_get,true_and,anT];first|done|omega|(refine ⟨?_,?_⟩<;>omega))|(simp (disch:=(first|omega|(simp only [lnS,tab_len];omega))) [rdT,rdS,Nat.zero_add,tab_len,tab_get,true_and];done)));cbv)
    |(refine ⟨fun _ h_s=>?_,fun _ h_s=>?_⟩<;>(cbv;(try simp only [nc] at *);try simp (disch:=(first|omega|(simp only [lnS,tab_len];omega))) only [rdT,rdS,Nat.zero_add,tab_len,tab_get,true_and,reduceCtorEq,trT] at h_s))
    |(refine hF ?_;intro _;clear hF)
    |(refine hF ?_;cbv;clear hF)
    |(refine ⟨fun _=>?_,?_⟩;(· ((try simp only [nc] at *);first|done|omega|exact ⟨by omega,rfl⟩|(simp (disch:=(first|omega|(simp only [lnS,tab_len];omega))) only [rdT,rdS,Nat.zero_add,tab_len,tab_get,true_and];first|done|omega|rfl|exact ⟨by omega,rfl⟩|(simp;done)|(simp;omega))|(intros;trivial)));(try (simp only [nc] at *));(try simp (disch:=(first|omega|(simp only [lnS,tab_len];omega))) only [rdT,rdS,Nat.zero_add,tab_len,tab_get,true_and]);(try cbv))
    | fail
   )
   all_goals (try (clear hI hF))
   iterate 2
    ·refine ⟨by omega,?_⟩
     have e:((r:Int)=w)↔r=w:=Int.ofNat_inj
     have hsw:swR V w r=true:=by simp_all [swR]
     simp only [Nat.zero_add,ustab_get n _ r (show r<n by omega),at_u,upd_u,us_set,us_of]
     refine congrArg us (tab_set r _ (by omega) ?_ fun k hk hne=>?_)
     ·rw [if_pos (by omega),if_neg (by omega)]
      show rowT V n (w+1) r=_
      unfold rowT
      rw [if_pos hsw]
      cases w<;>rfl
     ·by_cases h:k<r
      ·rw [if_pos h,if_pos (by omega)]
      ·rw [if_neg h,if_neg (by omega)]
   iterate 3
    ·refine ⟨by omega,congrArg us (tab_congr fun k hk=>?_)⟩
     have e:((r:Int)=w)↔r=w:=Int.ofNat_inj
     have hsw:swR V w r=false:=by simp_all [swR]
     by_cases h:k<r
     ·rw [if_pos h,if_pos (by omega)]
     ·rw [if_neg h]
      by_cases h2:k<r+1
      ·rw [if_pos h2]
       obtain rfl:k=r:=by omega
       exact (rowT_same V n w k (.inl hsw)).symm
      ·rw [if_neg h2]
   ·refine ⟨by omega,congrArg us (tab_congr fun k hk=>?_)⟩
    rw [if_pos (by omega)]
  ·refine hI ?_
   cbv
   clear hI hI' hF
   have e:w=n:=by ((try simp only [nc] at *);omega)
   subst e
   (try simp only [nc] at *)
   (try simp (disch:=(first|omega|(simp only [lnS,tab_len];omega))) only [rdT,rdS,Nat.zero_add,tab_len,tab_get,true_and,anT])
   refine ⟨by omega,?_⟩
   rw [h1,List.drop_zero,List.take_of_length_le (by simp)];rfl
 ·cbv
  repeat' (first
   |(refine E.c (SCalls.of_le (hrel) ?_ ?_);(· (cbv;(try simp only [nc] at *);first|done|(simp;done)|(simp (disch:=(first|omega|(simp only [lnS,tab_len];omega))) only [rdT,rdS,Nat.zero_add,tab_len,tab_get,true_and,anT];first|done|omega|(refine ⟨?_,?_⟩<;>omega))|(simp (disch:=(first|omega|(simp only [lnS,tab_len];omega))) [rdT,rdS,Nat.zero_add,tab_len,tab_get,true_and];done)));cbv)
   |(refine ⟨fun _ h_s=>?_,fun _ h_s=>?_⟩<;>(cbv;(try simp only [nc] at *);try simp (disch:=(first|omega|(simp only [lnS,tab_len];omega))) only [rdT,rdS,Nat.zero_add,tab_len,tab_get,true_and,reduceCtorEq,trT] at h_s))
   |(refine hF ?_;intro _;clear hF)
   |(refine hF ?_;cbv;clear hF)
   |(refine ⟨fun _=>?_,?_⟩;(· ((try simp only [nc] at *);first|done|omega|exact ⟨by omega,rfl⟩|(simp (disch:=(first|omega|(simp only [lnS,tab_len];omega))) only [rdT,rdS,Nat.zero_add,tab_len,tab_get,true_and];first|done|omega|rfl|exact ⟨by omega,rfl⟩|(simp;done)|(simp;omega))|(intros;trivial)));(try (simp only [nc] at *));(try simp (disch:=(first|omega|(simp only [lnS,tab_len];omega))) only [rdT,rdS,Nat.zero_add,tab_len,tab_get,true_and]);(try cbv))
   | fail
  )
  all_goals (try simp only [nc] at *)
  all_goals (try simp (disch:=(first|omega|(simp only [lnS,tab_len];omega))) only [rdT,rdS,Nat.zero_add,tab_len,tab_get,true_and])
end Go.AL.Rl
namespace Go.AL.Rl
open Go Go.AL Go.Proofs
set_option maxRecDepth 100000
variable {γ:Nat→Option AV}
def idsI (x:Nat):List EId:=(List.range x).map fun k=>⟨0,(k:Nat)⟩
def idsE (t i:Nat):List EId:=(List.range i).map fun k=>⟨t+1,(k:Nat)⟩
def idsT (g:Gr) (t:Nat):List EId:=(List.range t).flatMap fun k=>idsE k (g.th.getD k []).length
def idsG (g:Gr):List EId:=idsI g.init.length++idsT g g.th.length
def evsI (g:Gr) (x:Nat):List Ev:=(List.range x).map fun k=>⟨2,(k:Nat),1,0,g.init.getD k 0⟩
def evsT (g:Gr) (t:Nat):List Ev:=(List.range t).flatMap fun k=>g.th.getD k []
def evsG (g:Gr):List Ev:=evsI g g.init.length++evsT g g.th.length
theorem idsI_succ (x:Nat):idsI (x+1)=idsI x++[⟨0,x⟩]:=by simp [idsI,List.range_succ]
theorem idsE_succ (t i:Nat):idsE t (i+1)=idsE t i++[⟨t+1,i⟩]:=by simp [idsE,List.range_succ]
theorem idsT_succ (g:Gr) (t:Nat):idsT g (t+1)=idsT g t++idsE t (g.th.getD t []).length:=by simp [idsT,List.range_succ,List.flatMap_append]
theorem evsI_succ (g:Gr) (x:Nat):evsI g (x+1)=evsI g x++[⟨2,x,1,0,g.init.getD x 0⟩]:=by simp [evsI,List.range_succ]
theorem evsT_succ (g:Gr) (t:Nat):evsT g (t+1)=evsT g t++g.th.getD t []:=by simp [evsT,List.range_succ,List.flatMap_append]
theorem idsI_len (x:Nat):(idsI x).length=x:=by simp [idsI]
theorem idsE_len (t i:Nat):(idsE t i).length=i:=by simp [idsE]
theorem evsI_len (g:Gr) (x:Nat):(evsI g x).length=x:=by simp [evsI]
theorem idsT_len (g:Gr):∀ t,(idsT g t).length=(evsT g t).length
 | 0=>rfl
 | t+1=>by rw [idsT_succ,evsT_succ,List.length_append,List.length_append,idsT_len g t,idsE_len]
theorem evsT_len {g:Gr} (h:Short g):∀ t,(evsT g t).length≤14 * t
 | 0=>by simp [evsT]
 | t+1=>by rw [evsT_succ,List.length_append];have:=evsT_len h t;have:=h.at t;omega
theorem idsG_len (g:Gr):(idsG g).length=(evsG g).length:=by simp [idsG,evsG,idsI_len,evsI_len,idsT_len]
theorem evsG_len {g:Gr} (h:Short g):(evsG g).length≤62:=by
 have:=evsT_len h g.th.length
 have:=h.th;have:=h.init
 simp only [evsG,List.length_append,evsI_len];omega
theorem idsI_mem {x:Nat} {d:EId}:d∈idsI x↔d.t=0∧0≤d.i∧d.i<x:=by
 simp only [idsI,List.mem_map,List.mem_range]
 constructor
 ·rintro ⟨k,hk,rfl⟩;exact ⟨rfl,by simp only;omega,by simp only;omega⟩
 ·rintro ⟨h1,h2,h3⟩;exact ⟨d.i.toNat,by omega,EId.ext' (by simp only;omega) (by simp only;omega)⟩
theorem idsE_mem {t i:Nat} {d:EId}:d∈idsE t i↔d.t=t+1∧0≤d.i∧d.i<i:=by
 simp only [idsE,List.mem_map,List.mem_range]
 constructor
 ·rintro ⟨k,hk,rfl⟩;exact ⟨rfl,by simp only;omega,by simp only;omega⟩
 ·rintro ⟨h1,h2,h3⟩;exact ⟨d.i.toNat,by omega,EId.ext' (by simp only;omega) (by simp only;omega)⟩
theorem idsT_mem {g:Gr} {t:Nat} {d:EId}:d∈idsT g t↔1≤d.t∧d.t≤t∧0≤d.i∧d.i<(g.th.getD (d.t-1).toNat []).length:=by
 simp only [idsT,List.mem_flatMap,List.mem_range,idsE_mem]
 constructor
 ·rintro ⟨k,hk,h1,h2,h3⟩
  have:(d.t-1).toNat=k:=by omega
  rw [this];exact ⟨by omega,by omega,h2,h3⟩
 ·rintro ⟨h1,h2,h3,h4⟩
  exact ⟨(d.t-1).toNat,by omega,by omega,h3,h4⟩
theorem idsG_mem {g:Gr} {d:EId}:d∈idsG g↔(eventM g d).isSome=true:=by
 rw [idsG,List.mem_append,idsI_mem,idsT_mem]
 unfold eventM
 by_cases h0:d.t=0
 ·rw [if_pos h0]
  by_cases h1:0≤d.i∧d.i<g.init.length
  ·rw [if_pos h1];simp [h0,h1]
  ·rw [if_neg h1];simp [h0];omega
 ·rw [if_neg h0]
  by_cases h1:0<d.t∧d.t≤g.th.length∧0≤d.i∧d.i<(g.th.getD (d.t-1).toNat []).length
  ·rw [if_pos h1];simp only [Option.isSome_some,iff_true];right;omega
  ·rw [if_neg h1];simp only [Option.isSome_none,Bool.false_eq_true,iff_false];omega
theorem nodup_map_range {α:Type} (f:Nat→α) (hf:∀ a b,f a=f b→a=b) (n:Nat):((List.range n).map f).Nodup:=by
 unfold List.Nodup
 rw [List.pairwise_map]
 exact (List.nodup_range (n:=n)).imp fun hab he=>hab (hf _ _ he)
theorem idsI_nodup (x:Nat):(idsI x).Nodup:=nodup_map_range _ (fun a b h=>by have:=congrArg EId.i h;simp at this;omega) x
theorem idsE_nodup (t i:Nat):(idsE t i).Nodup:=nodup_map_range _ (fun a b h=>by have:=congrArg EId.i h;simp at this;omega) i
theorem idsT_nodup (g:Gr):∀ t,(idsT g t).Nodup
 | 0=>by simp [idsT]
 | t+1=>by
  rw [idsT_succ,List.nodup_append]
  refine ⟨idsT_nodup g t,idsE_nodup _ _,fun a ha b hb=>?_⟩
  rw [idsT_mem] at ha
  rw [idsE_mem] at hb
  rintro rfl
  omega
theorem idsG_nodup (g:Gr):(idsG g).Nodup:=by
 rw [idsG,List.nodup_append]
 refine ⟨idsI_nodup _,idsT_nodup _ _,fun a ha b hb=>?_⟩
 rw [idsI_mem] at ha
 rw [idsT_mem] at hb
 rintro rfl
 omega
theorem evsT_get (g:Gr):∀ (t k:Nat),t≤g.th.length→k<(idsT g t).length→eventM g ((idsT g t).getD k id0)=some ((evsT g t).getD k ev0)
 | 0,k,_,h=>by simp [idsT] at h
 | t+1,k,ht,h=>by
  have hl:=idsT_len g t
  rw [idsT_succ] at h ⊢
  rw [evsT_succ]
  rcases Nat.lt_or_ge k (idsT g t).length with hk | hk
  ·have ih:=evsT_get g t k (by omega) hk
   rw [List.getD_eq_getElem?_getD,List.getElem?_append_left hk,←List.getD_eq_getElem?_getD,ih,List.getD_eq_getElem?_getD,List.getD_eq_getElem?_getD,List.getElem?_append_left (by omega)]
  ·rw [List.length_append,idsE_len] at h
   have hj:k-(idsT g t).length<(g.th.getD t []).length:=by omega
   have e:(idsE t (g.th.getD t []).length)[k-(idsT g t).length]?.getD id0=⟨t+1,((k-(idsT g t).length:Nat):Int)⟩:=by
    simp only [idsE,List.getElem?_map,List.getElem?_range hj,Option.map_some,Option.getD_some]
   have e2:(idsT g t++idsE t (g.th.getD t []).length).getD k id0=⟨t+1,((k-(idsT g t).length:Nat):Int)⟩:=by
    rw [List.getD_eq_getElem?_getD,List.getElem?_append_right hk];exact e
   have e3:(evsT g t++g.th.getD t []).getD k ev0=(g.th.getD t []).getD (k-(idsT g t).length) ev0:=by
    rw [List.getD_eq_getElem?_getD,List.getElem?_append_right (by omega),←hl,←List.getD_eq_getElem?_getD]
   rw [e2,e3,event_thread (by omega) hj]
theorem evsG_get (g:Gr) (k:Nat) (h:k<(idsG g).length):eventM g ((idsG g).getD k id0)=some ((evsG g).getD k ev0):=by
 unfold idsG evsG at *
 rcases Nat.lt_or_ge k g.init.length with hk | hk
 ·rw [List.getD_eq_getElem?_getD,List.getElem?_append_left (by rw [idsI_len];exact hk),List.getD_eq_getElem?_getD,List.getElem?_append_left (by rw [evsI_len];exact hk)]
  simp only [idsI,evsI,List.getElem?_map,List.getElem?_range hk,Option.map_some,Option.getD_some]
  unfold eventM
  rw [if_pos rfl,if_pos ⟨by simp only;omega,by simp only;omega⟩]
  simp
 ·rw [List.length_append,idsI_len] at h
  rw [List.getD_eq_getElem?_getD,List.getElem?_append_right (by rw [idsI_len];exact hk),List.getD_eq_getElem?_getD,List.getElem?_append_right (by rw [evsI_len];exact hk),idsI_len,evsI_len,←List.getD_eq_getElem?_getD,←List.getD_eq_getElem?_getD]
  exact evsT_get g _ _ (Nat.le_refl _) (by omega)
theorem getD_inj {l:List EId} (h:l.Nodup) {i j:Nat} (hi:i<l.length) (hj:j<l.length) (he:l.getD i id0=l.getD j id0):i=j:=by
 unfold List.Nodup at h
 rw [List.pairwise_iff_getElem] at h
 simp only [List.getD_eq_getElem?_getD,List.getElem?_eq_getElem hi,List.getElem?_eq_getElem hj,Option.getD_some] at he
 rcases Nat.lt_trichotomy i j with h1 | h1 | h1
 ·exact absurd he (h i j hi hj h1)
 ·exact h1
 ·exact absurd he.symm (h j i hj hi h1)
def numOf (l:List EId) (d:EId):Nat:=(l.findIdx? fun x=>decide (x=d)).getD 0
theorem numOf_find {l:List EId} {d:EId} (h:d∈l):(l.findIdx? fun x=>decide (x=d))=some (numOf l d):=by
 unfold numOf
 cases hf:l.findIdx? fun x=>decide (x=d) with
 | some i=>rfl
 | none=>
  rw [List.findIdx?_eq_none_iff] at hf
  have:=hf d h
  simp at this
theorem numOf_spec {l:List EId} {d:EId} (h:d∈l):∃ hl:numOf l d<l.length,l[numOf l d]=d:=by
 have:=numOf_find h
 rw [List.findIdx?_eq_some_iff_getElem] at this
 obtain ⟨h1,h2,_⟩:=this
 exact ⟨h1,by simpa using h2⟩
theorem numOf_lt {l:List EId} {d:EId} (h:d∈l):numOf l d<l.length:=(numOf_spec h).1
theorem numOf_get {l:List EId} {d:EId} (h:d∈l):l.getD (numOf l d) id0=d:=by
 obtain ⟨h1,h2⟩:=numOf_spec h
 rw [List.getD_eq_getElem?_getD,List.getElem?_eq_getElem h1]
 exact h2
theorem numOf_at {l:List EId} (h:l.Nodup) {k:Nat} (hk:k<l.length):numOf l (l.getD k id0)=k:=
 getD_inj h (numOf_lt (getD_mem hk)) hk (numOf_get (getD_mem hk))
def tabI (n:Nat) (f:Nat→Int):List Int:=(List.range n).map f
@[simp] theorem tabI_len (n:Nat) (f:Nat→Int):(tabI n f).length=n:=by simp [tabI]
theorem tabI_get (n:Nat) (f:Nat→Int) (i:Nat) (h:i<n):(tabI n f).getD i 0=f i:=by simp [tabI,h]
theorem tabI_congr {n:Nat} {f g:Nat→Int} (h:∀ i<n,f i=g i):tabI n f=tabI n g:=List.map_congr_left fun i hi=>h i (by simpa using hi)
theorem tabI_zero (n:Nat):tabI n (fun _=>0)=List.replicate n 0:=by
 apply List.ext_getElem<;>simp [tabI]
theorem istab_get (n:Nat) (f:Nat→Int) (r:Nat) (h:r<n):(is (tabI n f)).l.getD r .any=.i fun _=>f r:=by
 rw [is_get _ r (by rw [tabI_len];exact h),tabI_get n f r h]
def srcOf (g:Gr) (d:EId):EId:=(g.fr.getD (d.t-1).toNat []).getD d.i.toNat id0
def frOf (g:Gr) (d:EId):Int:=if d.t=0 then -1 else if readsM ((eventM g d).getD ev0)=true then (numOf (idsG g) (srcOf g d):Nat) else -1
def plOf (g:Gr) (d:EId):Int:=if d.t=0 then 0 else match (g.ord.getD ((eventM g d).getD ev0).loc.toNat []).findIdx? (fun x=>decide (x=d)) with | some k=>(k:Nat)+1 | none=>-1
def nG (g:Gr):Nat:=(idsG g).length
def viewG (g:Gr):Vw:=⟨idsG g,evsG g,tabI (nG g) fun m=>frOf g ((idsG g).getD m id0),tabI (nG g) fun m=>plOf g ((idsG g).getD m id0)⟩
theorem source_mem {g:Gr} {d f:EId} (h:sourceM g d f=true) (hr:readsM ((eventM g d).getD ev0)=true):∃ w,eventM g f=some w∧f≠d∧writesM w=true∧w.loc=((eventM g d).getD ev0).loc∧w.wr=((eventM g d).getD ev0).rd:=by
 unfold sourceM at h
 rw [if_pos hr] at h
 split at h
 ·rename_i w hw
  simp only [Bool.and_eq_true,decide_eq_true_eq] at h
  exact ⟨w,hw,h.1.1.1,h.1.1.2,h.1.2,h.2⟩
 ·cases h
theorem src_ok {g:Gr} (hg:GOk g) {d:EId} (hd:d∈idsG g) (h0:d.t≠0):sourceM g d (srcOf g d)=true:=by
 rw [idsG,List.mem_append,idsI_mem,idsT_mem] at hd
 rcases hd with hd | hd
 ·exact absurd hd.1 h0
 ·have:=hg.sources (d.t-1).toNat (by omega) d.i.toNat (by omega)
  have e:(⟨((d.t-1).toNat:Nat)+1,(d.i.toNat:Nat)⟩:EId)=d:=EId.ext' (by simp only;omega) (by simp only;omega)
  rw [e] at this
  exact this
theorem viewG_wf {g:Gr} (hg:GOk g):Wf (viewG g) (nG g):=by
 have hn:nG g≤62:=by unfold nG;rw [idsG_len];exact evsG_len hg.short
 refine ⟨rfl,(idsG_len g).symm,by simp [viewG],by simp [viewG],hn,fun i hi=>?_,fun i hi hr=>?_⟩
 ·simp only [viewG]
  rw [tabI_get _ _ _ hi]
  have hm:(idsG g).getD i id0∈idsG g:=getD_mem hi
  unfold frOf
  split
  ·omega
  ·rename_i h0
   split
   ·rename_i hr
    obtain ⟨w,hw,_⟩:=source_mem (src_ok hg hm h0) hr
    have:=numOf_lt (idsG_mem.2 (by rw [hw];rfl))
    unfold nG;omega
   ·omega
 ·simp only [viewG] at hr ⊢
  rw [tabI_get _ _ _ hi]
  have he:=evsG_get g i hi
  unfold frOf
  rw [he,Option.getD_some,if_pos hr]
  split
  ·rename_i h0
   exfalso
   unfold eventM at he
   rw [if_pos h0] at he
   split at he
   ·have:=Option.some.inj he
    rw [←this] at hr
    simp [readsM] at hr
   ·cases he
  ·omega
end Go.AL.Rl
namespace Go.AL.Rl
open Go Go.AL Go.Proofs
set_option maxRecDepth 100000
set_option maxHeartbeats 1600000
variable {γ:Nat→Option AV}
def iota (m:Nat):List Int:=(List.range m).map fun k=>((k:Nat):Int)
theorem iota_succ (m:Nat):iota (m+1)=iota m++[(m:Int)]:=by simp [iota,List.range_succ]
theorem iota_len (m:Nat):(iota m).length=m:=by simp [iota]
theorem ids_of (a:List EId):LV.of (ids a).l=ids a:=by simp [ids]
theorem evs_of (a:List Ev):LV.of (evs a).l=evs a:=by simp [evs]
theorem ids_app (a b:List EId):(ids a).l++(ids b).l=(ids (a++b)).l:=by simp [ids]
theorem evs_app (a b:List Ev):(evs a).l++(evs b).l=(evs (a++b)).l:=by simp [evs]
def vhp (g:Gr) (L:List EId) (E:List Ev) (m:Nat):List Blk:=
 [.box (aGr g),.box (.agg [.sl 5 m 2 (fun _=>0) fun _=>L.length,.sl 6 m 5 (fun _=>0) fun _=>E.length,.nils,.nils]),.box (.ptr 1 0),.map (fun _=>ids L) (fun _=>is (iota L.length)),.box (.mp 3),.run m 2 fun _=>ids L,.run m 5 fun _=>evs E]
theorem put0_ok (g:Gr)  (L:List EId) (Es:List Ev) (m:Nat) (hl:L.length=Es.length) (hm:L.length≤100) (d:EId) (e:Ev) (hd:d∉L) (L':List EId) (Es':List Ev) (m':Nat) (hL':L'=L++[d]) (hE':Es'=Es++[e]) (hm':m'=m+1) :
  SCalls Try.prog γ 76 [aId d,aEv e,.ptr 2 0,.ptr 4 0] (vhp g L Es m++[]) (Post (.tup []) (vhp g L' Es' m'++[])):=by
 refine SCalls.go (ty:=ty) ty_eq mo Try.func76 rfl Try.ntmps76 Try.results76 Try.call76 (by simp) fun P C CQ D W F E hF=>?_
 cbv
 skip
 skip
 repeat' (first
  |(refine E.de 8 [3,5,6] [] (by decide +kernel) ?_;cbv;(fail_if_success guard_target =~ False))
  |(refine ⟨fun _ h_s=>?_,fun _ h_s=>?_⟩<;>(cbv;(try simp only [nc] at *);try simp (disch:=(first|omega|(simp only [lnS];omega))) only [rdT,rdS,reduceCtorEq,trT] at h_s))
  |(refine hF ?_;intro _;clear hF)
  |(refine hF ?_;cbv;clear hF)
  |(refine ⟨fun _=>?_,?_⟩;(· ((try simp only [nc] at *);first|done|omega|exact ⟨by omega,rfl⟩|(simp (disch:=(first|omega|(simp only [lnS];omega))) only [rdT,rdS];first|done|omega|rfl|exact ⟨by omega,rfl⟩|(simp;done)|(simp;omega))|(intros;trivial)|exact mok_ids _|exact ⟨by first|trivial|rfl,by first|trivial|rfl|simp,by first|trivial|simp,by simp;omega,by simp;omega,by simp [AV.flat,AV.cells,AV.one]⟩));try cbv)
  |(refine E.d 7 (by decide +kernel) ?_;cbv;(fail_if_success guard_target =~ False))
  | fail
 )
 have k1:=mput_new L d hd _ (knums_id d) _ rfl
 have k2:=mputV_new L d hd _ (knums_id d) (iota L.length) L.length _ rfl
 refine ⟨by simp,⟨⟨fun _=>⟨by omega,rfl,by simp [hL']⟩,fun _=>⟨by omega,rfl,by simp [hE']⟩,trivial⟩,by simp⟩,?_⟩
 refine ⟨fun _=>⟨k1.trans (by rw [hL']),k2.trans (by rw [hL',List.length_append,List.length_singleton,iota_succ])⟩,fun _=>⟨by omega,?_⟩,fun _=>⟨by omega,?_⟩,by trivial⟩
 ·show LV.of ((ids L).l++(ids [d]).l)=ids L'
  rw [ids_app,ids_of,hL']
 ·show LV.of ((evs Es).l++(evs [e]).l)=evs Es'
  rw [evs_app,evs_of,hE']
theorem put1_ok (g:Gr) (X:Blk) (L:List EId) (Es:List Ev) (m:Nat) (hl:L.length=Es.length) (hm:L.length≤100) (d:EId) (e:Ev) (hd:d∉L) (L':List EId) (Es':List Ev) (m':Nat) (hL':L'=L++[d]) (hE':Es'=Es++[e]) (hm':m'=m+1) :
  SCalls Try.prog γ 76 [aId d,aEv e,.ptr 2 0,.ptr 4 0] (vhp g L Es m++[X]) (Post (.tup []) (vhp g L' Es' m'++[.any])):=by
 refine SCalls.go (ty:=ty) ty_eq mo Try.func76 rfl Try.ntmps76 Try.results76 Try.call76 (by simp) fun P C CQ D W F E hF=>?_
 cbv
 skip
 skip
 repeat' (first
  |(refine E.de 8 [3,5,6] [] (by decide +kernel) ?_;cbv;(fail_if_success guard_target =~ False))
  |(refine ⟨fun _ h_s=>?_,fun _ h_s=>?_⟩<;>(cbv;(try simp only [nc] at *);try simp (disch:=(first|omega|(simp only [lnS];omega))) only [rdT,rdS,reduceCtorEq,trT] at h_s))
  |(refine hF ?_;intro _;clear hF)
  |(refine hF ?_;cbv;clear hF)
  |(refine ⟨fun _=>?_,?_⟩;(· ((try simp only [nc] at *);first|done|omega|exact ⟨by omega,rfl⟩|(simp (disch:=(first|omega|(simp only [lnS];omega))) only [rdT,rdS];first|done|omega|rfl|exact ⟨by omega,rfl⟩|(simp;done)|(simp;omega))|(intros;trivial)|exact mok_ids _|exact ⟨by first|trivial|rfl,by first|trivial|rfl|simp,by first|trivial|simp,by simp;omega,by simp;omega,by simp [AV.flat,AV.cells,AV.one]⟩|exact mok_ids _|exact ⟨by first|trivial|rfl,by first|trivial|rfl|simp,by first|trivial|simp,by simp;omega,by simp;omega,by simp [AV.flat,AV.cells,AV.one]⟩));try cbv)
  |(refine E.d 7 (by decide +kernel) ?_;cbv;(fail_if_success guard_target =~ False))
  | fail
 )
 have k1:=mput_new L d hd _ (knums_id d) _ rfl
 have k2:=mputV_new L d hd _ (knums_id d) (iota L.length) L.length _ rfl
 refine ⟨by simp,⟨⟨fun _=>⟨by omega,rfl,by simp [hL']⟩,fun _=>⟨by omega,rfl,by simp [hE']⟩,trivial⟩,by simp⟩,?_⟩
 refine ⟨fun _=>⟨k1.trans (by rw [hL']),k2.trans (by rw [hL',List.length_append,List.length_singleton,iota_succ])⟩,fun _=>⟨by omega,?_⟩,fun _=>⟨by omega,?_⟩,by trivial⟩
 ·show LV.of ((ids L).l++(ids [d]).l)=ids L'
  rw [ids_app,ids_of,hL']
 ·show LV.of ((evs Es).l++(evs [e]).l)=evs Es'
  rw [evs_app,evs_of,hE']
theorem lk_num (L:List EId) (s:EId) (hs:s∈L) (k:List Int) (hk:k=[s.t,s.i]) (z:AV):((mval (mfind [.i,.i] (ids L) k) (is (iota L.length)) z).at 0).asI=(numOf L s:Nat):=by
 subst hk
 rw [mfind_ids,numOf_find hs]
 simp only [mval]
 have:=numOf_lt hs
 rw [is_get _ _ (by rw [iota_len];exact this)]
 simp only [at_i]
 simp [iota,this]
def plInit (d:EId):Int:=if d.t=0 then 0 else -1
def plTo (g:Gr) (q:List (EId × Int)) (d:EId):Int:=if d∈q.map (·.1) then plOf g d else plInit d
theorem qsT_keys {g:Gr} {n:Nat} {d:EId}:d∈(qsT g n).map (·.1)↔∃ x<n,d∈g.ord.getD x []:=by
 simp only [qsT,List.mem_map,List.mem_flatMap,List.mem_range]
 constructor
 ·rintro ⟨p,⟨x,hx,d',hd',rfl⟩,rfl⟩;exact ⟨x,hx,hd'⟩
 ·rintro ⟨x,hx,hd⟩;exact ⟨_,⟨x,hx,d,hd,rfl⟩,rfl⟩
theorem isW_event {g:Gr} {x:Int} {d:EId} (h:isW g x d=true):∃ e,eventM g d=some e∧d.t≠0∧writesM e=true∧e.loc=x:=by
 unfold isW at h
 split at h
 ·rename_i e he
  simp only [Bool.and_eq_true,decide_eq_true_eq] at h
  exact ⟨e,he,h.1.1,h.1.2,h.2⟩
 ·cases h
theorem plTo_all {g:Gr} (hg:GOk g) (d:EId):plTo g (qsT g g.ord.length) d=plOf g d:=by
 unfold plTo
 split
 ·rfl
 ·rename_i h
  rw [qsT_keys] at h
  unfold plInit plOf
  split
  ·rfl
  ·split
   ·rename_i k hk
    exfalso
    rw [List.findIdx?_eq_some_iff_getElem] at hk
    obtain ⟨h1,h2,_⟩:=hk
    refine h ⟨((eventM g d).getD ev0).loc.toNat,?_,?_⟩
    ·rcases Nat.lt_or_ge ((eventM g d).getD ev0).loc.toNat g.ord.length with hc | hc
     ·exact hc
     ·exfalso
      rw [List.getD_eq_getElem?_getD,List.getElem?_eq_none hc] at h1
      simp at h1
    ·have:=List.getElem_mem h1
     simp only [decide_eq_true_eq] at h2
     rw [h2] at this
     exact this
   ·rfl
theorem plOf_at {g:Gr} (hg:GOk g) {x i:Nat} (hx:x<g.ord.length) (hi:i<(g.ord.getD x []).length):plOf g ((g.ord.getD x []).getD i id0)=i+1:=by
 obtain ⟨h1,h2,h3⟩:=(ordered_iff g x).1 (hg.orders x (by have:=hg.lord;omega))
 obtain ⟨e,he,h0,hw,hl⟩:=isW_event (h2 _ (getD_mem hi))
 unfold plOf
 rw [if_neg h0,he,Option.getD_some,hl,Int.toNat_natCast]
 have:(g.ord.getD x []).findIdx? (fun z=>decide (z=(g.ord.getD x []).getD i id0))=some i:=by
  have hm:(g.ord.getD x []).getD i id0∈g.ord.getD x []:=getD_mem hi
  have:=numOf_find hm
  rw [this,numOf_at h1 hi]
 rw [this]
theorem ord_mem {g:Gr} (hg:GOk g) {x i:Nat} (hx:x<g.ord.length) (hi:i<(g.ord.getD x []).length):(g.ord.getD x []).getD i id0∈idsG g:=by
 obtain ⟨h1,h2,h3⟩:=(ordered_iff g x).1 (hg.orders x (by have:=hg.lord;omega))
 obtain ⟨e,he,h0,hw,hl⟩:=isW_event (h2 _ (getD_mem hi))
 rw [idsG_mem,he];rfl
theorem ids_where {g:Gr} (hg:GOk g) {k:Nat} (hk:k<(idsG g).length) (h0:((idsG g).getD k id0).t≠0) :
  0≤((idsG g).getD k id0).t-1∧(((idsG g).getD k id0).t-1).toNat<g.fr.length∧((idsG g).getD k id0).t≤4∧0≤((idsG g).getD k id0).i∧((idsG g).getD k id0).i.toNat<(g.fr.getD (((idsG g).getD k id0).t-1).toNat []).length:=by
 have hm:(idsG g).getD k id0∈idsG g:=getD_mem hk
 rw [idsG,List.mem_append,idsI_mem,idsT_mem,←idsG] at hm
 rcases hm with hm | hm
 ·exact absurd hm.1 h0
 ·have h1:=hg.lfr
  have h2:=hg.short.th
  have h3:=(hg.events (((idsG g).getD k id0).t-1).toNat (by omega)).1
  refine ⟨by omega,by omega,by omega,hm.2.2.1,by omega⟩
end Go.AL.Rl
namespace Go.AL.Rl
open Go Go.AL Go.Proofs
set_option maxRecDepth 100000
set_option maxHeartbeats 3200000
variable {γ:Nat→Option AV}
theorem viewOf_no (g:Gr) (hg:Rd g) (h:¬ GOk g):Pure Try.prog γ false 55 [aGr g] (.tup [.np,.b fun _=>false]):=by
 have hc:gcheckM g≠0:=by unfold gcheckM;split<;>simp [h]
 refine Pure.go (ty:=ty) ty_eq mo Try.func55 rfl Try.ntmps55 Try.results55 Try.call55 (by simp) fun P C CQ D W F E hF=>?_
 cbv
 refine E.c (SCalls.of_le (gcheck_ok g hg) ?_ ?_)
 ·(cbv;(try simp only [nc] at *);first|done|(simp;done)|(simp (disch:=(first|omega|(simp only [lnS];omega))) only [rdT,rdS,anT];first|done|omega|(refine ⟨?_,?_⟩<;>omega))|(simp (disch:=(first|omega|(simp only [lnS];omega))) [rdT,rdS];done))
 cbv
 refine br_t (by simpa using hc) ?_
 cbv
 refine hF ?_
 cbv
 simp
theorem stI (n:Nat) (f:Nat→Int) (i:Nat) (y x:Int) (hi:i<n):LV.of ((is (tabI n f)).l.set i ((AV.i fun _=>y).upd 0 (.i fun _=>x)))=is (tabI n fun j=>if j=i then x else f j):=by
 simp only [is,LV.l_of]
 show LV.of (List.set _ _ (.i fun _=>x))=_
 congr 1
 apply List.ext_getElem (by simp)
 intro j h1 h2
 simp only [List.getElem_set,tabI,List.getElem_map,List.getElem_range]
 split
 ·rename_i e;subst e;simp
 ·rename_i e;simp [Ne.symm e]
def vhpF (g:Gr) (L:List EId) (E:List Ev) (n:Nat) (pl:Nat→Int):List Blk:=
 [.box (aGr g),.box (.agg [.sl 5 n 2 (fun _=>0) fun _=>L.length,.sl 6 n 5 (fun _=>0) fun _=>E.length,.sl 7 1 1 (fun _=>0) fun _=>L.length,.sl 8 1 1 (fun _=>0) fun _=>L.length]),.box (.ptr 1 0),.map (fun _=>ids L) (fun _=>is (iota L.length)),.box (.mp 3),.run n 2 fun _=>ids L,.run n 5 fun _=>evs E,.run 1 1 fun _=>is (tabI n fun m=>frOf g (L.getD m id0)),.run 1 1 fun _=>is (tabI n pl)]
theorem ordsAt {g:Gr} (hg:Rd g) (x:Nat):((g.ord.getD x []).length:Int)≤9223372036854775807:=by
 rcases Nat.lt_or_ge x g.ord.length with h1 | h1
 ·exact hg.ords _ (getD_mem h1)
 ·simp [List.getElem?_eq_none h1]
theorem plTo_step {g:Gr} (hg:GOk g) {x i:Nat} (hx:x<g.ord.length) (hi:i<(g.ord.getD x []).length) {m:Nat} (hm:m<(idsG g).length) :
  (if m=numOf (idsG g) ((g.ord.getD x []).getD i id0) then ((i:Int)+1) else plTo g (qsT g x++qsE g x i) ((idsG g).getD m id0))=plTo g (qsT g x++qsE g x (i+1)) ((idsG g).getD m id0):=by
 have hd:=ord_mem hg hx hi
 rw [qsE_succ g x i hi,←List.append_assoc]
 by_cases e:m=numOf (idsG g) ((g.ord.getD x []).getD i id0)
 ·rw [if_pos e,e,numOf_get hd,plTo,if_pos (by simp),plOf_at hg hx hi]
 ·rw [if_neg e]
  have e2:(idsG g).getD m id0≠(g.ord.getD x []).getD i id0:=fun e3=>e (by rw [←e3,numOf_at (idsG_nodup g) hm])
  unfold plTo
  have:((idsG g).getD m id0∈((qsT g x++qsE g x i)++[((g.ord.getD x []).getD i id0,(x:Int))]).map (·.1))↔((idsG g).getD m id0∈(qsT g x++qsE g x i).map (·.1)):=by
   rw [List.map_append,List.mem_append]
   simp only [List.map_cons,List.map_nil,List.mem_singleton,e2,or_false]
  simp only [this]
theorem viewOf_yes (g:Gr) (hg:Rd g) (h:GOk g):Pure Try.prog γ false 55 [aGr g] (.tup [pVw (viewG g),.b fun _=>true]):=by
 have hc:=gcheck0 h
 have hsh:=h.short
 have hin:=hsh.init
 have hth:=hsh.th
 have hwf:=viewG_wf h
 have hn:=hwf.small
 obtain ⟨Lf,hLf⟩:∃ L,L=idsG g:=⟨_,rfl⟩
 obtain ⟨Mf,hMf⟩:∃ L,L=evsG g:=⟨_,rfl⟩
 obtain ⟨n,hnn⟩:∃ n,n=nG g:=⟨_,rfl⟩
 have hLn:Lf.length=n:=by rw [hLf,hnn];rfl
 have hMn:Mf.length=n:=by rw [hMf,hnn];exact hwf.ev
 refine Pure.goL (ty:=ty) ty_eq mo Try.func55 rfl Try.ntmps55 Try.results55 Try.call55 (by simp) fun P C CQ D W F E hF=>?_
 refine E.cut 10 (told 165 [(1,.ptr 0 0),(4,.ptr 2 0),(5,.ptr 4 0)] (vhp g Lf Mf n)) (by kernel_rfl) (Nat.zero_le _) (fun I hI=>?_) ?_
 ·cbv
  refine E.c (SCalls.of_le (gcheck_ok g hg) ?_ ?_)
  ·(cbv;(try simp only [nc] at *);first|done|(simp;done)|(simp (disch:=(first|omega|(simp only [lnS];omega))) only [rdT,rdS,anT];first|done|omega|(refine ⟨?_,?_⟩<;>omega))|(simp (disch:=(first|omega|(simp only [lnS];omega))) [rdT,rdS];done))
  cbv
  refine br_f (by simp [hc]) ?_
  cbv
  refine E.w (AWP.ghostField 1 0 2 rfl rfl ?_)
  refine AWP.ghostField 1 1 5 rfl rfl ?_
  obtain ⟨G,hG⟩:∃ G:Nat→Nat,∀ x,G x=x:=⟨_,fun _=>rfl⟩
  obtain ⟨L,hL⟩:∃ L:Nat→List EId,∀ x,L x=idsI x:=⟨_,fun _=>rfl⟩
  obtain ⟨M,hM⟩:∃ M:Nat→List Ev,∀ x,M x=evsI g x:=⟨_,fun _=>rfl⟩
  have hL0:L 0=[]:=by rw [hL];rfl
  have hM0:M 0=[]:=by rw [hM];rfl
  refine E.loopSA (ι:=Nat) (fun x=>x≤g.init.length) (fun x=>g.init.length-x) (fun x=>[(29,.i fun _=>((x:Nat):Int))]) (fun x h=>vhp g (L x) (M x) (G x)) 0 (fun _=>by first|rfl|simp) (Nat.zero_le _) ?_ fun x hx I0 hI0=>?_
  ·cbv
   simp [hL0,hM0,hG,ids,evs,LV.of,is,iota]
  cbv
  have hput:=put0_ok (γ:=γ) g (L x) (M x) (G x) (by rw [hL,hM,idsI_len,evsI_len]) (by rw [hL,idsI_len];omega) ⟨0,x⟩ ⟨2,x,1,0,g.init.getD x 0⟩ (by rw [hL,idsI_mem];simp only;omega) (L (x+1)) (M (x+1)) (G (x+1)) (by rw [hL,hL,idsI_succ]) (by rw [hM,hM,evsI_succ]) (by rw [hG,hG])
  repeat' (first
   |(refine hI0 (x+1) ?_ ?_ ?_;rotate_left 1;(· ((try simp only [nc] at *);omega));(cbv;clear hI0;(try clear hF);(try simp only [nc] at *);(try simp (disch:=(first|omega|(simp only [lnS];omega))) only [rdT,rdS,anT]));rotate_left 1;(try ((try simp only [nc] at *);omega)))
   |(refine E.c (SCalls.to (hput) rfl (Nat.le_of_ble_eq_true rfl) ?_ ?_ ?_);(· (cbv;(try simp only [nc] at *);first|done|(simp;done)|(simp (disch:=(first|omega|(simp only [lnS];omega))) only [rdT,rdS,anT];first|done|omega|(refine ⟨?_,?_⟩<;>omega))|(simp (disch:=(first|omega|(simp only [lnS];omega))) [rdT,rdS];done)));(· (cbv;(try simp only [nc] at *);first|done|(simp;done)|(simp (disch:=(first|omega|(simp only [lnS];omega))) only [rdT,rdS,anT];first|done|omega|(refine ⟨?_,?_⟩<;>omega))|(simp (disch:=(first|omega|(simp only [lnS];omega))) [rdT,rdS];done)));cbv)
   |(refine ⟨fun _ h_s=>?_,fun _ h_s=>?_⟩<;>(cbv;(try simp only [nc] at *);try simp (disch:=(first|omega|(simp only [lnS];omega))) only [rdT,rdS,reduceCtorEq,trT] at h_s))
   |(refine hF ?_;intro _;clear hF)
   |(refine hF ?_;cbv;clear hF)
   |(refine ⟨fun _=>?_,?_⟩;(· ((try simp only [nc] at *);first|done|omega|exact ⟨by omega,rfl⟩|(simp (disch:=(first|omega|(simp only [lnS];omega))) only [rdT,rdS];first|done|omega|rfl|exact ⟨by omega,rfl⟩|(simp;done)|(simp;omega))|(intros;trivial)));(try (simp only [nc] at *));(try simp (disch:=(first|omega|(simp only [lnS];omega))) only [rdT,rdS]);(try cbv))
   |(refine E.d 9 (by decide +kernel) ?_;cbv;(fail_if_success guard_target =~ False))
   |(refine E.d 18 (by decide +kernel) ?_;cbv;(fail_if_success guard_target =~ False))
   | fail
  )
  ·omega
  clear hI0
  (try simp only [nc] at *)
  have e:x=g.init.length:=by omega
  subst e
  have e1:L g.init.length=idsI g.init.length++idsT g 0:=by rw [hL];simp [idsT]
  have e2:M g.init.length=evsI g g.init.length++evsT g 0:=by rw [hM];simp [evsT]
  obtain ⟨L2,hL2⟩:∃ L2:Nat→Nat→List EId,∀ t i,L2 t i=idsI g.init.length++idsT g t++idsE t i:=⟨_,fun _ _=>rfl⟩
  obtain ⟨M2,hM2⟩:∃ M2:Nat→Nat→List Ev,∀ t i,M2 t i=evsI g g.init.length++evsT g t++(g.th.getD t []).take i:=⟨_,fun _ _=>rfl⟩
  obtain ⟨G2,hG2⟩:∃ G2:Nat→Nat→Nat,∀ t i,G2 t i=(L2 t i).length:=⟨_,fun _ _=>rfl⟩
  have f1:L g.init.length=L2 0 0:=by rw [e1,hL2];simp [idsE]
  have f2:M g.init.length=M2 0 0:=by rw [e2,hM2];simp
  have f3:G g.init.length=G2 0 0:=by rw [hG,hG2,←f1,hL,idsI_len]
  refine E.loopS (ι:=Nat) (fun t=>t≤g.th.length) (fun t=>g.th.length-t) (fun t=>[(45,.i fun _=>((t:Nat):Int))]) (fun t h=>vhp g (L2 t 0) (M2 t 0) (G2 t 0)) 0 (fun _=>by first|rfl|simp) (Nat.zero_le _) ?_ fun t ht I1 hI1=>?_
  ·cbv
   simp [f1,f2,f3]
  cbv
  have hht:=hsh.at t
  repeat' (first
   |(refine ⟨fun _ h_s=>?_,fun _ h_s=>?_⟩<;>(cbv;(try simp only [nc] at *);try simp (disch:=(first|omega|(simp only [lnS];omega))) only [rdT,rdS,reduceCtorEq,trT] at h_s))
   |(refine hF ?_;intro _;clear hF)
   |(refine hF ?_;cbv;clear hF)
   |(refine ⟨fun _=>?_,?_⟩;(· ((try simp only [nc] at *);first|done|omega|exact ⟨by omega,rfl⟩|(simp (disch:=(first|omega|(simp only [lnS];omega))) only [rdT,rdS];first|done|omega|rfl|exact ⟨by omega,rfl⟩|(simp;done)|(simp;omega))|(intros;trivial)));(try (simp only [nc] at *));(try simp (disch:=(first|omega|(simp only [lnS];omega))) only [rdT,rdS]);(try cbv))
   |(refine E.d 9 (by decide +kernel) ?_;cbv;(fail_if_success guard_target =~ False))
   |(refine E.d 18 (by decide +kernel) ?_;cbv;(fail_if_success guard_target =~ False))
   | fail
  )
  ·refine E.loopS (ι:=Nat) (fun i=>i≤(g.th.getD t []).length) (fun i=>(g.th.getD t []).length-i) (fun i=>[(52,.i fun _=>((i:Nat):Int))]) (fun i h=>vhp g (L2 t i) (M2 t i) (G2 t i)) 0 (fun _=>by first|rfl|simp) (Nat.zero_le _) ?_ fun i hi I2 hI2=>?_
   ·cbv
    simp
   cbv
   have hLl:(L2 t i).length=(M2 t i).length:=by
    rw [hL2,hM2];simp only [List.length_append,idsI_len,evsI_len,idsE_len,idsT_len,List.length_take];omega
   have hLm:(L2 t i).length≤100:=by
    have:=evsT_len hsh t
    rw [hL2];simp only [List.length_append,idsI_len,idsE_len,idsT_len];omega
   have hLnot:(⟨t+1,i⟩:EId)∉L2 t i:=by
    rw [hL2,List.mem_append,List.mem_append,idsI_mem,idsT_mem,idsE_mem];simp only;omega
   have hLs:L2 t (i+1)=L2 t i++[⟨t+1,i⟩]:=by rw [hL2,hL2,idsE_succ];simp only [List.append_assoc]
   have hMs:i<(g.th.getD t []).length→M2 t (i+1)=M2 t i++[(g.th.getD t []).getD i ev0]:=fun hi=>by rw [hM2,hM2,take_succ' _ i ev0 hi];simp only [List.append_assoc]
   have hGs:G2 t (i+1)=G2 t i+1:=by rw [hG2,hG2,hLs];simp
   have hput:=put1_ok (γ:=γ) g .any (L2 t i) (M2 t i) (G2 t i) hLl hLm ⟨t+1,i⟩ ((g.th.getD t []).getD i ev0) hLnot (L2 t (i+1)) (M2 t (i+1)) (G2 t (i+1)) hLs
   repeat' (first
    |(refine hI1 (t+1) ?_ ?_ ?_;rotate_left 1;(· ((try simp only [nc] at *);omega));(cbv;clear hI1;(try clear hF);(try simp only [nc] at *);(try simp (disch:=(first|omega|(simp only [lnS];omega))) only [rdT,rdS,anT]));rotate_left 1;(try ((try simp only [nc] at *);omega)))
    |(refine hI2 (i+1) ?_ ?_ ?_;rotate_left 1;(· ((try simp only [nc] at *);omega));(cbv;clear hI2;(try clear hF);(try simp only [nc] at *);(try simp (disch:=(first|omega|(simp only [lnS];omega))) only [rdT,rdS,anT]));rotate_left 1;(try ((try simp only [nc] at *);omega)))
    |(refine E.c (SCalls.to (hput (hMs (by ((try simp only [nc] at *);omega))) hGs) rfl (Nat.le_of_ble_eq_true rfl) ?_ ?_ ?_);(· (cbv;(try simp only [nc] at *);first|done|(simp;done)|(simp (disch:=(first|omega|(simp only [lnS];omega))) only [rdT,rdS,anT];first|done|omega|(refine ⟨?_,?_⟩<;>omega))|(simp (disch:=(first|omega|(simp only [lnS];omega))) [rdT,rdS];done)));(· (cbv;(try simp only [nc] at *);first|done|(simp;done)|(simp (disch:=(first|omega|(simp only [lnS];omega))) only [rdT,rdS,anT];first|done|omega|(refine ⟨?_,?_⟩<;>omega))|(simp (disch:=(first|omega|(simp only [lnS];omega))) [rdT,rdS];done)));cbv)
    |(refine ⟨fun _ h_s=>?_,fun _ h_s=>?_⟩<;>(cbv;(try simp only [nc] at *);try simp (disch:=(first|omega|(simp only [lnS];omega))) only [rdT,rdS,reduceCtorEq,trT] at h_s))
    |(refine hF ?_;intro _;clear hF)
    |(refine hF ?_;cbv;clear hF)
    |(refine ⟨fun _=>?_,?_⟩;(· ((try simp only [nc] at *);first|done|omega|exact ⟨by omega,rfl⟩|(simp (disch:=(first|omega|(simp only [lnS];omega))) only [rdT,rdS];first|done|omega|rfl|exact ⟨by omega,rfl⟩|(simp;done)|(simp;omega))|(intros;trivial)));(try (simp only [nc] at *));(try simp (disch:=(first|omega|(simp only [lnS];omega))) only [rdT,rdS]);(try cbv))
    |(refine E.d 9 (by decide +kernel) ?_;cbv;(fail_if_success guard_target =~ False))
    |(refine E.d 18 (by decide +kernel) ?_;cbv;(fail_if_success guard_target =~ False))
    | fail
   )
   ·omega
   ·clear hput
    have e:i=(g.th.getD t []).length:=by omega
    subst e
    have q1:L2 t (g.th.getD t []).length=L2 (t+1) 0:=by rw [hL2,hL2,idsT_succ];simp [idsE]
    have q2:M2 t (g.th.getD t []).length=M2 (t+1) 0:=by rw [hM2,hM2,evsT_succ,List.take_length];simp
    have q3:G2 t (g.th.getD t []).length=G2 (t+1) 0:=by rw [hG2,hG2,q1]
    simp only [q1,q2,q3,and_self,and_true]
    omega
  ·refine hI ?_
   cbv
   clear hI hI1 hF
   have e:t=g.th.length:=by ((try simp only [nc] at *);omega)
   subst e
   (try simp only [nc] at *)
   (try simp (disch:=(first|omega|(simp only [lnS];omega))) only [rdT,rdS,anT])
   have q1:L2 g.th.length 0=Lf:=by rw [hL2,hLf];simp [idsE,idsG]
   have q2:M2 g.th.length 0=Mf:=by rw [hM2,hMf];simp [evsG]
   have q3:G2 g.th.length 0=n:=by rw [hG2,q1,hLn]
   simp only [q1,q2,q3,and_self]
 refine E.cut 3 (told 165 [(1,.ptr 0 0),(4,.ptr 2 0),(5,.ptr 4 0)] (vhpF g Lf Mf n (fun m=>plInit (Lf.getD m id0)))) (by kernel_rfl) (Nat.zero_le _) (fun I hI=>?_) (E.bl ?_)
 ·cbv
  refine E.de 17 [1] [some 1,some 1] (by decide +kernel) ?_
  cbv
  refine ⟨fun _=>?_,?_⟩
  ·((try simp only [nc] at *);first|done|omega|exact ⟨by omega,rfl⟩|(simp (disch:=(first|omega|(simp only [lnS];omega))) only [rdT,rdS];first|done|omega|rfl|exact ⟨by omega,rfl⟩|(simp;done)|(simp;omega))|(intros;trivial))
  try cbv
  refine ⟨fun _=>?_,?_⟩
  ·((try simp only [nc] at *);first|done|omega|exact ⟨by omega,rfl⟩|(simp (disch:=(first|omega|(simp only [lnS];omega))) only [rdT,rdS];first|done|omega|rfl|exact ⟨by omega,rfl⟩|(simp;done)|(simp;omega))|(intros;trivial))
  try cbv
  obtain ⟨fr,hfr⟩:∃ fr:Nat→Nat→Int,∀ k m,fr k m=if m<k then frOf g (Lf.getD m id0) else 0:=⟨_,fun _ _=>rfl⟩
  obtain ⟨pl,hpl⟩:∃ pl:Nat→Nat→Int,∀ k m,pl k m=if m<k then plInit (Lf.getD m id0) else 0:=⟨_,fun _ _=>rfl⟩
  have hfr0:fr 0=fun _=>0:=funext fun m=>by rw [hfr,if_neg (Nat.not_lt_zero m)]
  have hpl0:pl 0=fun _=>0:=funext fun m=>by rw [hpl,if_neg (Nat.not_lt_zero m)]
  clear hF
  refine E.loopS (ι:=Nat) (fun k=>k≤n) (fun k=>n-k) (fun k=>[(89,.i fun _=>((k:Nat):Int))]) (fun k h=>(h.set 7 (.run 1 1 fun _=>is (tabI n (fr k)))).set 8 (.run 1 1 fun _=>is (tabI n (pl k)))) 0 (fun _=>by first|rfl|simp) (Nat.zero_le _) ?_ fun k hk I2 hI2=>?_
  ·cbv
   simp only [hfr0,hpl0,tabI_zero,hLn,Int.toNat_natCast,implies_true,and_self,true_and,and_true]
   exact ⟨fun _=>by simp [is],fun _=>by simp [is]⟩
  cbv
  have hkn:0+k=k:=Nat.zero_add k
  have hrd:=fun hk:k<n=>dreads0_ok (γ:=γ) ⟨Lf,Mf,tabI n fun j=>if j=k then -1 else fr k j,tabI n fun j=>if j=k then -1 else pl k j⟩ k (by rw [hMn];exact hk)
  skip
  skip
  skip
  repeat' (first
   |(refine hI2 (k+1) ?_ ?_ ?_;rotate_left 1;(· ((try simp only [nc] at *);omega));(cbv;clear hI2;(try clear hF);(try simp only [nc] at *);(try simp (disch:=(first|omega|(simp only [lnS,tabI_len];omega))) only [rdT,rdS,Nat.zero_add,true_and,tabI_len,stI,List.drop_zero,List.take_of_length_le,anT]));rotate_left 1;(try ((try simp only [nc] at *);omega)))
   |(refine E.c (SCalls.of_bare (hrd (by ((try simp only [nc] at *);omega))) rfl ?_ ?_);(· (cbv;(try simp only [nc] at *);first|done|(simp;done)|(simp (disch:=(first|omega|(simp only [lnS,tabI_len];omega))) only [rdT,rdS,Nat.zero_add,true_and,tabI_len,stI,List.drop_zero,List.take_of_length_le,anT];first|done|omega|(refine ⟨?_,?_⟩<;>omega))|(simp (disch:=(first|omega|(simp only [lnS,tabI_len];omega))) [rdT,rdS,Nat.zero_add,true_and,tabI_len,stI,List.drop_zero,List.take_of_length_le];done)));cbv)
   |(refine E.q (QCalls.of_bare (hrd (by ((try simp only [nc] at *);omega))) rfl ?_ ?_);(· (cbv;(try simp only [nc] at *);first|done|(simp;done)|(simp (disch:=(first|omega|(simp only [lnS,tabI_len];omega))) only [rdT,rdS,Nat.zero_add,true_and,tabI_len,stI,List.drop_zero,List.take_of_length_le,anT];first|done|omega|(refine ⟨?_,?_⟩<;>omega))|(simp (disch:=(first|omega|(simp only [lnS,tabI_len];omega))) [rdT,rdS,Nat.zero_add,true_and,tabI_len,stI,List.drop_zero,List.take_of_length_le];done)));cbv)
   |(refine E.de 12 [7,8] [] (by decide +kernel) ?_;cbv;(fail_if_success guard_target =~ False))
   |(refine ⟨fun _ h_s=>?_,fun _ h_s=>?_⟩<;>(cbv;(try simp only [nc] at *);try simp (disch:=(first|omega|(simp only [lnS,tabI_len];omega))) only [rdT,rdS,Nat.zero_add,true_and,tabI_len,stI,List.drop_zero,List.take_of_length_le,reduceCtorEq,trT] at h_s))
   |(refine hF ?_;intro _;clear hF)
   |(refine hF ?_;cbv;clear hF)
   |(refine ⟨fun _=>?_,?_⟩;(· ((try simp only [nc] at *);first|done|omega|exact ⟨by omega,rfl⟩|(simp (disch:=(first|omega|(simp only [lnS,tabI_len];omega))) only [rdT,rdS,Nat.zero_add,true_and,tabI_len,stI,List.drop_zero,List.take_of_length_le];first|done|omega|rfl|exact ⟨by omega,rfl⟩|(simp;done)|(simp;omega))|(intros;trivial)|exact rfl|exact ⟨by omega,by rw [istab_get _ _ _ (by omega)];rfl⟩));(try (simp only [nc] at *));(try simp (disch:=(first|omega|(simp only [lnS,tabI_len];omega))) only [rdT,rdS,Nat.zero_add,true_and,tabI_len,stI,List.drop_zero,List.take_of_length_le]);(try cbv))
   |(refine E.d 9 (by decide +kernel) ?_;cbv;(fail_if_success guard_target =~ False))
   |(refine E.d 18 (by decide +kernel) ?_;cbv;(fail_if_success guard_target =~ False))
   | fail
  )
  ·rename_i hs0
   refine ⟨by push_cast;rfl,congrArg is (tabI_congr fun j hj=>?_),congrArg is (tabI_congr fun j hj=>?_)⟩
   ·rw [hfr,hfr]
    split
    ·rename_i e;subst e;rw [if_pos (by omega),frOf,if_pos h_s]
    ·rename_i e;by_cases hjk:j<k
     ·rw [if_pos hjk,if_pos (by omega)]
     ·rw [if_neg hjk,if_neg (by omega)]
   ·rw [hpl,hpl]
    split
    ·rename_i e;subst e;rw [if_pos (by omega),plInit,if_pos h_s]
    ·rename_i e;by_cases hjk:j<k
     ·rw [if_pos hjk,if_pos (by omega)]
     ·rw [if_neg hjk,if_neg (by omega)]
  ·have hkl:k<Lf.length:=by ((try simp only [nc] at *);omega)
   have hw:0≤(Lf.getD k ⟨0,0⟩).t-1∧((Lf.getD k ⟨0,0⟩).t-1).toNat<g.fr.length∧(Lf.getD k ⟨0,0⟩).t≤4∧0≤(Lf.getD k ⟨0,0⟩).i∧(Lf.getD k ⟨0,0⟩).i.toNat<(g.fr.getD ((Lf.getD k ⟨0,0⟩).t-1).toNat []).length:=by
    subst hLf
    exact ids_where h hkl (by assumption)
   obtain ⟨w1,w2,w3,w4,w5⟩:=hw
   have hev:eventM g (Lf.getD k ⟨0,0⟩)=some (Mf.getD k ⟨0,0,0,0,0⟩):=by
    subst hLf hMf
    exact evsG_get g k hkl
   have hsm:(g.fr.getD ((Lf.getD k ⟨0,0⟩).t-1).toNat []).getD (Lf.getD k ⟨0,0⟩).i.toNat ⟨0,0⟩∈Lf:=by
    have hm:Lf.getD k ⟨0,0⟩∈idsG g:=by rw [←hLf];exact getD_mem hkl
    obtain ⟨w,hw,_⟩:=source_mem (src_ok h hm (by omega)) (by rw [hev];exact h_s)
    rw [hLf]
    exact idsG_mem.2 (by rw [←hLf];exact congrArg Option.isSome hw)
   have hfo:frOf g (Lf.getD k id0)=(numOf Lf ((g.fr.getD ((Lf.getD k ⟨0,0⟩).t-1).toNat []).getD (Lf.getD k ⟨0,0⟩).i.toNat ⟨0,0⟩):Nat):=by
    unfold frOf
    rw [if_neg (by assumption),show eventM g (Lf.getD k id0)=_ from hev,Option.getD_some,if_pos h_s,←hLf];rfl
   have hv:=fun z=>lk_num Lf _ hsm _ rfl z
   (try simp only [nc] at *)
   simp (disch:=first|omega) only [w64_of]
   simp (disch:=first|omega) only [idss_len,Int.toNat_of_nonneg,idss_get,at_l,asL_vs,ids_len,ids_get,at_d0,at_d1,asI_i,Int.toNat_natCast,knums_id,hv]
   skip
   repeat' (first
    |(refine hI2 (k+1) ?_ ?_ ?_;rotate_left 1;(· ((try simp only [nc] at *);omega));(cbv;clear hI2;(try clear hF);(try simp only [nc] at *);(try simp (disch:=(first|omega|(simp only [lnS,tabI_len];omega))) only [rdT,rdS,Nat.zero_add,true_and,tabI_len,stI,List.drop_zero,List.take_of_length_le,anT]));rotate_left 1;(try ((try simp only [nc] at *);omega)))
    |(refine ⟨fun _ h_s=>?_,fun _ h_s=>?_⟩<;>(cbv;(try simp only [nc] at *);try simp (disch:=(first|omega|(simp only [lnS,tabI_len];omega))) only [rdT,rdS,Nat.zero_add,true_and,tabI_len,stI,List.drop_zero,List.take_of_length_le,reduceCtorEq,trT] at h_s))
    |(refine hF ?_;intro _;clear hF)
    |(refine hF ?_;cbv;clear hF)
    |(refine ⟨fun _=>?_,?_⟩;(· ((try simp only [nc] at *);first|done|omega|exact ⟨by omega,rfl⟩|(simp (disch:=(first|omega|(simp only [lnS,tabI_len];omega))) only [rdT,rdS,Nat.zero_add,true_and,tabI_len,stI,List.drop_zero,List.take_of_length_le];first|done|omega|rfl|exact ⟨by omega,rfl⟩|(simp;done)|(simp;omega))|(intros;trivial)|exact rfl|exact ⟨by omega,by rw [istab_get _ _ _ (by omega)];rfl⟩|exact ⟨mok_ids _,is_vals _⟩));(try (simp only [nc] at *));(try simp (disch:=(first|omega|(simp only [lnS,tabI_len];omega))) only [rdT,rdS,Nat.zero_add,true_and,tabI_len,stI,List.drop_zero,List.take_of_length_le]);(try cbv))
    |(refine E.d 9 (by decide +kernel) ?_;cbv;(fail_if_success guard_target =~ False))
    |(refine E.d 18 (by decide +kernel) ?_;cbv;(fail_if_success guard_target =~ False))
    | fail
   )
   refine ⟨by push_cast;rfl,congrArg is (tabI_congr fun j hj=>?_),congrArg is (tabI_congr fun j hj=>?_)⟩
   ·rw [hfr,hfr]
    split
    ·rename_i e;subst e;rw [if_pos (by omega)];exact hfo.symm
    ·rename_i e;by_cases hjk:j<k
     ·rw [if_pos hjk,if_pos (by omega)]
     ·rw [if_neg hjk,if_neg (by omega)]
   ·rw [hpl,hpl]
    split
    ·rename_i e;subst e;rw [if_pos (by omega),plInit,if_neg (by assumption)]
    ·rename_i e;by_cases hjk:j<k
     ·rw [if_pos hjk,if_pos (by omega)]
     ·rw [if_neg hjk,if_neg (by omega)]
  ·have hkl:k<Lf.length:=by ((try simp only [nc] at *);omega)
   have hev:eventM g (Lf.getD k ⟨0,0⟩)=some (Mf.getD k ⟨0,0,0,0,0⟩):=by
    subst hLf hMf
    exact evsG_get g k hkl
   refine ⟨by push_cast;rfl,congrArg is (tabI_congr fun j hj=>?_),congrArg is (tabI_congr fun j hj=>?_)⟩
   ·rw [hfr,hfr]
    split
    ·rename_i e;subst e;rw [if_pos (by omega),frOf,if_neg (by assumption),show eventM g (Lf.getD j id0)=_ from hev,Option.getD_some,h_s,if_neg (by simp)]
    ·rename_i e;by_cases hjk:j<k
     ·rw [if_pos hjk,if_pos (by omega)]
     ·rw [if_neg hjk,if_neg (by omega)]
   ·rw [hpl,hpl]
    split
    ·rename_i e;subst e;rw [if_pos (by omega),plInit,if_neg (by assumption)]
    ·rename_i e;by_cases hjk:j<k
     ·rw [if_pos hjk,if_pos (by omega)]
     ·rw [if_neg hjk,if_neg (by omega)]
  ·refine hI ?_
   cbv
   clear hI hI2
   have e:k=n:=by ((try simp only [nc] at *);omega)
   have q1:is (tabI n (fr k))=is (tabI n fun m=>frOf g (Lf.getD m ⟨0,0⟩)):=congrArg is (tabI_congr fun m hm=>by rw [hfr,if_pos (by omega)])
   have q2:is (tabI n (pl k))=is (tabI n fun m=>plInit (Lf.getD m ⟨0,0⟩)):=congrArg is (tabI_congr fun m hm=>by rw [hpl,if_pos (by omega)])
   simp only [q1,q2,Int.toNat_natCast,implies_true,and_self]
 ·obtain ⟨plx,hplx⟩:∃ plx:Nat→Nat→Nat→Int,∀ x i m,plx x i m=plTo g (qsT g x++qsE g x i) (Lf.getD m id0):=⟨_,fun _ _ _=>rfl⟩
  have hp0:(fun m=>plInit (Lf.getD m id0))=plx 0 0:=funext fun m=>by rw [hplx];rfl
  have hpE:plx g.ord.length 0=fun m=>plOf g (Lf.getD m id0):=funext fun m=>by
   rw [hplx,show qsE g g.ord.length 0=[] by simp [qsE],List.append_nil,plTo_all h]
  have hpS:∀ x,plx x (g.ord.getD x []).length=plx (x+1) 0:=fun x=>funext fun m=>by
   rw [hplx,hplx,qsT_succ,show qsE g (x+1) 0=[] by simp [qsE],List.append_nil]
  rw [hp0]
  have hord:=hg.ord
  cbv
  refine E.loopS (ι:=Nat) (fun x=>x≤g.ord.length) (fun x=>g.ord.length-x) (fun x=>[(141,.i fun _=>((x:Nat):Int))]) (fun x h=>h.set 8 (.run 1 1 fun _=>is (tabI n (plx x 0)))) 0 (fun _=>by first|rfl|simp) (Nat.zero_le _) ?_ fun x hx I3 hI3=>?_
  ·cbv
   simp
  cbv
  have hol:((g.ord.getD x []).length:Int)≤9223372036854775807:=ordsAt hg x
  skip
  repeat' (first
   |(refine ⟨fun _ h_s=>?_,fun _ h_s=>?_⟩<;>(cbv;(try simp only [nc] at *);try simp (disch:=(first|omega|(simp only [lnS,tabI_len,tabI_len];omega))) only [rdT,rdS,Nat.zero_add,true_and,tabI_len,stI,List.drop_zero,List.take_of_length_le,tabI_len,stI,reduceCtorEq,trT] at h_s))
   |(refine hF ?_;intro _;clear hF)
   |(refine hF ?_;cbv;clear hF)
   |(refine ⟨fun _=>?_,?_⟩;(· ((try simp only [nc] at *);first|done|omega|exact ⟨by omega,rfl⟩|(simp (disch:=(first|omega|(simp only [lnS,tabI_len,tabI_len];omega))) only [rdT,rdS,Nat.zero_add,true_and,tabI_len,stI,List.drop_zero,List.take_of_length_le,tabI_len,stI];first|done|omega|rfl|exact ⟨by omega,rfl⟩|(simp;done)|(simp;omega))|(intros;trivial)|exact rfl|exact ⟨by omega,by rw [istab_get _ _ _ (by omega)];rfl⟩|exact ⟨mok_ids _,is_vals _⟩));(try (simp only [nc] at *));(try simp (disch:=(first|omega|(simp only [lnS,tabI_len,tabI_len];omega))) only [rdT,rdS,Nat.zero_add,true_and,tabI_len,stI,List.drop_zero,List.take_of_length_le,tabI_len,stI]);(try cbv))
   |(refine E.d 9 (by decide +kernel) ?_;cbv;(fail_if_success guard_target =~ False))
   |(refine E.d 18 (by decide +kernel) ?_;cbv;(fail_if_success guard_target =~ False))
   | fail
  )
  ·have hxx:x<g.ord.length:=by ((try simp only [nc] at *);omega)
   refine E.loopS (ι:=Nat) (fun i=>i≤(g.ord.getD x []).length) (fun i=>(g.ord.getD x []).length-i) (fun i=>[(147,.i fun _=>((i:Nat):Int))]) (fun i h=>h.set 8 (.run 1 1 fun _=>is (tabI n (plx x i)))) 0 (fun _=>by first|rfl|simp) (Nat.zero_le _) ?_ fun i hi I4 hI4=>?_
   ·cbv
    simp
   cbv
   have hnum:i<(g.ord.getD x []).length→numOf Lf ((g.ord.getD x []).getD i ⟨0,0⟩)<n∧∀ z,((mval (mfind [.i,.i] (ids Lf) [((g.ord.getD x []).getD i ⟨0,0⟩).t,((g.ord.getD x []).getD i ⟨0,0⟩).i]) (is (iota Lf.length)) z).at 0).asI=(numOf Lf ((g.ord.getD x []).getD i ⟨0,0⟩):Nat):=fun hi=>by
    have hm:(g.ord.getD x []).getD i ⟨0,0⟩∈Lf:=by rw [hLf];exact ord_mem h hxx hi
    exact ⟨by rw [←hLn];exact numOf_lt hm,fun z=>lk_num Lf _ hm _ rfl z⟩
   skip
   skip
   repeat' (first
    |(refine ⟨fun _ h_s=>?_,fun _ h_s=>?_⟩<;>(cbv;(try simp only [nc] at *);try simp (disch:=(first|omega|(simp only [lnS,tabI_len,tabI_len];omega))) only [rdT,rdS,Nat.zero_add,true_and,tabI_len,stI,List.drop_zero,List.take_of_length_le,tabI_len,stI,Nat.zero_add,reduceCtorEq,trT] at h_s))
    |(refine hF ?_;intro _;clear hF)
    |(refine hF ?_;cbv;clear hF)
    |(refine ⟨fun _=>?_,?_⟩;(· ((try simp only [nc] at *);first|done|omega|exact ⟨by omega,rfl⟩|(simp (disch:=(first|omega|(simp only [lnS,tabI_len,tabI_len];omega))) only [rdT,rdS,Nat.zero_add,true_and,tabI_len,stI,List.drop_zero,List.take_of_length_le,tabI_len,stI,Nat.zero_add];first|done|omega|rfl|exact ⟨by omega,rfl⟩|(simp;done)|(simp;omega))|(intros;trivial)|exact rfl|exact ⟨by omega,by rw [istab_get _ _ _ (by omega)];rfl⟩|exact ⟨mok_ids _,is_vals _⟩|exact rfl));(try (simp only [nc] at *));(try simp (disch:=(first|omega|(simp only [lnS,tabI_len,tabI_len];omega))) only [rdT,rdS,Nat.zero_add,true_and,tabI_len,stI,List.drop_zero,List.take_of_length_le,tabI_len,stI,Nat.zero_add]);(try cbv))
    |(refine E.d 9 (by decide +kernel) ?_;cbv;(fail_if_success guard_target =~ False))
    |(refine E.d 18 (by decide +kernel) ?_;cbv;(fail_if_success guard_target =~ False))
    | fail
   )
   ·obtain ⟨hn1,hn2⟩:=hnum (by ((try simp only [nc] at *);omega))
    simp only [knums_id,hn2]
    skip
    have hii:i<(g.ord.getD x []).length:=by ((try simp only [nc] at *);omega)
    repeat' (first
     |(refine hI4 (i+1) ?_ ?_ ?_;rotate_left 1;(· ((try simp only [nc] at *);omega));(cbv;clear hI4;(try clear hF);(try simp only [nc] at *);(try simp (disch:=(first|omega|(simp only [lnS,tabI_len,tabI_len];omega))) only [rdT,rdS,Nat.zero_add,true_and,tabI_len,stI,List.drop_zero,List.take_of_length_le,tabI_len,stI,Nat.zero_add,anT]));rotate_left 1;(try ((try simp only [nc] at *);omega)))
     |(refine ⟨fun _ h_s=>?_,fun _ h_s=>?_⟩<;>(cbv;(try simp only [nc] at *);try simp (disch:=(first|omega|(simp only [lnS,tabI_len,tabI_len];omega))) only [rdT,rdS,Nat.zero_add,true_and,tabI_len,stI,List.drop_zero,List.take_of_length_le,tabI_len,stI,Nat.zero_add,reduceCtorEq,trT] at h_s))
     |(refine hF ?_;intro _;clear hF)
     |(refine hF ?_;cbv;clear hF)
     |(refine ⟨fun _=>?_,?_⟩;(· ((try simp only [nc] at *);first|done|omega|exact ⟨by omega,rfl⟩|(simp (disch:=(first|omega|(simp only [lnS,tabI_len,tabI_len];omega))) only [rdT,rdS,Nat.zero_add,true_and,tabI_len,stI,List.drop_zero,List.take_of_length_le,tabI_len,stI,Nat.zero_add];first|done|omega|rfl|exact ⟨by omega,rfl⟩|(simp;done)|(simp;omega))|(intros;trivial)|exact rfl|exact ⟨by omega,by rw [istab_get _ _ _ (by omega)];rfl⟩|exact ⟨mok_ids _,is_vals _⟩|exact rfl|exact ⟨mok_ids _,is_vals _⟩));(try (simp only [nc] at *));(try simp (disch:=(first|omega|(simp only [lnS,tabI_len,tabI_len];omega))) only [rdT,rdS,Nat.zero_add,true_and,tabI_len,stI,List.drop_zero,List.take_of_length_le,tabI_len,stI,Nat.zero_add]);(try cbv))
     |(refine E.d 9 (by decide +kernel) ?_;cbv;(fail_if_success guard_target =~ False))
     |(refine E.d 18 (by decide +kernel) ?_;cbv;(fail_if_success guard_target =~ False))
     | fail
    )
    refine ⟨by push_cast;rfl,congrArg is (tabI_congr fun j hj=>?_)⟩
    have:=plTo_step h hxx hii (m:=j) (by rw [←hLf,hLn];exact hj)
    rw [hplx,hplx,hLf]
    rw [hLf] at hn1 hn2
    exact this
   ·have e:i=(g.ord.getD x []).length:=by ((try simp only [nc] at *);omega)
    subst e
    rw [hpS]
    repeat' (first
     |(refine hI3 (x+1) ?_ ?_ ?_;rotate_left 1;(· ((try simp only [nc] at *);omega));(cbv;clear hI3;(try clear hF);(try simp only [nc] at *);(try simp (disch:=(first|omega|(simp only [lnS,tabI_len,tabI_len];omega))) only [rdT,rdS,Nat.zero_add,true_and,tabI_len,stI,List.drop_zero,List.take_of_length_le,tabI_len,stI,Nat.zero_add,anT]));rotate_left 1;(try ((try simp only [nc] at *);omega)))
     |(refine ⟨fun _ h_s=>?_,fun _ h_s=>?_⟩<;>(cbv;(try simp only [nc] at *);try simp (disch:=(first|omega|(simp only [lnS,tabI_len,tabI_len];omega))) only [rdT,rdS,Nat.zero_add,true_and,tabI_len,stI,List.drop_zero,List.take_of_length_le,tabI_len,stI,Nat.zero_add,reduceCtorEq,trT] at h_s))
     |(refine hF ?_;intro _;clear hF)
     |(refine hF ?_;cbv;clear hF)
     |(refine ⟨fun _=>?_,?_⟩;(· ((try simp only [nc] at *);first|done|omega|exact ⟨by omega,rfl⟩|(simp (disch:=(first|omega|(simp only [lnS,tabI_len,tabI_len];omega))) only [rdT,rdS,Nat.zero_add,true_and,tabI_len,stI,List.drop_zero,List.take_of_length_le,tabI_len,stI,Nat.zero_add];first|done|omega|rfl|exact ⟨by omega,rfl⟩|(simp;done)|(simp;omega))|(intros;trivial)|exact rfl|exact ⟨by omega,by rw [istab_get _ _ _ (by omega)];rfl⟩|exact ⟨mok_ids _,is_vals _⟩|exact rfl|exact ⟨mok_ids _,is_vals _⟩));try cbv)
     |(refine E.d 9 (by decide +kernel) ?_;cbv;(fail_if_success guard_target =~ False))
     |(refine E.d 18 (by decide +kernel) ?_;cbv;(fail_if_success guard_target =~ False))
     | fail
    )
    push_cast;rfl
  ·have e:x=g.ord.length:=by ((try simp only [nc] at *);omega)
   subst e
   rw [hpE]
   simp only [viewG,←hLf,←hMf,←hnn,hLn,hMn]
   simp [List.take_of_length_le,hLn,hMn,id0]
end Go.AL.Rl
namespace Go.AL.Rl
open Go Go.AL Go.Proofs
set_option maxRecDepth 100000
set_option maxHeartbeats 1600000
variable {γ:Nat→Option AV}
def rowsG (g:Gr) (f:Vw→Nat→List (BitVec 64)):List (BitVec 64):=if GOk g then f (viewG g) (nG g) else []
def poF (V:Vw) (n:Nat):List (BitVec 64):=relRows n (poM V)
def rfF (V:Vw) (n:Nat):List (BitVec 64):=relRows n (rfM V)
def coF (V:Vw) (n:Nat):List (BitVec 64):=relRows n (coM V)
def frF (V:Vw) (n:Nat):List (BitVec 64):=relRows n (frM V)
def locF (V:Vw) (n:Nat):List (BitVec 64):=relRows n (locM V)
noncomputable def swF (V:Vw) (n:Nat):List (BitVec 64):=relRows n (bit (swRows V n))
def ecoF (V:Vw) (n:Nat):List (BitVec 64):=plusM n (orM n [((n:Int),rfF V n),((n:Int),coF V n),((n:Int),frF V n)])
def porfF (V:Vw) (n:Nat):List (BitVec 64):=plusM n (orM n [((n:Int),poF V n),((n:Int),rfF V n)])
noncomputable def hbF (V:Vw) (n:Nat):List (BitVec 64):=plusM n (orM n [((n:Int),poF V n),((n:Int),swF V n)])
theorem viewOf_ok (g:Gr) (hg:Rd g) (h:GOk g):Pure Try.prog γ false 55 [aGr g] (.tup [.vp (fun _=>aVw (viewG g)) 0,.b fun _=>true]):=viewOf_yes g hg h
theorem vpoF_ok (V:Vw) {n:Nat} (hV:Wf V n):Pure Try.prog γ false 56 [pVw V,.fn 57 [.vp (fun _=>aVw V) 0] []] (encRel n (poF V n)):=
 drel1_ok (γ:=γ) V hV 57 (fun _=>aVw V) _ (fun a ha b hb=>dpo_ok V hV a b ha hb)
theorem vrfF_ok (V:Vw) {n:Nat} (hV:Wf V n):Pure Try.prog γ false 56 [pVw V,.fn 58 [.vp (fun _=>aVw V) 0] []] (encRel n (rfF V n)):=
 drel1_ok (γ:=γ) V hV 58 (fun _=>aVw V) _ (fun a ha b hb=>drf_ok V hV a b ha hb)
theorem vcoF_ok (V:Vw) {n:Nat} (hV:Wf V n):Pure Try.prog γ false 56 [pVw V,.fn 59 [.vp (fun _=>aVw V) 0] []] (encRel n (coF V n)):=
 drel1_ok (γ:=γ) V hV 59 (fun _=>aVw V) _ (fun a ha b hb=>dco_ok V hV a b ha hb)
theorem vfrF_ok (V:Vw) {n:Nat} (hV:Wf V n):Pure Try.prog γ false 56 [pVw V,.fn 60 [.vp (fun _=>aVw V) 0] []] (encRel n (frF V n)):=
 drel1_ok (γ:=γ) V hV 60 (fun _=>aVw V) _ (fun a ha b hb=>dfr_ok V hV a b ha hb)
theorem vlocF_ok (V:Vw) {n:Nat} (hV:Wf V n):Pure Try.prog γ false 56 [pVw V,.fn 62 [.vp (fun _=>aVw V) 0] []] (encRel n (locF V n)):=
 drel1_ok (γ:=γ) V hV 62 (fun _=>aVw V) _ (fun a ha b hb=>dloc_ok V hV a b ha hb)
theorem vswF_ok (V:Vw) {n:Nat} (hV:Wf V n):Pure Try.prog γ false 63 [pVw V] (encRel n (swF V n)):=dsw_ok V hV
theorem fits_poF (V:Vw) {n:Nat} (h:n≤62):Fits n (poF V n):=fits_rel (by omega) _
theorem fits_rfF (V:Vw) {n:Nat} (h:n≤62):Fits n (rfF V n):=fits_rel (by omega) _
theorem fits_coF (V:Vw) {n:Nat} (h:n≤62):Fits n (coF V n):=fits_rel (by omega) _
theorem fits_frF (V:Vw) {n:Nat} (h:n≤62):Fits n (frF V n):=fits_rel (by omega) _
theorem fits_swF (V:Vw) {n:Nat} (h:n≤62):Fits n (swF V n):=fits_rel (by omega) _
end Go.AL.Rl
namespace Go.AL.Rl
open Go Go.AL Go.Proofs
set_option maxRecDepth 100000
set_option maxHeartbeats 1600000
variable {γ:Nat→Option AV}
abbrev aDer (n:Int) (po rf co fr eco porf loc sw hb:List (BitVec 64)):AV:=
 .agg [.i fun _=>n,.vs 1 fun _=>us po,.i fun _=>n,.vs 1 fun _=>us rf,.i fun _=>n,.vs 1 fun _=>us co,.i fun _=>n,.vs 1 fun _=>us fr,.i fun _=>n,.vs 1 fun _=>us eco,.i fun _=>n,.vs 1 fun _=>us porf,.i fun _=>n,.vs 1 fun _=>us loc,.i fun _=>n,.vs 1 fun _=>us sw,.i fun _=>n,.vs 1 fun _=>us hb]
theorem or3 (n:Nat) (a b c:List (BitVec 64)) (ha:Fits n a) (hb:Fits n b) (hc:Fits n c):Pure Try.prog γ false 61 [.vs 2 fun _=>rls [((n:Int),a),((n:Int),b),((n:Int),c)]] (encRel n (orM n [((n:Int),a),((n:Int),b),((n:Int),c)])):=
 or_yes _ (by simp) (alike3 n a b c ha hb hc) n rfl
theorem dAll_yes (g:Gr) (hg:Rd g) (h:GOk g):Pure Try.prog γ false 38 [aGr g] (.tup [aDer (nG g:Nat) (poF (viewG g) (nG g)) (rfF (viewG g) (nG g)) (coF (viewG g) (nG g)) (frF (viewG g) (nG g)) (ecoF (viewG g) (nG g)) (porfF (viewG g) (nG g)) (locF (viewG g) (nG g)) (swF (viewG g) (nG g)) (hbF (viewG g) (nG g)),.i fun _=>0]):=by
 have hV:=viewG_wf h
 have a1:=vpoF_ok (γ:=γ) (viewG g) hV
 have a2:=vrfF_ok (γ:=γ) (viewG g) hV
 have a3:=vcoF_ok (γ:=γ) (viewG g) hV
 have a4:=vfrF_ok (γ:=γ) (viewG g) hV
 have a5:=vlocF_ok (γ:=γ) (viewG g) hV
 have a6:=vswF_ok (γ:=γ) (viewG g) hV
 have f1:=fits_poF (viewG g) hV.small
 have f2:=fits_rfF (viewG g) hV.small
 have f3:=fits_coF (viewG g) hV.small
 have f4:=fits_frF (viewG g) hV.small
 have f6:=fits_swF (viewG g) hV.small
 have o1:=or3 (γ:=γ) (nG g) _ _ _ f2 f3 f4
 have o2:=or2 (γ:=γ) (nG g) _ _ f1 f2
 have o3:=or2 (γ:=γ) (nG g) _ _ f1 f6
 have p1:=plus_ok (γ:=γ) (nG g) _ (fits_or (by have:=hV.small;omega) (l:=[((nG g:Int),rfF (viewG g) (nG g)),((nG g:Int),coF (viewG g) (nG g)),((nG g:Int),frF (viewG g) (nG g))]) (by simp [f2,f3,f4]))
 have p2:=plus_ok (γ:=γ) (nG g) _ (fits_or2 f1 f2)
 have p3:=plus_ok (γ:=γ) (nG g) _ (fits_or2 f1 f6)
 refine Pure.go (ty:=ty) ty_eq mo Try.func38 rfl Try.ntmps38 Try.results38 Try.call38 (by simp) fun P C CQ D W F E hF=>?_
 cbv
 repeat' (first
  |(refine E.c (SCalls.of_le (p3) ?_ ?_);(· (cbv;(try simp only [nc] at *);first|done|(simp;done)|(simp (disch:=(first|omega|(simp only [lnS];omega))) only [rdT,rdS,anT];first|done|omega|(refine ⟨?_,?_⟩<;>omega))|(simp (disch:=(first|omega|(simp only [lnS];omega))) [rdT,rdS];done)));cbv)
  |(refine E.c (SCalls.of_le (p2) ?_ ?_);(· (cbv;(try simp only [nc] at *);first|done|(simp;done)|(simp (disch:=(first|omega|(simp only [lnS];omega))) only [rdT,rdS,anT];first|done|omega|(refine ⟨?_,?_⟩<;>omega))|(simp (disch:=(first|omega|(simp only [lnS];omega))) [rdT,rdS];done)));cbv)
  |(refine E.c (SCalls.of_le (p1) ?_ ?_);(· (cbv;(try simp only [nc] at *);first|done|(simp;done)|(simp (disch:=(first|omega|(simp only [lnS];omega))) only [rdT,rdS,anT];first|done|omega|(refine ⟨?_,?_⟩<;>omega))|(simp (disch:=(first|omega|(simp only [lnS];omega))) [rdT,rdS];done)));cbv)
  | (refine E.c (SCalls.of_bare (o3) rfl ?_ ?_);(· (cbv;simp [rls,ps,us,is,LV.of];done));cbv)
  | (refine E.c (SCalls.of_le (o3) ?_ ?_);(· (cbv;simp [rls,ps,us,is,LV.of];done));cbv)
  | (refine E.q (QCalls.of_le (o3) ?_ ?_);(· (cbv;simp [rls,ps,us,is,LV.of];done));cbv)
  | (refine E.c (SCalls.of_bare (o2) rfl ?_ ?_);(· (cbv;simp [rls,ps,us,is,LV.of];done));cbv)
  | (refine E.c (SCalls.of_le (o2) ?_ ?_);(· (cbv;simp [rls,ps,us,is,LV.of];done));cbv)
  | (refine E.q (QCalls.of_le (o2) ?_ ?_);(· (cbv;simp [rls,ps,us,is,LV.of];done));cbv)
  | (refine E.c (SCalls.of_bare (o1) rfl ?_ ?_);(· (cbv;simp [rls,ps,us,is,LV.of];done));cbv)
  | (refine E.c (SCalls.of_le (o1) ?_ ?_);(· (cbv;simp [rls,ps,us,is,LV.of];done));cbv)
  | (refine E.q (QCalls.of_le (o1) ?_ ?_);(· (cbv;simp [rls,ps,us,is,LV.of];done));cbv)
  |(refine E.c (SCalls.of_le (a6) ?_ ?_);(· (cbv;(try simp only [nc] at *);first|done|(simp;done)|(simp (disch:=(first|omega|(simp only [lnS];omega))) only [rdT,rdS,anT];first|done|omega|(refine ⟨?_,?_⟩<;>omega))|(simp (disch:=(first|omega|(simp only [lnS];omega))) [rdT,rdS];done)));cbv)
  |(refine E.c (SCalls.of_le (a5) ?_ ?_);(· (cbv;(try simp only [nc] at *);first|done|(simp;done)|(simp (disch:=(first|omega|(simp only [lnS];omega))) only [rdT,rdS,anT];first|done|omega|(refine ⟨?_,?_⟩<;>omega))|(simp (disch:=(first|omega|(simp only [lnS];omega))) [rdT,rdS];done)));cbv)
  |(refine E.c (SCalls.of_le (a4) ?_ ?_);(· (cbv;(try simp only [nc] at *);first|done|(simp;done)|(simp (disch:=(first|omega|(simp only [lnS];omega))) only [rdT,rdS,anT];first|done|omega|(refine ⟨?_,?_⟩<;>omega))|(simp (disch:=(first|omega|(simp only [lnS];omega))) [rdT,rdS];done)));cbv)
  |(refine E.c (SCalls.of_le (a3) ?_ ?_);(· (cbv;(try simp only [nc] at *);first|done|(simp;done)|(simp (disch:=(first|omega|(simp only [lnS];omega))) only [rdT,rdS,anT];first|done|omega|(refine ⟨?_,?_⟩<;>omega))|(simp (disch:=(first|omega|(simp only [lnS];omega))) [rdT,rdS];done)));cbv)
  |(refine E.c (SCalls.of_le (a2) ?_ ?_);(· (cbv;(try simp only [nc] at *);first|done|(simp;done)|(simp (disch:=(first|omega|(simp only [lnS];omega))) only [rdT,rdS,anT];first|done|omega|(refine ⟨?_,?_⟩<;>omega))|(simp (disch:=(first|omega|(simp only [lnS];omega))) [rdT,rdS];done)));cbv)
  |(refine E.c (SCalls.of_le (a1) ?_ ?_);(· (cbv;(try simp only [nc] at *);first|done|(simp;done)|(simp (disch:=(first|omega|(simp only [lnS];omega))) only [rdT,rdS,anT];first|done|omega|(refine ⟨?_,?_⟩<;>omega))|(simp (disch:=(first|omega|(simp only [lnS];omega))) [rdT,rdS];done)));cbv)
  |(refine E.c (SCalls.of_le (viewOf_ok g hg h) ?_ ?_);(· (cbv;(try simp only [nc] at *);first|done|(simp;done)|(simp (disch:=(first|omega|(simp only [lnS];omega))) only [rdT,rdS,anT];first|done|omega|(refine ⟨?_,?_⟩<;>omega))|(simp (disch:=(first|omega|(simp only [lnS];omega))) [rdT,rdS];done)));cbv)
  |(refine ⟨fun _ h_s=>?_,fun _ h_s=>?_⟩<;>(cbv;(try simp only [nc] at *);try simp (disch:=(first|omega|(simp only [lnS];omega))) only [rdT,rdS,reduceCtorEq,trT] at h_s))
  |(refine hF ?_;intro _;clear hF)
  |(refine hF ?_;cbv;clear hF)
  |(refine ⟨fun _=>?_,?_⟩;(· ((try simp only [nc] at *);first|done|omega|exact ⟨by omega,rfl⟩|(simp (disch:=(first|omega|(simp only [lnS];omega))) only [rdT,rdS];first|done|omega|rfl|exact ⟨by omega,rfl⟩|(simp;done)|(simp;omega))|(intros;trivial)));try cbv)
  | fail
 )
 all_goals (try simp only [nc] at *)
 all_goals (try simp (disch:=(first|omega|(simp only [lnS];omega))) only [rdT,rdS])
 simp [ecoF,porfF,hbF]
theorem dAll_no (g:Gr) (hg:Rd g) (h:¬ GOk g):Pure Try.prog γ false 38 [aGr g] (.tup [aDer 0 [] [] [] [] [] [] [] [] [],.i fun _=>2]):=by
 refine Pure.go (ty:=ty) ty_eq mo Try.func38 rfl Try.ntmps38 Try.results38 Try.call38 (by simp) fun P C CQ D W F E hF=>?_
 cbv
 repeat' (first
  |(refine E.c (SCalls.of_le (viewOf_no g hg h) ?_ ?_);(· (cbv;(try simp only [nc] at *);first|done|(simp;done)|(simp (disch:=(first|omega|(simp only [lnS];omega))) only [rdT,rdS,anT];first|done|omega|(refine ⟨?_,?_⟩<;>omega))|(simp (disch:=(first|omega|(simp only [lnS];omega))) [rdT,rdS];done)));cbv)
  |(refine ⟨fun _ h_s=>?_,fun _ h_s=>?_⟩<;>(cbv;(try simp only [nc] at *);try simp (disch:=(first|omega|(simp only [lnS];omega))) only [rdT,rdS,reduceCtorEq,trT] at h_s))
  |(refine hF ?_;intro _;clear hF)
  |(refine hF ?_;cbv;clear hF)
  |(refine ⟨fun _=>?_,?_⟩;(· ((try simp only [nc] at *);first|done|omega|exact ⟨by omega,rfl⟩|(simp (disch:=(first|omega|(simp only [lnS];omega))) only [rdT,rdS];first|done|omega|rfl|exact ⟨by omega,rfl⟩|(simp;done)|(simp;omega))|(intros;trivial)));try cbv)
  | fail
 )
 all_goals (try simp only [nc] at *)
 all_goals (try simp (disch:=(first|omega|(simp only [lnS];omega))) only [rdT,rdS])
 all_goals simp [us,LV.of,LV.l]
end Go.AL.Rl
namespace Go.AL.Rl
open Go Go.AL Go.Proofs
set_option maxRecDepth 100000
set_option maxHeartbeats 1600000
variable {γ:Nat→Option AV}
def runL (mx cap:Int):List Nat→Int→Int
 | [],s=>s
 | n :: r,s=>if s≤cap then runL mx cap r (s+min (mx+1) n) else s
def sumL (mx:Int) (l:List Nat) (s:Int) (k:Nat):Int:=(l.take k).foldl (fun (a:Int) (n:Nat)=>a+min (mx+1) (n:Int)) s
theorem sumL_zero (mx:Int) (l:List Nat) (s:Int):sumL mx l s 0=s:=rfl
theorem sumL_succ (mx:Int) (l:List Nat) (s:Int) (k:Nat) (h:k<l.length):sumL mx l s (k+1)=sumL mx l s k+min (mx+1) (l.getD k 0):=by
 simp only [sumL]
 rw [List.take_succ_eq_append_getElem h,List.foldl_append]
 simp [h]
theorem runL_step {mx cap:Int} {l:List Nat} {s:Int} {k:Nat} (h:k<l.length) (hs:sumL mx l s k≤cap) (hr:runL mx cap (l.drop k) (sumL mx l s k)=runL mx cap l s) :
  runL mx cap (l.drop (k+1)) (sumL mx l s (k+1))=runL mx cap l s:=by
 rw [←hr,List.drop_eq_getElem_cons h,runL,if_pos hs,sumL_succ _ _ _ _ h]
 simp [h]
theorem runL_end {mx cap:Int} {l:List Nat} {s:Int} {k:Nat} (h:l.length≤k∨¬ sumL mx l s k≤cap) (hr:runL mx cap (l.drop k) (sumL mx l s k)=runL mx cap l s):sumL mx l s k=runL mx cap l s:=by
 rw [←hr]
 by_cases hk:l.length≤k
 ·rw [List.drop_eq_nil_of_le hk,runL]
 ·rw [List.drop_eq_getElem_cons (by omega),runL,if_neg (by rcases h with h | h;omega;exact h)]
theorem runL_bd {mx cap B:Int} (h0:0≤mx) (hB:cap+mx+1≤B):∀ (l:List Nat) (s:Int),0≤s→s≤B→0≤runL mx cap l s∧runL mx cap l s≤B
 | [],s,h1,h2=>⟨h1,h2⟩
 | n :: r,s,h1,h2=>by
  rw [runL]
  split
  ·exact runL_bd h0 hB r _ (by omega) (by omega)
  ·exact ⟨h1,h2⟩
theorem ths_le {g:Gr} (hg:Rd g) (x:Nat):((g.th.getD x []).length:Int)≤9223372036854775807:=by
 rcases Nat.lt_or_ge x g.th.length with h1 | h1
 ·exact hg.ths _ (getD_mem h1)
 ·simp [List.getElem?_eq_none h1]
theorem frs_le {g:Gr} (hg:Rd g) (x:Nat):((g.fr.getD x []).length:Int)≤9223372036854775807:=by
 rcases Nat.lt_or_ge x g.fr.length with h1 | h1
 ·exact hg.frs _ (getD_mem h1)
 ·simp [List.getElem?_eq_none h1]
def lensT (g:Gr):List Nat:=g.th.map (·.length)
def lensF (g:Gr):List Nat:=g.fr.map (·.length)
def lensO (g:Gr):List Nat:=g.ord.map (·.length)
def light0 (mx:Int) (g:Gr):Int:=min (mx+1) g.init.length+min (mx+1) g.th.length+min (mx+1) g.fr.length+min (mx+1) g.ord.length
def lightM (mx:Int) (g:Gr):Bool:=decide (runL mx (3 * mx) (lensO g) (runL mx (2 * mx) (lensF g) (runL mx mx (lensT g) (light0 mx g)))≤3 * mx)
theorem lensT_get (g:Gr) (k:Nat) (h:k<g.th.length):(lensT g).getD k 0=(g.th.getD k []).length:=by simp [lensT,h]
theorem lensF_get (g:Gr) (k:Nat) (h:k<g.fr.length):(lensF g).getD k 0=(g.fr.getD k []).length:=by simp [lensF,h]
theorem lensO_get (g:Gr) (k:Nat) (h:k<g.ord.length):(lensO g).getD k 0=(g.ord.getD k []).length:=by simp [lensO,h]
theorem light_ok (g:Gr) (hg:Rd g) (mx:Int) (h0:0≤mx) (h1:mx≤1000):Pure Try.prog γ false 6 [aGr g,.i fun _=>mx] (.b fun _=>lightM mx g):=by
 have b1:=hg.init
 have b2:=hg.th
 have b3:=hg.fr
 have b4:=hg.ord
 have hs0:0≤light0 mx g∧light0 mx g≤4 * mx+4:=by unfold light0;omega
 obtain ⟨s0,hs⟩:∃ s,s=light0 mx g:=⟨_,rfl⟩
 rw [←hs] at hs0
 unfold lightM
 rw [←hs]
 have hlT:(lensT g).length=g.th.length:=by simp [lensT]
 have hlF:(lensF g).length=g.fr.length:=by simp [lensF]
 have hlO:(lensO g).length=g.ord.length:=by simp [lensO]
 obtain ⟨r1,hr1⟩:∃ r,r=runL mx mx (lensT g) s0:=⟨_,rfl⟩
 obtain ⟨r2,hr2⟩:∃ r,r=runL mx (2 * mx) (lensF g) r1:=⟨_,rfl⟩
 obtain ⟨r3,hr3⟩:∃ r,r=runL mx (3 * mx) (lensO g) r2:=⟨_,rfl⟩
 obtain ⟨S1,hS1⟩:∃ S:Nat→Int,∀ k,S k=sumL mx (lensT g) s0 k:=⟨_,fun _=>rfl⟩
 obtain ⟨S2,hS2⟩:∃ S:Nat→Int,∀ k,S k=sumL mx (lensF g) r1 k:=⟨_,fun _=>rfl⟩
 obtain ⟨S3,hS3⟩:∃ S:Nat→Int,∀ k,S k=sumL mx (lensO g) r2 k:=⟨_,fun _=>rfl⟩
 have z1:S1 0=s0:=by rw [hS1,sumL_zero]
 have z2:S2 0=r1:=by rw [hS2,sumL_zero]
 have z3:S3 0=r2:=by rw [hS3,sumL_zero]
 have n1:∀ k,k<g.th.length→S1 (k+1)=S1 k+min (mx+1) (g.th.getD k []).length:=fun k hk=>by rw [hS1,hS1,sumL_succ _ _ _ _ (by omega),lensT_get _ _ hk]
 have n2:∀ k,k<g.fr.length→S2 (k+1)=S2 k+min (mx+1) (g.fr.getD k []).length:=fun k hk=>by rw [hS2,hS2,sumL_succ _ _ _ _ (by omega),lensF_get _ _ hk]
 have n3:∀ k,k<g.ord.length→S3 (k+1)=S3 k+min (mx+1) (g.ord.getD k []).length:=fun k hk=>by rw [hS3,hS3,sumL_succ _ _ _ _ (by omega),lensO_get _ _ hk]
 rw [←hr1,←hr2,←hr3]
 have q1:=runL_bd (mx:=mx) (cap:=mx) (B:=4 * mx+4) h0 (by omega) (lensT g) s0 (by omega) (by omega)
 rw [←hr1] at q1
 have q2:=runL_bd (mx:=mx) (cap:=2 * mx) (B:=4 * mx+4) h0 (by omega) (lensF g) r1 (by omega) (by omega)
 rw [←hr2] at q2
 have q3:=runL_bd (mx:=mx) (cap:=3 * mx) (B:=4 * mx+4) h0 (by omega) (lensO g) r2 (by omega) (by omega)
 rw [←hr3] at q3
 refine Pure.goL (ty:=ty) ty_eq mo Try.func6 rfl Try.ntmps6 Try.results6 Try.call6 (by simp) fun P C CQ D W F E hF=>?_
 refine E.cut 4 (told 111 [(1,.i fun _=>mx),(2,.ptr 0 0),(5,.i fun _=>r1)] [.box (aGr g)]) (by kernel_rfl) (Nat.zero_le _) (fun I hI=>?_) ?_
 ·cbv
  repeat' (first
   |(refine ⟨fun _ h_s=>?_,fun _ h_s=>?_⟩<;>(cbv;(try simp only [nc] at *);try simp (disch:=(first|omega|(simp only [lnS];omega))) only [rdT,rdS,reduceCtorEq,trT] at h_s))
   |(refine hF ?_;intro _;clear hF)
   |(refine hF ?_;cbv;clear hF)
   |(refine ⟨fun _=>?_,?_⟩;(· ((try simp only [nc] at *);first|done|omega|exact ⟨by omega,rfl⟩|(simp (disch:=(first|omega|(simp only [lnS];omega))) only [rdT,rdS];first|done|omega|rfl|exact ⟨by omega,rfl⟩|(simp;done)|(simp;omega))|(intros;trivial)));(try (simp only [nc] at *));(try simp (disch:=(first|omega|(simp only [lnS];omega))) only [rdT,rdS]);(try cbv))
   | fail
  )
  refine E.loopS (ι:=Nat) (fun k=>k≤g.th.length∧(runL mx mx ((lensT g).drop k) (S1 k)=r1∧0≤S1 k∧S1 k≤4 * mx+4)) (fun k=>g.th.length-k) (fun k=>[(6,.i fun _=>((k:Nat):Int)),(5,.i fun _=>S1 k)]) (fun k h=>h) 0 (fun _=>by first|rfl|simp) ⟨Nat.zero_le _,?_⟩ ?_ fun k hk I2 hI2=>?_
  ·rw [z1,List.drop_zero];exact ⟨hr1.symm,by omega⟩
  ·cbv
   rw [z1,hs]
   simp (disch:=omega) [light0,w64_of]
   repeat' split
   all_goals omega
  cbv
  have hgt:=ths_le hg k
  have nk:=n1 k
  have ek:=fun h1 h2=>runL_step (mx:=mx) (cap:=mx) (l:=lensT g) (s:=s0) (k:=k) h1 h2
  have fk:=fun h1=>runL_end (mx:=mx) (cap:=mx) (l:=lensT g) (s:=s0) (k:=k) h1
  rw [←hS1,←hS1,←hr1] at ek
  rw [←hS1,←hr1] at fk
  repeat' (first
   |(refine hI2 (k+1) ?_ ?_ ?_;rotate_left 1;(· ((try simp only [nc] at *);omega));(cbv;clear hI2;(try clear hF);(try simp only [nc] at *);(try simp (disch:=(first|omega|(simp only [lnS];omega))) only [rdT,rdS,anT]));rotate_left 1;(try ((try simp only [nc] at *);omega)))
   |(refine ⟨fun _ h_s=>?_,fun _ h_s=>?_⟩<;>(cbv;(try simp only [nc] at *);try simp (disch:=(first|omega|(simp only [lnS];omega))) only [rdT,rdS,reduceCtorEq,trT] at h_s))
   |(refine hF ?_;intro _;clear hF)
   |(refine hF ?_;cbv;clear hF)
   |(refine ⟨fun _=>?_,?_⟩;(· ((try simp only [nc] at *);first|done|omega|exact ⟨by omega,rfl⟩|(simp (disch:=(first|omega|(simp only [lnS];omega))) only [rdT,rdS];first|done|omega|rfl|exact ⟨by omega,rfl⟩|(simp;done)|(simp;omega))|(intros;trivial)));(try (simp only [nc] at *));(try simp (disch:=(first|omega|(simp only [lnS];omega))) only [rdT,rdS]);(try cbv))
   | fail
  )
  ·refine ⟨?_,?_⟩<;>first | omega | (rw [nk (by ((try simp only [nc] at *);omega))];split<;>omega)
  all_goals
   have hfk:=fk (by ((try simp only [nc] at *);omega)) hk.2.1
   refine hI ?_
   cbv
   clear hI hI2 ek fk nk
   simp [hfk]
 refine E.cut 2 (told 111 [(1,.i fun _=>mx),(2,.ptr 0 0),(5,.i fun _=>r2)] [.box (aGr g)]) (by kernel_rfl) (Nat.zero_le _) (fun I hI=>?_) ?_
 ·cbv
  repeat' (first
   |(refine ⟨fun _ h_s=>?_,fun _ h_s=>?_⟩<;>(cbv;(try simp only [nc] at *);try simp (disch:=(first|omega|(simp only [lnS];omega))) only [rdT,rdS,reduceCtorEq,trT] at h_s))
   |(refine hF ?_;intro _;clear hF)
   |(refine hF ?_;cbv;clear hF)
   |(refine ⟨fun _=>?_,?_⟩;(· ((try simp only [nc] at *);first|done|omega|exact ⟨by omega,rfl⟩|(simp (disch:=(first|omega|(simp only [lnS];omega))) only [rdT,rdS];first|done|omega|rfl|exact ⟨by omega,rfl⟩|(simp;done)|(simp;omega))|(intros;trivial)));(try (simp only [nc] at *));(try simp (disch:=(first|omega|(simp only [lnS];omega))) only [rdT,rdS]);(try cbv))
   | fail
  )
  refine E.loopS (ι:=Nat) (fun k=>k≤g.fr.length∧(runL mx (2 * mx) ((lensF g).drop k) (S2 k)=r2∧0≤S2 k∧S2 k≤4 * mx+4)) (fun k=>g.fr.length-k) (fun k=>[(7,.i fun _=>((k:Nat):Int)),(5,.i fun _=>S2 k)]) (fun k h=>h) 0 (fun _=>by first|rfl|simp) ⟨Nat.zero_le _,?_⟩ ?_ fun k hk I2 hI2=>?_
  ·rw [z2,List.drop_zero];exact ⟨hr2.symm,by omega⟩
  ·cbv
   rw [z2]
   simp
  cbv
  have hgt:=frs_le hg k
  have nk:=n2 k
  have ek:=fun h1 h2=>runL_step (mx:=mx) (cap:=(2 * mx)) (l:=lensF g) (s:=r1) (k:=k) h1 h2
  have fk:=fun h1=>runL_end (mx:=mx) (cap:=(2 * mx)) (l:=lensF g) (s:=r1) (k:=k) h1
  rw [←hS2,←hS2,←hr2] at ek
  rw [←hS2,←hr2] at fk
  repeat' (first
   |(refine hI2 (k+1) ?_ ?_ ?_;rotate_left 1;(· ((try simp only [nc] at *);omega));(cbv;clear hI2;(try clear hF);(try simp only [nc] at *);(try simp (disch:=(first|omega|(simp only [lnS];omega))) only [rdT,rdS,anT]));rotate_left 1;(try ((try simp only [nc] at *);omega)))
   |(refine ⟨fun _ h_s=>?_,fun _ h_s=>?_⟩<;>(cbv;(try simp only [nc] at *);try simp (disch:=(first|omega|(simp only [lnS];omega))) only [rdT,rdS,reduceCtorEq,trT] at h_s))
   |(refine hF ?_;intro _;clear hF)
   |(refine hF ?_;cbv;clear hF)
   |(refine ⟨fun _=>?_,?_⟩;(· ((try simp only [nc] at *);first|done|omega|exact ⟨by omega,rfl⟩|(simp (disch:=(first|omega|(simp only [lnS];omega))) only [rdT,rdS];first|done|omega|rfl|exact ⟨by omega,rfl⟩|(simp;done)|(simp;omega))|(intros;trivial)));(try (simp only [nc] at *));(try simp (disch:=(first|omega|(simp only [lnS];omega))) only [rdT,rdS]);(try cbv))
   | fail
  )
  ·refine ⟨?_,?_⟩<;>first | omega | (rw [nk (by ((try simp only [nc] at *);omega))];split<;>omega)
  all_goals
   have hfk:=fk (by ((try simp only [nc] at *);omega)) hk.2.1
   refine hI ?_
   cbv
   clear hI hI2 ek fk nk
   simp [hfk]
 refine E.cut 2 (told 111 [(1,.i fun _=>mx),(2,.ptr 0 0),(5,.i fun _=>r3)] [.box (aGr g)]) (by kernel_rfl) (Nat.zero_le _) (fun I hI=>?_) (E.bl ?_)
 ·cbv
  repeat' (first
   |(refine ⟨fun _ h_s=>?_,fun _ h_s=>?_⟩<;>(cbv;(try simp only [nc] at *);try simp (disch:=(first|omega|(simp only [lnS];omega))) only [rdT,rdS,reduceCtorEq,trT] at h_s))
   |(refine hF ?_;intro _;clear hF)
   |(refine hF ?_;cbv;clear hF)
   |(refine ⟨fun _=>?_,?_⟩;(· ((try simp only [nc] at *);first|done|omega|exact ⟨by omega,rfl⟩|(simp (disch:=(first|omega|(simp only [lnS];omega))) only [rdT,rdS];first|done|omega|rfl|exact ⟨by omega,rfl⟩|(simp;done)|(simp;omega))|(intros;trivial)));(try (simp only [nc] at *));(try simp (disch:=(first|omega|(simp only [lnS];omega))) only [rdT,rdS]);(try cbv))
   | fail
  )
  refine E.loopS (ι:=Nat) (fun k=>k≤g.ord.length∧(runL mx (3 * mx) ((lensO g).drop k) (S3 k)=r3∧0≤S3 k∧S3 k≤4 * mx+4)) (fun k=>g.ord.length-k) (fun k=>[(8,.i fun _=>((k:Nat):Int)),(5,.i fun _=>S3 k)]) (fun k h=>h) 0 (fun _=>by first|rfl|simp) ⟨Nat.zero_le _,?_⟩ ?_ fun k hk I2 hI2=>?_
  ·rw [z3,List.drop_zero];exact ⟨hr3.symm,by omega⟩
  ·cbv
   rw [z3]
   simp
  cbv
  have hgt:=ordsAt hg k
  have nk:=n3 k
  have ek:=fun h1 h2=>runL_step (mx:=mx) (cap:=(3 * mx)) (l:=lensO g) (s:=r2) (k:=k) h1 h2
  have fk:=fun h1=>runL_end (mx:=mx) (cap:=(3 * mx)) (l:=lensO g) (s:=r2) (k:=k) h1
  rw [←hS3,←hS3,←hr3] at ek
  rw [←hS3,←hr3] at fk
  repeat' (first
   |(refine hI2 (k+1) ?_ ?_ ?_;rotate_left 1;(· ((try simp only [nc] at *);omega));(cbv;clear hI2;(try clear hF);(try simp only [nc] at *);(try simp (disch:=(first|omega|(simp only [lnS];omega))) only [rdT,rdS,anT]));rotate_left 1;(try ((try simp only [nc] at *);omega)))
   |(refine ⟨fun _ h_s=>?_,fun _ h_s=>?_⟩<;>(cbv;(try simp only [nc] at *);try simp (disch:=(first|omega|(simp only [lnS];omega))) only [rdT,rdS,reduceCtorEq,trT] at h_s))
   |(refine hF ?_;intro _;clear hF)
   |(refine hF ?_;cbv;clear hF)
   |(refine ⟨fun _=>?_,?_⟩;(· ((try simp only [nc] at *);first|done|omega|exact ⟨by omega,rfl⟩|(simp (disch:=(first|omega|(simp only [lnS];omega))) only [rdT,rdS];first|done|omega|rfl|exact ⟨by omega,rfl⟩|(simp;done)|(simp;omega))|(intros;trivial)));(try (simp only [nc] at *));(try simp (disch:=(first|omega|(simp only [lnS];omega))) only [rdT,rdS]);(try cbv))
   | fail
  )
  ·refine ⟨?_,?_⟩<;>first | omega | (rw [nk (by ((try simp only [nc] at *);omega))];split<;>omega)
  all_goals
   have hfk:=fk (by ((try simp only [nc] at *);omega)) hk.2.1
   refine hI ?_
   cbv
   clear hI hI2 ek fk nk
   simp [hfk]
 ·cbv
  repeat' (first
   |(refine ⟨fun _ h_s=>?_,fun _ h_s=>?_⟩<;>(cbv;(try simp only [nc] at *);try simp (disch:=(first|omega|(simp only [lnS];omega))) only [rdT,rdS,reduceCtorEq,trT] at h_s))
   |(refine hF ?_;intro _;clear hF)
   |(refine hF ?_;cbv;clear hF)
   |(refine ⟨fun _=>?_,?_⟩;(· ((try simp only [nc] at *);first|done|omega|exact ⟨by omega,rfl⟩|(simp (disch:=(first|omega|(simp only [lnS];omega))) only [rdT,rdS];first|done|omega|rfl|exact ⟨by omega,rfl⟩|(simp;done)|(simp;omega))|(intros;trivial)));(try (simp only [nc] at *));(try simp (disch:=(first|omega|(simp only [lnS];omega))) only [rdT,rdS]);(try cbv))
   | fail
  )
  rw [w64_of (by omega) (by omega)]
end Go.AL.Rl
namespace Go.AL.Rl
open Go Go.AL Go.Proofs
set_option maxRecDepth 100000
set_option maxHeartbeats 1600000
variable {γ:Nat→Option AV}
def gS (o:Int):Gr:=⟨[0],[[⟨2,0,o,0,1⟩],[⟨1,0,3,1,0⟩]],[[⟨0,0⟩],[⟨1,0⟩]],[[⟨1,0⟩]]⟩
def tgtC (V:Vw) (n w:Nat):BitVec 64:=maskTo (fun a=>acqM (V.ev.getD a ev0) && behM V n (maskTo (rdrM V (1#64 <<< w)) n) a) n
def rowC (V:Vw) (n:Nat):Nat→Nat→BitVec 64
 | 0,_=>0#64
 | w+1,r=>if swR V w r=true then rowC V n w r ||| tgtC V n w else rowC V n w r
def swC (V:Vw) (n:Nat):List (BitVec 64):=relRows n (bit (tab n (rowC V n n)))
theorem seq_plain {V:Vw} {n w:Nat} (hn:n≤64) (hw:w<n) (h:∀ i<n,(V.ev.getD i ev0).kind≠3):1#64 <<< w=seqM V n w:=by
 refine seq_unique hn hw ?_ (fun j hj=>?_) fun i hi hk=>absurd hk (h i hi)
 ·rw [BitVec.getLsbD_shiftLeft,BitVec.getLsbD_one];simp;omega
 ·rw [BitVec.getLsbD_shiftLeft,BitVec.getLsbD_one] at hj
  simp at hj
  have:j=w:=by omega
  subst this
  exact .base
theorem rowC_eq {V:Vw} {n:Nat} (hn:n≤64) (h:∀ i<n,(V.ev.getD i ev0).kind≠3):∀ k,k≤n→∀ r,rowT V n k r=rowC V n k r
 | 0,_,_=>rfl
 | k+1,hk,r=>by
  have e:tgtM V n k=tgtC V n k:=by unfold tgtM tgtC;rw [seq_plain hn (by omega) h]
  show (if swR V k r=true then rowT V n k r ||| tgtM V n k else rowT V n k r)=if swR V k r=true then rowC V n k r ||| tgtC V n k else rowC V n k r
  rw [rowC_eq hn h k (by omega) r,e]
theorem swC_eq {V:Vw} {n:Nat} (hn:n≤64) (h:∀ i<n,(V.ev.getD i ev0).kind≠3):swF V n=swC V n:=by
 unfold swF swC swRows
 rw [show rowT V n n=rowC V n n from funext fun r=>rowC_eq hn h n (Nat.le_refl _) r]
def vS (o:Int):Vw:=⟨[⟨0,0⟩,⟨1,0⟩,⟨2,0⟩],[⟨2,0,1,0,0⟩,⟨2,0,o,0,1⟩,⟨1,0,3,1,0⟩],[-1,-1,1],[0,1,-1]⟩
theorem gS4:GOk (gS 4):=by decide +kernel
theorem gS4v:viewG (gS 4)=vS 4:=by
 unfold viewG vS
 simp only [Vw.mk.injEq]
 decide +kernel
theorem gSn (o:Int):nG (gS o)=3:=rfl
theorem rows4 (f:Vw→Nat→List (BitVec 64)):rowsG (gS 4) f=f (vS 4) 3:=by unfold rowsG;rw [if_pos gS4,gSn,gS4v]
theorem sw4:rowsG (gS 4) swF=[0,4,0]:=by rw [rows4,swC_eq (by omega) (by decide +kernel)];decide +kernel
theorem hb4:rowsG (gS 4) hbF=[6,4,0]:=by
 rw [rows4]
 have:=sw4
 rw [rows4] at this
 unfold hbF
 rw [this]
 decide +kernel
end Go.AL.Rl
namespace Go.AL.Rl
open Go Go.AL Go.Proofs
set_option maxRecDepth 100000
theorem bit_orM {n:Nat} {l:List RelV} (i j:Nat):bit (orM n l) i j=true↔i<n∧∃ r∈l,bit r.2 i j=true:=by
 rw [orM,bit_tab,Bool.and_eq_true,decide_eq_true_eq,or_bit]
theorem bit_relI {n:Nat} (hn:n≤62) (p:Nat→Nat→Bool) (i j:Nat):bit (relRows n p) i j=true↔i<n∧j<n∧p i j=true:=by
 rw [bit_rel (by omega)];simp
theorem fits_orP (V:Vw) {n:Nat} (hn:n≤62):Fits n (orM n [((n:Int),rfF V n),((n:Int),coF V n),((n:Int),frF V n)]):=
 fits_or (by omega) (by simp [fits_rfF V hn,fits_coF V hn,fits_frF V hn])
end Go.AL.Rl
namespace Go.AL.Rl
open Go Go.AL Go.Proofs
set_option maxRecDepth 100000
theorem notFence_w {e:Ev} (h:writesM e=true):fenceM e=false:=by
 unfold writesM at h;unfold fenceM
 simp only [Bool.or_eq_true,decide_eq_true_eq,decide_eq_false_iff_not] at *
 omega
theorem event_init {g:Gr} {d:EId} {e:Ev} (h:eventM g d=some e) (h0:d.t=0):e.kind=2∧e.loc=d.i∧0≤d.i:=by
 unfold eventM at h
 rw [if_pos h0] at h
 split at h
 ·rename_i hc
  cases h
  exact ⟨rfl,rfl,hc.1⟩
 ·cases h
theorem event_fine {g:Gr} (hg:GOk g) {d:EId} {e:Ev} (h:eventM g d=some e) (h0:d.t≠0):fineM g.init.length e=true:=by
 unfold eventM at h
 rw [if_neg h0] at h
 split at h
 ·rename_i hc
  cases h
  exact (hg.events (d.t-1).toNat (by omega)).2 d.i.toNat (by omega)
 ·cases h
theorem fine_loc {n:Int} {e:Ev} (h:fineM n e=true) (hk:fenceM e=false):0≤e.loc∧e.loc<n:=by
 unfold fineM at h;unfold fenceM at hk
 simp only [Bool.and_eq_true,decide_eq_true_eq,decide_eq_false_iff_not] at *
 have:=h.2
 rw [if_neg hk] at this
 simpa using this
theorem ord_has {g:Gr} (hg:GOk g) {x:Nat} {d:EId} (h:isW g x d=true):d∈g.ord.getD x []:=by
 have hp:=(orders_perm hg.lord hg.events).1 hg.orders
 have:=hp.symm.subset ((isW_mem g x d).1 h)
 unfold qsT at this
 simp only [List.mem_flatMap,List.mem_range,List.mem_map] at this
 obtain ⟨k,hk,d',hd,he⟩:=this
 obtain ⟨rfl,h2⟩:=Prod.mk.inj he
 have:k=x:=by omega
 subst this
 exact hd
theorem isW_of {g:Gr} {d:EId} {e:Ev} (h:eventM g d=some e) (h0:d.t≠0) (hw:writesM e=true) (x:Int) (hx:e.loc=x):isW g x d=true:=by
 unfold isW
 rw [h]
 simp [h0,hw,hx]
theorem pl_write {g:Gr} (hg:GOk g) {d:EId} {e:Ev} (h:eventM g d=some e) (hw:writesM e=true) :
  d.t=0∧plOf g d=0∨d.t≠0∧∃ k:Nat,plOf g d=k+1∧k<(g.ord.getD e.loc.toNat []).length∧(g.ord.getD e.loc.toNat []).getD k id0=d:=by
 by_cases h0:d.t=0
 ·exact .inl ⟨h0,by unfold plOf;rw [if_pos h0]⟩
 ·refine .inr ⟨h0,?_⟩
  have hl:=fine_loc (event_fine hg h h0) (notFence_w hw)
  have hm:=ord_has hg (x:=e.loc.toNat) (isW_of h h0 hw _ (by omega))
  have hf:=numOf_find hm
  refine ⟨numOf (g.ord.getD e.loc.toNat []) d,?_,numOf_lt hm,numOf_get hm⟩
  unfold plOf
  rw [if_neg h0,h,Option.getD_some,hf]
theorem pl_other {g:Gr} (hg:GOk g) {d:EId} {e:Ev} (h:eventM g d=some e) (hw:writesM e=false):plOf g d = -1:=by
 have h0:d.t≠0:=fun h0=>by
  obtain ⟨hk,_⟩:=event_init h h0
  unfold writesM at hw
  simp [hk] at hw
 unfold plOf
 rw [if_neg h0,h,Option.getD_some]
 split
 ·rename_i k hk
  exfalso
  rw [List.findIdx?_eq_some_iff_getElem] at hk
  obtain ⟨h1,h2,_⟩:=hk
  have hm:=List.getElem_mem h1
  simp only [decide_eq_true_eq] at h2
  rw [h2] at hm
  have hx:e.loc.toNat<g.init.length:=by
   rcases Nat.lt_or_ge e.loc.toNat g.ord.length with hc | hc
   ·rw [←hg.lord];exact hc
   ·rw [List.getD_eq_getElem?_getD,List.getElem?_eq_none hc] at hm;simp at hm
  obtain ⟨_,q2,_⟩:=(ordered_iff g e.loc.toNat).1 (hg.orders _ hx)
  obtain ⟨e',he',_,hw',_⟩:=isW_event (q2 _ hm)
  rw [h] at he'
  cases he'
  rw [hw] at hw';cases hw'
 ·rfl
theorem vev {g:Gr} (_:GOk g) (i:Nat) (hi:i<nG g):eventM g ((idsG g).getD i id0)=some ((viewG g).ev.getD i ev0):=evsG_get g i hi
theorem vpl {g:Gr} (_:GOk g) (i:Nat) (hi:i<nG g):(viewG g).pl.getD i 0=plOf g ((idsG g).getD i id0):=tabI_get _ _ _ hi
theorem vfr {g:Gr} (_:GOk g) (i:Nat) (hi:i<nG g):(viewG g).fr.getD i 0=frOf g ((idsG g).getD i id0):=tabI_get _ _ _ hi
theorem init_reads {g:Gr} {d:EId} {e:Ev} (h:eventM g d=some e) (h0:d.t=0):readsM e=false:=by
 obtain ⟨hk,_⟩:=event_init h h0
 unfold readsM;rw [hk];rfl
section
variable {g:Gr} (hg:GOk g)
include hg
theorem pl_iff (i:Nat) (hi:i<nG g):0≤(viewG g).pl.getD i 0↔writesM ((viewG g).ev.getD i ev0)=true:=by
 rw [vpl hg i hi]
 constructor
 ·intro h
  cases hw:writesM ((viewG g).ev.getD i ev0) with
  | true=>rfl
  | false=>rw [pl_other hg (vev hg i hi) hw] at h;omega
 ·intro h
  rcases pl_write hg (vev hg i hi) h with ⟨_,h2⟩ | ⟨_,k,h2,_⟩<;>omega
theorem pl_inj (i j:Nat) (hi:i<nG g) (hj:j<nG g) (hwi:writesM ((viewG g).ev.getD i ev0)=true) (hwj:writesM ((viewG g).ev.getD j ev0)=true)
  (hl:((viewG g).ev.getD i ev0).loc=((viewG g).ev.getD j ev0).loc) (hp:(viewG g).pl.getD i 0=(viewG g).pl.getD j 0):i=j:=by
 refine getD_inj (idsG_nodup g) hi hj ?_
 rw [vpl hg i hi,vpl hg j hj] at hp
 rcases pl_write hg (vev hg i hi) hwi with ⟨t1,h1⟩ | ⟨t1,k,h1,hk,e1⟩<;>rcases pl_write hg (vev hg j hj) hwj with ⟨t2,h2⟩ | ⟨t2,k',h2,hk',e2⟩
 ·obtain ⟨_,l1,_⟩:=event_init (vev hg i hi) t1
  obtain ⟨_,l2,_⟩:=event_init (vev hg j hj) t2
  exact EId.ext' (by omega) (by omega)
 ·omega
 ·omega
 ·have:k=k':=by omega
  subst this
  rw [←e1,←e2,hl]
theorem fr_iff (i:Nat) (hi:i<nG g):0≤(viewG g).fr.getD i 0↔readsM ((viewG g).ev.getD i ev0)=true:=by
 rw [vfr hg i hi]
 have he:=vev hg i hi
 unfold frOf
 split
 ·rename_i h0
  rw [init_reads he h0]
  constructor
  ·intro h;omega
  ·intro h;cases h
 ·rw [he,Option.getD_some]
  split
  ·rename_i h;simp only [h,iff_true];omega
  ·rename_i h;simp only [h,Bool.false_eq_true,iff_false];omega
theorem src_of (i:Nat) (hi:i<nG g) (hr:readsM ((viewG g).ev.getD i ev0)=true):∃ w:Nat,(viewG g).fr.getD i 0=w∧w<nG g∧w≠i∧writesM ((viewG g).ev.getD w ev0)=true∧((viewG g).ev.getD w ev0).loc=((viewG g).ev.getD i ev0).loc:=by
 have he:=vev hg i hi
 have h0:((idsG g).getD i id0).t≠0:=fun h0=>by
  rw [init_reads he h0] at hr;cases hr
 have hd:(idsG g).getD i id0∈idsG g:=getD_mem hi
 obtain ⟨w,hw,h1,h2,h3,_⟩:=source_mem (src_ok hg hd h0) (by rw [he];exact hr)
 have hm:srcOf g ((idsG g).getD i id0)∈idsG g:=idsG_mem.2 (by rw [hw];rfl)
 have hlt:numOf (idsG g) (srcOf g ((idsG g).getD i id0))<nG g:=numOf_lt hm
 have hev:=vev hg _ hlt
 rw [numOf_get hm,hw] at hev
 have hev:=Option.some.inj hev
 refine ⟨numOf (idsG g) (srcOf g ((idsG g).getD i id0)),?_,hlt,fun e=>h1 ?_,by rw [←hev];exact h2,by rw [←hev,h3,he];rfl⟩
 ·rw [vfr hg i hi];unfold frOf;rw [if_neg h0,he,Option.getD_some,if_pos hr]
 ·have:=numOf_get hm;rw [e] at this;exact this.symm
end
end Go.AL.Rl
namespace Go.AL.Rl
open Go Go.AL Go.Proofs
set_option maxRecDepth 100000
set_option maxHeartbeats 1600000
end Go.AL.Rl
namespace Go.AL.Rl
open Go Go.AL Go.Proofs
set_option maxRecDepth 100000
set_option maxHeartbeats 1600000
variable {γ:Nat→Option AV}
end Go.AL.Rl
namespace Go.AL.Rl
open Go Go.AL Go.Proofs
set_option maxRecDepth 100000
set_option maxHeartbeats 3200000
variable {γ:Nat→Option AV}
end Go.AL.Rl
namespace Go.AL.Rl
open Go Go.AL Go.Proofs
set_option maxRecDepth 100000
set_option maxHeartbeats 3200000
variable {γ:Nat→Option AV}
end Go.AL.Rl
namespace Go.AL.Rl
open Go Go.AL Go.Proofs
set_option maxRecDepth 100000
set_option maxHeartbeats 3200000
variable {γ:Nat→Option AV}
end Go.AL.Rl
namespace Go.AL.Rl
open Go Go.AL Go.Proofs
set_option maxRecDepth 100000
set_option maxHeartbeats 3200000
variable {γ:Nat→Option AV}
end Go.AL.Rl
namespace Go.AL.Rl
open Go Go.AL Go.Proofs
set_option maxRecDepth 100000
set_option maxHeartbeats 3200000
variable {γ:Nat→Option AV}
structure Mk where
 id:EId
 w:Bool
theorem Mk.ext' {a b:Mk} (h1:a.id=b.id) (h2:a.w=b.w):a=b:=by cases a;cases b;simp_all
instance:DecidableEq Mk:=fun a b=>decidable_of_iff (a.id=b.id∧a.w=b.w) ⟨fun h=>Mk.ext' h.1 h.2,fun h=>by subst h;exact ⟨rfl,rfl⟩⟩
abbrev mk0:Mk:=⟨⟨0,0⟩,false⟩
abbrev aMk (m:Mk):AV:=.agg [.i fun _=>m.id.t,.i fun _=>m.id.i,.b fun _=>m.w]
def mks (l:List Mk):LV:=LV.of (l.map aMk)
@[simp] theorem mks_len (l:List Mk):(mks l).l.length=l.length:=by simp [mks]
structure Sta where
 g:Gr
 ms:List Mk
 half:Int
def needM (d:EId) (k:Int):List Mk:=(if k=2 then [] else [⟨d,false⟩])++if k=2∨k=3 then [⟨d,true⟩] else []
end Go.AL.Rl
namespace Go.AL.Rl
open Go Go.AL Go.Proofs
set_option maxRecDepth 100000
set_option maxHeartbeats 1600000
def keepP (l:List EId) (t i:Nat):List Nat:=(List.range i).filter fun j=>decide ((⟨(t:Int)+1,(j:Int)⟩:EId)∈l)
theorem keepP_len (l:List EId) (t i:Nat):(keepP l t i).length≤i:=by
 unfold keepP
 exact Nat.le_trans (List.length_filter_le _ _) (by simp)
def keepTh (g:Gr) (l:List EId) (t i:Nat):List Ev:=(keepP l t i).map fun j=>(g.th.getD t []).getD j ev0
def keepFr (g:Gr) (l:List EId) (t i:Nat):List EId:=(keepP l t i).map fun j=>(g.fr.getD t []).getD j id0
def keepO (l o:List EId):List EId:=o.filter fun d=>decide (d∈l)
def keepM (g:Gr) (l:List EId):Gr:=
 ⟨g.init,(List.range g.th.length).map fun t=>keepTh g l t (g.th.getD t []).length,(List.range g.th.length).map fun t=>keepFr g l t (g.th.getD t []).length,g.ord.map (keepO l)⟩
end Go.AL.Rl
namespace Go.AL
open Go Go.RowKit
section
variable {P:Program} {γ:Nat→Option AV}
end
end Go.AL
namespace Go.AL
open Go Go.RowKit
section
variable {P:Program} {γ:Nat→Option AV} {τ:Nat→TI} {C:EC}
def vown (t:TK) (cs:List CK) (n:Nat) (parts:List (Nat × AV)) (h:List Blk) (k:AV→List Blk→Prop):Prop:=
 match t with
 | .slice _ sz _ (some zero)=>if parts.all (fun p=>p.2.closed && p.2.flat && (p.2.cells.length == sz) && decide (p.1<n)) then
   if zero.closed && zero.flat && (zero.cells.length == sz) && decide (0<sz) && decide (n * sz≤16777216) then
    (∀ _:Unit,∀ v∈(LV.of ((setAll (List.replicate n zero) parts).map (AV.nrm cs))).l,v.flat=true)∧k (.sl h.length 0 sz (fun _=>0) fun _=>n) (h++[.run 0 sz fun _=>LV.of ((setAll (List.replicate n zero) parts).map (AV.nrm cs))]) else False
  else False
 | _=>False
theorem run_vown {t:TypeId} {cs:List CK} {n:Nat} {parts:List (Nat × AV)} {h:List Blk} {k:AV→List Blk→Prop} (hv:vown (tiOf P t).k cs n parts h k) :
  ∃ y h',k y h'∧∀ B S ρ w (qs:Array (Nat × Value)),HeapR B S γ ρ h w→PartsR S w (some ρ) parts qs.toList→∃ y' S' ρ' w',(Instr.buildSlice t n qs).run P w=.ok y' w'∧Ext B S ρ w S' ρ' w'∧HeapR B S' γ ρ' h' w'∧R S' w' (some ρ') y y':=by
 unfold vown at hv
 split at hv
 ·rename_i e sz by' zero hk
  obtain ⟨h1,i,h2,h3,_,h5⟩:=tk_slice hk
  split at hv
  ·rename_i hp0
   simp only [List.all_eq_true,Bool.and_eq_true,beq_iff_eq,decide_eq_true_eq] at hp0
   split at hv
   ·rename_i hz0
    simp only [Bool.and_eq_true,beq_iff_eq,decide_eq_true_eq] at hz0
    obtain ⟨⟨⟨⟨hz1,hz2⟩,hz3⟩,hz4⟩,hz5⟩:=hz0
    obtain ⟨zv,hzv,rfl⟩:∃ zv,i.zero=some zv∧zero=ofV zv:=by
     cases hx:i.zero with
     | none=>simp [hx] at h5
     | some zv=>exact ⟨zv,rfl,by simpa [hx] using h5.symm⟩
    have hzc:zv.cells.size=sz:=by
     have:=Rs_len (Rs_ofV (S:=fun _=>True) (w:=default) (ρ:=none) zv)
     simpa [hz3] using this
    obtain ⟨hfl,hv⟩:=hv
    have hfl:=hfl ()
    refine ⟨_,_,hv,fun B S ρ w qs hh hp=>?_⟩
    have hrep:∀ e∈List.replicate n zv,e.cells.size=sz:=fun e he=>by rw [List.eq_of_mem_replicate he];exact hzc
    have hqs:∀ q∈qs.toList,(q.2.cells.size=sz∧q.1<(List.replicate n zv).length):=by
     intro q hq
     obtain ⟨j,hj,rfl⟩:=List.mem_iff_getElem.1 hq
     obtain ⟨k1,k2⟩:=hp
     have hjp:j<parts.length:=by have:=congrArg List.length k1;simp at this;simp at hj;omega
     have hfst:parts[j].1=(qs.toList[j]).1:=by
      have:=congrArg (fun l=>l[j]?) k1
      simpa [List.getElem?_eq_getElem hjp,List.getElem?_eq_getElem hj] using this
     have hr:R S w (some ρ) parts[j].2 (qs.toList[j]).2:=(Rs_iff.1 k2).2 j _ _ (by simp [List.getElem?_eq_getElem hjp]) (by simp [List.getElem?_eq_getElem hj])
     have hpj:=hp0 parts[j] (List.getElem_mem hjp)
     refine ⟨?_,by rw [←hfst];simpa using hpj.2⟩
     have:=Rs_len (R_cells hr hpj.1.1.2).1
     simpa [hpj.1.2] using this
    obtain ⟨f1,f2⟩:=run_fill_slice qs.toList (List.replicate n zv) hrep hqs
    have hnsz:¬ n * i.size > 2 ^ 24:=by rw [h3];omega
    have hlen:(setAllV (List.replicate n zv) qs.toList).length=n:=by rw [setAllV_length];simp
    have hrl:RL S w (LV.of ((setAll (List.replicate n (ofV zv)) parts).map (AV.nrm cs))) (setAllV (List.replicate n zv) qs.toList):=by
     rw [RL_iff,LV.l_of]
     refine Rs_nrm cs (Rs_setAll (ρ:=none) ⟨hp.1,?_⟩ (Rs_replicate (R_ofV zv) n))
     have hcl:∀ (ps:List AV),(∀ p∈ps,p.closed=true)→AV.closed.closeds ps=true:=by
      intro ps
      induction ps with
      | nil=>intro _;rfl
      | cons p ps ih=>intro hps;simp only [AV.closed.closeds,Bool.and_eq_true];exact ⟨hps p (by simp),ih fun q hq=>hps q (by simp [hq])⟩
     exact closed_Rs _ _ (hcl _ fun p hp'=>by
      obtain ⟨q,hq,rfl⟩:=List.mem_map.1 hp'
      exact (hp0 q hq).1.1.1) hp.2
    have hS:SameOn S w (w.alloc (.cells (flat (setAllV (List.replicate n zv) qs.toList)).toArray e)):=fun k hk=>Below.heap_alloc w _ k (hh.sle k hk)
    have hone:=onecells_of hrl hfl
    have hsz:(flat (setAllV (List.replicate n zv) qs.toList)).toArray.size=n * sz:=by rw [List.size_toArray,flat_length f2,hlen]
    obtain ⟨p1,p2⟩:=hh.push (.cells (flat (setAllV (List.replicate n zv) qs.toList)).toArray e) (by intro _ _ _ _ e;cases e;exact ⟨rfl,rfl⟩) ⟨false,0,some w.heap.size,sz,n * sz,[]⟩ (.inl rfl) (.run 0 sz fun _=>LV.of ((setAll (List.replicate n (ofV zv)) parts).map (AV.nrm cs)))
     ⟨rfl,rfl,rfl,_,RL.mono (fun _ h=>h) hS _ _ hrl,hone,.inr ⟨w.heap.size,_,e,rfl,heap_alloc_new w _,hsz,by rw [hlen];exact Nat.le_refl _,fun j ev hj=>⟨f2 ev (List.mem_of_getElem? hj),fun c x hx=>by
      have:=flat_get f2 hj hx
      simpa using this⟩⟩⟩
    refine ⟨.slice (some ⟨w.heap.size,0,none⟩) n n,_,_,w.alloc (.cells (flat (setAllV (List.replicate n zv) qs.toList)).toArray e),?_,p2,p1,_,_,some ⟨w.heap.size,0,none⟩,n,rfl,by rw [←hh.len];exact getElem?_concat _ _,rfl,rfl,Nat.le_refl _,rfl,Nat.le_refl _,.inr ⟨_,_,rfl⟩,fun _=>.inr ⟨w.heap.size,rfl,.inr (by simp),by simp⟩⟩
    ·simp only [Instr.buildSlice,Sem.run_bind,run_underlying h1,Result.andThen_ok,run_sizeOf h2,hnsz,if_false]
     by_cases hn0:n * i.size=0
     ·have hn:n=0:=by rcases Nat.mul_eq_zero.1 hn0 with h | h<;>omega
      subst hn
      simp only [hn0,if_true]
      have hq0:qs.toList=[]:=by
       cases hq:qs.toList with
       | nil=>rfl
       | cons q _=>have:=(hqs q (by simp [hq])).2;simp at this
      rw [hq0] at f1 ⊢
      simp [Instr.fill,newRow,setAllV,flat,Array.range_zero']
     ·simp only [hn0,if_false,Sem.run_bind,run_zeroValue h2 hzv,Result.andThen_ok,Sem.run_pure]
      have hz:((Array.range (n * i.size)).map fun x=>zv.cells[x % zv.cells.size]!)=(flat (List.replicate n zv)).toArray:=by
       rw [flat_replicate,←range_mod zv.cells sz hzc n,h3]
       rw [←List.map_toArray]
       congr 1
       exact Array.ext (by simp) (by intro j h1 h2;simp)
      rw [hz,h3,f1]
      simp [newRow]
   ·exact hv.elim
  ·exact hv.elim
 ·exact hv.elim
def vopO (own:List Nat) (τ:Nat→TI) (γ:Nat→Option AV) (C:EC) (o:Oper) (A:St) (K:St→Prop):Prop:=
 match o.op with
 | .buildSlice t n ps=>match o.dst with
  | some d=>match own.contains d with
   | true=>vown (τ t).k (τ (τ t).k.elem).cs n (ps.toList.map fun p=>(p.1,A.ev γ p.2)) A.h fun v h=>K (St.put ⟨A.n,A.s,h⟩ o.dst v)
   | false=>vop τ γ C o A K
  | none=>vop τ γ C o A K
 | _=>vop τ γ C o A K
theorem vopO_sound {own:List Nat} (hτ:∀ t,τ t=tiOf P t) (hC:∀ f args h Q,C f args h Q→PC P γ f args h Q) {o:Oper} {A:St} {K:St→Prop} (hv:vopO own τ γ C o A K):OpR P γ o A K:=by
 unfold vopO at hv
 split at hv
 ·rename_i t n ps ho
  split at hv
  ·split at hv
   ·rw [hτ,hτ] at hv
    obtain ⟨v,h',h1,h2⟩:=run_vown (γ:=γ) hv
    have hr:OpR P γ o A (fun A'=>A'=St.put ⟨A.n,A.s,h'⟩ o.dst v):=OpR.of_e fun B S ρ w re hh hx=>by
     have hp:PartsR S w (some ρ) (ps.toList.map fun p=>(p.1,A.ev γ p.2)) (ps.map fun x=>(x.1,re x.2)).toList:=by
      rw [Array.toList_map]
      exact PartsR.of _ fun p hp=>hx p.2
     obtain ⟨y',S',ρ',w',k1,k2,k3,k4⟩:=h2 B S ρ w _ hh hp
     refine ⟨y',S',ρ',w',.inl ?_,k2,k3,k4⟩
     obtain ⟨dd,op,ty,pos,af,gg⟩:=o
     simp only at ho
     subst ho
     simp only [execOp,Sem.run_bind];rw [k1];rfl
    exact hr.mono fun A' e=>e ▸ h1
   ·exact vop_sound hτ hC hv
  ·exact vop_sound hτ hC hv
 ·exact vop_sound hτ hC hv
def vopsO (own:List Nat) (τ:Nat→TI) (γ:Nat→Option AV) (C:EC) (ops:List Oper):List Oper→St→(St→Prop)→Prop
 | [],A,K=>K A
 | o :: r,A,K=>
  match o.guard with
  | none=>vopO own τ γ C o A fun A=>vopsO own τ γ C ops r A K
  | some (j,want)=>match ops[j]? with
   | some oj=>match oj.dst with
    | some d=>match A.s.get d with
     | .tt=>match want with
      | true=>vopO own τ γ C o A fun A=>vopsO own τ γ C ops r A K
      | false=>vopsO own τ γ C ops r (A.put o.dst .undef) K
     | .ff=>match want with
      | false=>vopO own τ γ C o A fun A=>vopsO own τ γ C ops r A K
      | true=>vopsO own τ γ C ops r (A.put o.dst .undef) K
     | .undef=>vopsO own τ γ C ops r (A.put o.dst .undef) K
     | .b x=>match want with
      | true=>(∀ _:Unit,x ()=true→vopO own τ γ C o (A.put (some d) .tt) fun A=>vopsO own τ γ C ops r A K)∧(∀ _:Unit,x ()=false→vopsO own τ γ C ops r ((A.put (some d) .ff).put o.dst .undef) K)
      | false=>(∀ _:Unit,x ()=true→vopsO own τ γ C ops r ((A.put (some d) .tt).put o.dst .undef) K)∧(∀ _:Unit,x ()=false→vopO own τ γ C o (A.put (some d) .ff) fun A=>vopsO own τ γ C ops r A K)
     | _=>False
    | none=>False
   | none=>False
theorem vopsO_sound {own:List Nat} (hτ:∀ t,τ t=tiOf P t) (hC:∀ f args h Q,C f args h Q→PC P γ f args h Q) {ops:Array Oper} {Q:Exit→Act→World→Prop} {K:St→Prop}:∀ (l:List Oper) (A:St) (B:Nat) (S:Nat→Prop) (ρ:List Loc) (a:Act) (w:World),
  Sim B S γ ρ A a w→vopsO own τ γ C ops.toList l A K→(∀ S' ρ' A' a' w',K A'→Sim B S' γ ρ' A' a' w'→Ext B S ρ w S' ρ' w'→Q .normal a' w')→wpList P ops Q l a w
 | [],A,B,S,ρ,a,w,hs,hv,hK=>hK S ρ A a w hv hs (Ext.refl B S ρ w)
 | o :: l,A,B,S,ρ,a,w,hs,hv,hK=>by
  have go:∀ A0,Sim B S γ ρ A0 a w→vopO own τ γ C o A0 (fun A=>vopsO own τ γ C ops.toList l A K)→o.wp P a w (wpList P ops Q l) Q:=fun A0 hs0 h0=>
   vopO_sound hτ hC h0 B S ρ a w _ _ hs0 fun S' ρ' A' a' w' h1 h2 h3=>vopsO_sound hτ hC l A' B S' ρ' a' w' h2 h1 fun S'' ρ'' A'' a'' w'' k1 k2 k3=>hK S'' ρ'' A'' a'' w'' k1 k2 (h3.trans k3)
  have skip:∀ A0,Sim B S γ ρ A0 a w→vopsO own τ γ C ops.toList l (A0.put o.dst .undef) K→wpList P ops Q l (a.put o.dst Go.undef) w:=fun A0 hs0 h0=>
   vopsO_sound hτ hC l _ B S ρ _ w (hs0.put o.dst (v:=.undef) (v':=Go.undef) rfl) h0 hK
  simp only [wpList]
  simp only [vopsO] at hv
  split at hv
  ·rename_i hg
   rw [if_pos (by simp [Region.wanted,hg])]
   exact .inl (go A hs hv)
  ·rename_i j want hg
   split at hv
   ·rename_i oj hj
    split at hv
    ·rename_i d hd
     have hy:=yielded_eq hj hd a.tmps
     have hslot:=hs.slot d
     have yes:∀ b:Bool,a.tmps.getD d Go.undef=.bool b→want=b→Region.wanted o (yielded ops a.tmps)=true:=fun b h1 h2=>by
      simp only [Region.wanted,hg,hy,h1,h2];simp
     have no:∀ b:Bool,a.tmps.getD d Go.undef=.bool b→want≠b→¬ Region.wanted o (yielded ops a.tmps)=true:=fun b h1 h2=>by
      simp only [Region.wanted,hg,hy,h1];simp;exact fun h=>h2 h.symm
     split at hv
     ·rename_i hst;rw [hst] at hslot
      split at hv
      ·rw [if_pos (yes true hslot rfl)];exact .inl (go A hs hv)
      ·rw [if_neg (no true hslot (by simp))];exact skip A hs hv
     ·rename_i hst;rw [hst] at hslot
      split at hv
      ·rw [if_pos (yes false hslot rfl)];exact .inl (go A hs hv)
      ·rw [if_neg (no false hslot (by simp))];exact skip A hs hv
     ·rename_i hst;rw [hst] at hslot
      have:¬ Region.wanted o (yielded ops a.tmps)=true:=by
       have e:a.tmps.getD d Go.undef=Go.undef:=hslot
       unfold Region.wanted
       rw [hg]
       simp only [hy]
       rw [e]
       simp [Go.undef]
      rw [if_neg this];exact skip A hs hv
     ·rename_i x hst;rw [hst] at hslot
      have hslot:a.tmps.getD d Go.undef=.bool (x ()):=hslot
      split at hv
      ·cases hx:x () with
       | true=>
        rw [hx] at hslot
        rw [if_pos (yes true hslot rfl)];exact .inl (go _ (hs.reput d (v:=.tt) hslot) (hv.1 () hx))
       | false=>
        rw [hx] at hslot
        rw [if_neg (no false hslot (by simp))];exact skip _ (hs.reput d (v:=.ff) hslot) (hv.2 () hx)
      ·cases hx:x () with
       | true=>
        rw [hx] at hslot
        rw [if_neg (no true hslot (by simp))];exact skip _ (hs.reput d (v:=.tt) hslot) (hv.1 () hx)
       | false=>
        rw [hx] at hslot
        rw [if_pos (yes false hslot rfl)];exact .inl (go _ (hs.reput d (v:=.ff) hslot) (hv.2 () hx))
     ·exact hv.elim
    ·exact hv.elim
   ·exact hv.elim
theorem AWP.regionO (own:List Nat) {id:Nat} {ops:Array Oper} {Q:Exit→St→Prop} {A:St} (hτ:∀ t,τ t=tiOf P t) (hC:∀ f args h Q,C f args h Q→PC P γ f args h Q) (hv:vopsO own τ γ C ops.toList ops.toList A (Q .normal)):AWP P γ (.region id ops false) Q A:=
 fun B S ρ a w hs=>wp_region_list (vopsO_sound hτ hC _ A B S ρ a w hs hv fun S' ρ' A' _ _ h1 h2 h3=>⟨S',ρ',A',h1,h2,h3⟩)
end
section
variable {P:Program} {γ:Nat→Option AV}
theorem Pure.goO {ty:Program→Nat→TI} (hτ:∀ t,ty P t=tiOf P t) (hm:P.follows .mixedOrders=true) {f:FuncId} {fn:Func} {n:Nat} {rs:Array ResultVar}
  (hf:P.funcs[f]?=some fn) (hb:fn.body=some (fn.body.getD .skip)) (hn:fn.ntmps=n) (hr:fn.results=rs) (he:Enters P f) {args:List AV} {y:AV} (hsz:args.length≤n∧n<1000)
  (h:∀ (P':Program) (C:EC) (CQ:List Blk→QC) (D:Array Oper→(St→Prop)→St→Prop) (W:Code→(Exit→St→Prop)→St→Prop) (F:AV→List Blk→Prop),Env P γ C CQ (ty P') D W →
   (∀ (own:List Nat) {id:Nat} {ops:Array Oper} {n:Nat} {r:List Code} {Q:Exit→St→Prop} {A:St},vopsO own (ty P') γ C.noY ops.toList ops.toList A (fun A=>vcl (ty P') γ C D W r Q A)→AWPl P γ n (.region id ops false :: r) Q A) →
   (∀ {v h},fz h y v→F v h)→AWPl P γ 0 (citems (fn.body.getD .skip)) (bodyQ (ty P') rs.toList F) (start n args [])):Pure P γ false f args y:=
 Pure.of_body hτ hf hb hn (by rw [hr]) he hsz (AWPr.to (AWPr.of_items _ (h P _ _ _ _ _ (Env.top hτ hm) (fun own {id ops n r Q A} hv=>
  AWPr.mono (AWPr.of (AWP.regionO own (Q:=thenE (fun A=>vcl (ty P) γ (SC P γ) (Dany P γ (ty P)) (fun c Q A=>AWP P γ (.loop c) Q A) r Q A) Q) hτ SC.noY_pc hv)) fun e A' h'=>by
   cases e with
   | normal=>exact (Env.top hτ hm).bl h'
   | _=>exact h') (fun h=>h))))
end
end Go.AL
