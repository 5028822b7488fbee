import Derived.Test.YtjcioienjlonmaaMg6
set_option linter.unusedVariables false
set_option linter.unusedSimpArgs false
namespace Go.AL.Rl
open Go Go.AL Go.Proofs
set_option maxRecDepth 100000
set_option maxHeartbeats 3200000
variable {γ:Nat→Option AV}
theorem learn_yes (g:Gr) (hg:Rd g) (h:GOk g):Pure Try.prog γ false 30 [aGr g] (.tup [aFg g,.b fun _=>true]):=by
 have kd:=dAll_yes (γ:=γ) g hg h
 unfold aFg
 generalize poF (viewG g) (nG g)=q1 at *
 generalize rfF (viewG g) (nG g)=q2 at *
 generalize coF (viewG g) (nG g)=q3 at *
 generalize frF (viewG g) (nG g)=q4 at *
 generalize swF (viewG g) (nG g)=q5 at *
 generalize ecoF (viewG g) (nG g)=q6 at *
 generalize porfF (viewG g) (nG g)=q7 at *
 generalize hbF (viewG g) (nG g)=q8 at *
 generalize locF (viewG g) (nG g)=q9 at *
 generalize nG g=n at *
 refine Pure.go (ty:=ty) ty_eq mo Try.func30 rfl Try.ntmps30 Try.results30 Try.call30 (by simp) fun P C CQ D W F E hF=>?_
 cbv
 repeat' (first
  |(refine E.c (SCalls.of_le (kd) ?_ ?_);(· (cbv;(try simp only [nc] at *);first|done|(simp;done)|(simp (disch:=(first|omega|(simp only [lnS];omega))) only [rdT,rdS,anT];first|done|omega|(refine ⟨?_,?_⟩<;>omega))|(simp (disch:=(first|omega|(simp only [lnS];omega))) [rdT,rdS];done)));cbv)
  |(refine ⟨fun _ h_s=>?_,fun _ h_s=>?_⟩<;>(cbv;(try simp only [nc] at *);try simp (disch:=(first|omega|(simp only [lnS];omega))) only [rdT,rdS,reduceCtorEq,trT] at h_s))
  |(refine hF ?_;intro _;clear hF)
  |(refine hF ?_;cbv;clear hF)
  |(refine ⟨fun _=>?_,?_⟩;(· ((try simp only [nc] at *);first|done|omega|exact ⟨by omega,rfl⟩|(simp (disch:=(first|omega|(simp only [lnS];omega))) only [rdT,rdS];first|done|omega|rfl|exact ⟨by omega,rfl⟩|(simp;done)|(simp;omega))|(intros;trivial)));(try (simp only [nc] at *));(try simp (disch:=(first|omega|(simp only [lnS];omega))) only [rdT,rdS]);(try cbv))
  | fail
 )
 simp
theorem learn_no (g:Gr) (hg:Rd g) (h:¬ GOk g):Pure Try.prog γ false 30 [aGr g] (.tup [aFc g 0 [] [] [] [] [] [] [] [] [],.b fun _=>false]):=by
 have kd:=dAll_no (γ:=γ) g hg h
 refine Pure.go (ty:=ty) ty_eq mo Try.func30 rfl Try.ntmps30 Try.results30 Try.call30 (by simp) fun P C CQ D W F E hF=>?_
 cbv
 repeat' (first
  |(refine E.c (SCalls.of_le (kd) ?_ ?_);(· (cbv;(try simp only [nc] at *);first|done|(simp;done)|(simp (disch:=(first|omega|(simp only [lnS];omega))) only [rdT,rdS,anT];first|done|omega|(refine ⟨?_,?_⟩<;>omega))|(simp (disch:=(first|omega|(simp only [lnS];omega))) [rdT,rdS];done)));cbv)
  |(refine ⟨fun _ h_s=>?_,fun _ h_s=>?_⟩<;>(cbv;(try simp only [nc] at *);try simp (disch:=(first|omega|(simp only [lnS];omega))) only [rdT,rdS,reduceCtorEq,trT] at h_s))
  |(refine hF ?_;intro _;clear hF)
  |(refine hF ?_;cbv;clear hF)
  |(refine ⟨fun _=>?_,?_⟩;(· ((try simp only [nc] at *);first|done|omega|exact ⟨by omega,rfl⟩|(simp (disch:=(first|omega|(simp only [lnS];omega))) only [rdT,rdS];first|done|omega|rfl|exact ⟨by omega,rfl⟩|(simp;done)|(simp;omega))|(intros;trivial)));(try (simp only [nc] at *));(try simp (disch:=(first|omega|(simp only [lnS];omega))) only [rdT,rdS]);(try cbv))
  | fail
 )
 simp
theorem rulesF_ok:Pure Try.prog γ false 31 [] (.agg [.raw .nilFunc,.fn 39 [] [],.fn 40 [] [],.fn 41 [] [],.fn 43 [] [],.fn 44 [] [],.fn 45 [] []]):=by
 refine Pure.go (ty:=ty) ty_eq mo Try.func31 rfl Try.ntmps31 Try.results31 Try.call31 (by simp) fun P C CQ D W F E hF=>?_
 cbv
 repeat' (first
  |(refine ⟨fun _ h_s=>?_,fun _ h_s=>?_⟩<;>(cbv;(try simp only [nc] at *);try simp (disch:=(first|omega|(simp only [lnS];omega))) only [rdT,rdS,reduceCtorEq,trT] at h_s))
  |(refine hF ?_;intro _;clear hF)
  |(refine hF ?_;cbv;clear hF)
  |(refine ⟨fun _=>?_,?_⟩;(· ((try simp only [nc] at *);first|done|omega|exact ⟨by omega,rfl⟩|(simp (disch:=(first|omega|(simp only [lnS];omega))) only [rdT,rdS];first|done|omega|rfl|exact ⟨by omega,rfl⟩|(simp;done)|(simp;omega))|(intros;trivial)));(try (simp only [nc] at *));(try simp (disch:=(first|omega|(simp only [lnS];omega))) only [rdT,rdS]);(try cbv))
  | fail
 )
theorem find_at (p:Int→Bool):∀ (l:List Int) (a:Nat),a<l.length→p (l.getD a 0)=true→(∀ j<a,p (l.getD j 0)=false)→l.find? p=some (l.getD a 0)
 | [],a,h,_,_=>absurd h (Nat.not_lt_zero _)
 | x :: l,0,_,h,_=>by simp at h;simp [h]
 | x :: l,a+1,hl,h,hb=>by
  have h0:=hb 0 (by omega)
  simp at h0
  rw [List.find?_cons_of_neg (by simp [h0])]
  have:=find_at p l a (by simpa using hl) (by simpa using h) fun j hj=>by simpa using hb (j+1) (by omega)
  simpa using this
theorem find_no (p:Int→Bool) (l:List Int) (hb:∀ j<l.length,p (l.getD j 0)=false):l.find? p=none:=by
 rw [List.find?_eq_none]
 intro x hx
 obtain ⟨i,hi,rfl⟩:=List.getElem_of_mem hx
 have:=hb i hi
 simp [hi] at this
 simp [this]
abbrev aBk (b:Bk):AV:=.tup [.agg [.i fun _=>b.rule,.i fun _=>b.a,.i fun _=>b.b],.b fun _=>b.br]
theorem why_bad (m:Int) (g:Gr) (hm:m≠1∧m≠2):Pure Try.prog γ false 18 [.i fun _=>m,aGr g] (aBk ⟨0,0,0,false⟩):=by
 have kn:=known_ok (γ:=γ) m
 rw [decide_eq_false (by omega)] at kn
 refine Pure.go (ty:=ty) ty_eq mo Try.func18 rfl Try.ntmps18 Try.results18 Try.call18 (by simp) fun P C CQ D W F E hF=>?_
 cbv
 repeat' (first
  |(refine E.c (SCalls.of_le (kn) ?_ ?_);(· (cbv;(try simp only [nc] at *);first|done|(simp;done)|(simp (disch:=(first|omega|(simp only [lnS];omega))) only [rdT,rdS,anT];first|done|omega|(refine ⟨?_,?_⟩<;>omega))|(simp (disch:=(first|omega|(simp only [lnS];omega))) [rdT,rdS];done)));cbv)
  |(refine ⟨fun _ h_s=>?_,fun _ h_s=>?_⟩<;>(cbv;(try simp only [nc] at *);try simp (disch:=(first|omega|(simp only [lnS];omega))) only [rdT,rdS,reduceCtorEq,trT] at h_s))
  |(refine hF ?_;intro _;clear hF)
  |(refine hF ?_;cbv;clear hF)
  |(refine ⟨fun _=>?_,?_⟩;(· ((try simp only [nc] at *);first|done|omega|exact ⟨by omega,rfl⟩|(simp (disch:=(first|omega|(simp only [lnS];omega))) only [rdT,rdS];first|done|omega|rfl|exact ⟨by omega,rfl⟩|(simp;done)|(simp;omega))|(intros;trivial)));(try (simp only [nc] at *));(try simp (disch:=(first|omega|(simp only [lnS];omega))) only [rdT,rdS]);(try cbv))
  | fail
 )
 simp
theorem why_no (m:Int) (g:Gr) (hm:m=1∨m=2) (hg:Rd g) (h:¬ GOk g):Pure Try.prog γ false 18 [.i fun _=>m,aGr g] (aBk ⟨1,-1,-1,true⟩):=by
 have kn:=known_ok (γ:=γ) m
 rw [decide_eq_true hm] at kn
 have kl:=learn_no (γ:=γ) g hg h
 refine Pure.go (ty:=ty) ty_eq mo Try.func18 rfl Try.ntmps18 Try.results18 Try.call18 (by simp) fun P C CQ D W F E hF=>?_
 cbv
 repeat' (first
  |(refine E.c (SCalls.of_le (kl) ?_ ?_);(· (cbv;(try simp only [nc] at *);first|done|(simp;done)|(simp (disch:=(first|omega|(simp only [lnS];omega))) only [rdT,rdS,anT];first|done|omega|(refine ⟨?_,?_⟩<;>omega))|(simp (disch:=(first|omega|(simp only [lnS];omega))) [rdT,rdS];done)));cbv)
  |(refine E.c (SCalls.of_le (kn) ?_ ?_);(· (cbv;(try simp only [nc] at *);first|done|(simp;done)|(simp (disch:=(first|omega|(simp only [lnS];omega))) only [rdT,rdS,anT];first|done|omega|(refine ⟨?_,?_⟩<;>omega))|(simp (disch:=(first|omega|(simp only [lnS];omega))) [rdT,rdS];done)));cbv)
  |(refine ⟨fun _ h_s=>?_,fun _ h_s=>?_⟩<;>(cbv;(try simp only [nc] at *);try simp (disch:=(first|omega|(simp only [lnS];omega))) only [rdT,rdS,reduceCtorEq,trT] at h_s))
  |(refine hF ?_;intro _;clear hF)
  |(refine hF ?_;cbv;clear hF)
  |(refine ⟨fun _=>?_,?_⟩;(· ((try simp only [nc] at *);first|done|omega|exact ⟨by omega,rfl⟩|(simp (disch:=(first|omega|(simp only [lnS];omega))) only [rdT,rdS];first|done|omega|rfl|exact ⟨by omega,rfl⟩|(simp;done)|(simp;omega))|(intros;trivial)));(try (simp only [nc] at *));(try simp (disch:=(first|omega|(simp only [lnS];omega))) only [rdT,rdS]);(try cbv))
  | fail
 )
 simp
theorem why_yes (m:Int) (l:List Int) (g:Gr) (hm:m=1∨m=2) (hl:l.length≤9) (hr:∀ a<l.length,l.getD a 0=1∨l.getD a 0=2∨l.getD a 0=3∨l.getD a 0=4∨l.getD a 0=5∨l.getD a 0=6)
  (kr:Pure Try.prog γ false 32 [.i fun _=>m] (.vs 1 fun _=>is l)) (hg:Rd g) (h:GOk g) :
  Pure Try.prog γ false 18 [.i fun _=>m,aGr g] (aBk (match l.find? fun k=>(fltM (viewG g) (nG g) k).br with
   | some k=>⟨k,(fltM (viewG g) (nG g) k).a,(fltM (viewG g) (nG g) k).b,true⟩
   | none=>⟨0,0,0,false⟩)):=by
 have kn:=known_ok (γ:=γ) m
 rw [decide_eq_true hm] at kn
 have kl:=learn_yes (γ:=γ) g hg h
 have kf:=rulesF_ok (γ:=γ)
 have f1:=flt1_ok (γ:=γ) g
 have f2:=flt2_ok (γ:=γ) g hg h
 have f3:=flt3_ok (γ:=γ) g h
 have f4:=flt4_ok (γ:=γ) g h
 have f5:=flt5_ok (γ:=γ) g h
 have f6:=flt6_ok (γ:=γ) g h
 unfold aFg at *
 generalize poF (viewG g) (nG g)=q1 at *
 generalize rfF (viewG g) (nG g)=q2 at *
 generalize coF (viewG g) (nG g)=q3 at *
 generalize frF (viewG g) (nG g)=q4 at *
 generalize swF (viewG g) (nG g)=q5 at *
 generalize ecoF (viewG g) (nG g)=q6 at *
 generalize porfF (viewG g) (nG g)=q7 at *
 generalize hbF (viewG g) (nG g)=q8 at *
 generalize locF (viewG g) (nG g)=q9 at *
 generalize fltM (viewG g) (nG g)=fl at *
 generalize nG g=n at *
 obtain ⟨B,hB⟩:∃ B:Bk,B=(match l.find? fun k=>(fl k).br with
   | some k=>⟨k,(fl k).a,(fl k).b,true⟩
   | none=>⟨0,0,0,false⟩):=⟨_,rfl⟩
 rw [←hB]
 have hB1:∀ a<l.length,(fl (l.getD a 0)).br=true→(∀ j<a,(fl (l.getD j 0)).br=false)→B=⟨l.getD a 0,(fl (l.getD a 0)).a,(fl (l.getD a 0)).b,true⟩:=fun a h1 h2 h3=>by
  rw [hB,find_at (fun k=>(fl k).br) l a h1 h2 h3]
 have hB0:(∀ j<l.length,(fl (l.getD j 0)).br=false)→B=⟨0,0,0,false⟩:=fun h3=>by
  rw [hB,find_no (fun k=>(fl k).br) l h3]
 clear hB
 refine Pure.go (ty:=ty) ty_eq mo Try.func18 rfl Try.ntmps18 Try.results18 Try.call18 (by simp) fun P C CQ D W F E hF=>?_
 cbv
 repeat' (first
  |(refine E.c (SCalls.of_le (kr) ?_ ?_);(· (cbv;(try simp only [nc] at *);first|done|(simp;done)|(simp (disch:=(first|omega|(simp only [lnS];omega))) only [rdT,rdS,anT];first|done|omega|(refine ⟨?_,?_⟩<;>omega))|(simp (disch:=(first|omega|(simp only [lnS];omega))) [rdT,rdS];done)));cbv)
  |(refine E.c (SCalls.of_le (kf) ?_ ?_);(· (cbv;(try simp only [nc] at *);first|done|(simp;done)|(simp (disch:=(first|omega|(simp only [lnS];omega))) only [rdT,rdS,anT];first|done|omega|(refine ⟨?_,?_⟩<;>omega))|(simp (disch:=(first|omega|(simp only [lnS];omega))) [rdT,rdS];done)));cbv)
  |(refine E.c (SCalls.of_le (kl) ?_ ?_);(· (cbv;(try simp only [nc] at *);first|done|(simp;done)|(simp (disch:=(first|omega|(simp only [lnS];omega))) only [rdT,rdS,anT];first|done|omega|(refine ⟨?_,?_⟩<;>omega))|(simp (disch:=(first|omega|(simp only [lnS];omega))) [rdT,rdS];done)));cbv)
  |(refine E.c (SCalls.of_le (kn) ?_ ?_);(· (cbv;(try simp only [nc] at *);first|done|(simp;done)|(simp (disch:=(first|omega|(simp only [lnS];omega))) only [rdT,rdS,anT];first|done|omega|(refine ⟨?_,?_⟩<;>omega))|(simp (disch:=(first|omega|(simp only [lnS];omega))) [rdT,rdS];done)));cbv)
  |(refine ⟨fun _ h_s=>?_,fun _ h_s=>?_⟩<;>(cbv;(try simp only [nc] at *);try simp (disch:=(first|omega|(simp only [lnS];omega))) only [rdT,rdS,reduceCtorEq,trT] at h_s))
  |(refine hF ?_;intro _;clear hF)
  |(refine hF ?_;cbv;clear hF)
  |(refine ⟨fun _=>?_,?_⟩;(· ((try simp only [nc] at *);first|done|omega|exact ⟨by omega,rfl⟩|(simp (disch:=(first|omega|(simp only [lnS];omega))) only [rdT,rdS];first|done|omega|rfl|exact ⟨by omega,rfl⟩|(simp;done)|(simp;omega))|(intros;trivial)));(try (simp only [nc] at *));(try simp (disch:=(first|omega|(simp only [lnS];omega))) only [rdT,rdS]);(try cbv))
  | fail
 )
 refine E.loopS (ι:=Nat) (fun a=>a≤l.length∧(∀ j<a,(fl (l.getD j 0)).br=false)) (fun a=>l.length-a) (fun a=>[(28,.i fun _=>((a:Nat):Int))]) (fun a h=>h) 0 (fun _=>by first|rfl|simp) ⟨Nat.zero_le _,?_⟩ ?_ fun a ha I hI=>?_
 ·intro k hk;omega
 ·cbv;simp
 cbv
 obtain ⟨ha,hp⟩:=ha
 have hra:=hr a
 repeat' (first
  |(refine hI (a+1) ?_ ?_ ?_;rotate_left 1;(· ((try simp only [nc] at *);omega));(cbv;clear hI;(try clear hF);(try simp only [nc] at *);(try simp (disch:=(first|omega|(simp only [lnS];omega))) only [rdT,rdS,anT]));rotate_left 1;(try ((try simp only [nc] at *);omega)))
  |(refine E.de 6 [] [none] (by decide +kernel) ?_;cbv;(fail_if_success guard_target =~ False))
  |(refine ⟨fun _ h_s=>?_,fun _ h_s=>?_⟩<;>(cbv;(try simp only [nc] at *);try simp (disch:=(first|omega|(simp only [lnS];omega))) only [rdT,rdS,reduceCtorEq,trT] at h_s))
  |(refine hF ?_;intro _;clear hF)
  |(refine hF ?_;cbv;clear hF)
  |(refine ⟨fun _=>?_,?_⟩;(· ((try simp only [nc] at *);first|done|omega|exact ⟨by omega,rfl⟩|(simp (disch:=(first|omega|(simp only [lnS];omega))) only [rdT,rdS];first|done|omega|rfl|exact ⟨by omega,rfl⟩|(simp;done)|(simp;omega))|(intros;trivial)));(try (simp only [nc] at *));(try simp (disch:=(first|omega|(simp only [lnS];omega))) only [rdT,rdS]);(try cbv))
  | fail
 )
 ·have ha':a<l.length:=by ((try simp only [nc] at *);omega)
  have hB1a:=hB1 a ha'
  clear hB1 hB0 hr kr kn kl kf
  rcases hra ha' with e | e | e | e | e | e
  ·refine ⟨1,fun _=>e,by decide,?_⟩
   cbv
   rw [e] at hB1a
   repeat' (first
    |(refine hI (a+1) ?_ ?_ ?_;rotate_left 1;(· ((try simp only [nc] at *);omega));(cbv;clear hI;(try clear hF);(try simp only [nc] at *);(try simp (disch:=(first|omega|(simp only [lnS];omega))) only [rdT,rdS,anT]));rotate_left 1;(try ((try simp only [nc] at *);omega)))
    |((first|refine E.c (SCalls.of_le (f1) ?_ ?_)|refine E.q (QCalls.of_le (f1) ?_ ?_));(· (cbv;(try simp only [nc] at *);first|done|(simp;done)|(simp (disch:=(first|omega|(simp only [lnS];omega))) only [rdT,rdS,anT];first|done|omega|(refine ⟨?_,?_⟩<;>omega))|(simp (disch:=(first|omega|(simp only [lnS];omega))) [rdT,rdS];done)));cbv)
    |(refine ⟨fun _ h_s=>?_,fun _ h_s=>?_⟩<;>(cbv;(try simp only [nc] at *);try simp (disch:=(first|omega|(simp only [lnS];omega))) only [rdT,rdS,reduceCtorEq,trT] at h_s))
    |(refine hF ?_;intro _;clear hF)
    |(refine hF ?_;cbv;clear hF)
    |(refine ⟨fun _=>?_,?_⟩;(· ((try simp only [nc] at *);first|done|omega|exact ⟨by omega,rfl⟩|(simp (disch:=(first|omega|(simp only [lnS];omega))) only [rdT,rdS];first|done|omega|rfl|exact ⟨by omega,rfl⟩|(simp;done)|(simp;omega))|(intros;trivial)));(try (simp only [nc] at *));(try simp (disch:=(first|omega|(simp only [lnS];omega))) only [rdT,rdS]);(try cbv))
    | fail
   )
   ·rw [hB1a h_s hp]
    exact ⟨⟨fun _=>e,fun _=>rfl,fun _=>rfl,trivial⟩,fun _=>rfl,trivial⟩
   ·refine ⟨by ((try simp only [nc] at *);omega),fun j hj=>?_⟩
    rcases Nat.lt_or_ge j a with h1 | h1
    ·exact hp j h1
    ·obtain rfl:j=a:=by omega
     rw [e];assumption
   ·push_cast;rfl
  ·refine ⟨2,fun _=>e,by decide,?_⟩
   cbv
   rw [e] at hB1a
   repeat' (first
    |(refine hI (a+1) ?_ ?_ ?_;rotate_left 1;(· ((try simp only [nc] at *);omega));(cbv;clear hI;(try clear hF);(try simp only [nc] at *);(try simp (disch:=(first|omega|(simp only [lnS];omega))) only [rdT,rdS,anT]));rotate_left 1;(try ((try simp only [nc] at *);omega)))
    |((first|refine E.c (SCalls.of_le (f2) ?_ ?_)|refine E.q (QCalls.of_le (f2) ?_ ?_));(· (cbv;(try simp only [nc] at *);first|done|(simp;done)|(simp (disch:=(first|omega|(simp only [lnS];omega))) only [rdT,rdS,anT];first|done|omega|(refine ⟨?_,?_⟩<;>omega))|(simp (disch:=(first|omega|(simp only [lnS];omega))) [rdT,rdS];done)));cbv)
    |(refine ⟨fun _ h_s=>?_,fun _ h_s=>?_⟩<;>(cbv;(try simp only [nc] at *);try simp (disch:=(first|omega|(simp only [lnS];omega))) only [rdT,rdS,reduceCtorEq,trT] at h_s))
    |(refine hF ?_;intro _;clear hF)
    |(refine hF ?_;cbv;clear hF)
    |(refine ⟨fun _=>?_,?_⟩;(· ((try simp only [nc] at *);first|done|omega|exact ⟨by omega,rfl⟩|(simp (disch:=(first|omega|(simp only [lnS];omega))) only [rdT,rdS];first|done|omega|rfl|exact ⟨by omega,rfl⟩|(simp;done)|(simp;omega))|(intros;trivial)));(try (simp only [nc] at *));(try simp (disch:=(first|omega|(simp only [lnS];omega))) only [rdT,rdS]);(try cbv))
    | fail
   )
   ·rw [hB1a h_s hp]
    exact ⟨⟨fun _=>e,fun _=>rfl,fun _=>rfl,trivial⟩,fun _=>rfl,trivial⟩
   ·refine ⟨by ((try simp only [nc] at *);omega),fun j hj=>?_⟩
    rcases Nat.lt_or_ge j a with h1 | h1
    ·exact hp j h1
    ·obtain rfl:j=a:=by omega
     rw [e];assumption
   ·push_cast;rfl
  ·refine ⟨3,fun _=>e,by decide,?_⟩
   cbv
   rw [e] at hB1a
   repeat' (first
    |(refine hI (a+1) ?_ ?_ ?_;rotate_left 1;(· ((try simp only [nc] at *);omega));(cbv;clear hI;(try clear hF);(try simp only [nc] at *);(try simp (disch:=(first|omega|(simp only [lnS];omega))) only [rdT,rdS,anT]));rotate_left 1;(try ((try simp only [nc] at *);omega)))
    |((first|refine E.c (SCalls.of_le (f3) ?_ ?_)|refine E.q (QCalls.of_le (f3) ?_ ?_));(· (cbv;(try simp only [nc] at *);first|done|(simp;done)|(simp (disch:=(first|omega|(simp only [lnS];omega))) only [rdT,rdS,anT];first|done|omega|(refine ⟨?_,?_⟩<;>omega))|(simp (disch:=(first|omega|(simp only [lnS];omega))) [rdT,rdS];done)));cbv)
    |(refine ⟨fun _ h_s=>?_,fun _ h_s=>?_⟩<;>(cbv;(try simp only [nc] at *);try simp (disch:=(first|omega|(simp only [lnS];omega))) only [rdT,rdS,reduceCtorEq,trT] at h_s))
    |(refine hF ?_;intro _;clear hF)
    |(refine hF ?_;cbv;clear hF)
    |(refine ⟨fun _=>?_,?_⟩;(· ((try simp only [nc] at *);first|done|omega|exact ⟨by omega,rfl⟩|(simp (disch:=(first|omega|(simp only [lnS];omega))) only [rdT,rdS];first|done|omega|rfl|exact ⟨by omega,rfl⟩|(simp;done)|(simp;omega))|(intros;trivial)));(try (simp only [nc] at *));(try simp (disch:=(first|omega|(simp only [lnS];omega))) only [rdT,rdS]);(try cbv))
    | fail
   )
   ·rw [hB1a h_s hp]
    exact ⟨⟨fun _=>e,fun _=>rfl,fun _=>rfl,trivial⟩,fun _=>rfl,trivial⟩
   ·refine ⟨by ((try simp only [nc] at *);omega),fun j hj=>?_⟩
    rcases Nat.lt_or_ge j a with h1 | h1
    ·exact hp j h1
    ·obtain rfl:j=a:=by omega
     rw [e];assumption
   ·push_cast;rfl
  ·refine ⟨4,fun _=>e,by decide,?_⟩
   cbv
   rw [e] at hB1a
   repeat' (first
    |(refine hI (a+1) ?_ ?_ ?_;rotate_left 1;(· ((try simp only [nc] at *);omega));(cbv;clear hI;(try clear hF);(try simp only [nc] at *);(try simp (disch:=(first|omega|(simp only [lnS];omega))) only [rdT,rdS,anT]));rotate_left 1;(try ((try simp only [nc] at *);omega)))
    |((first|refine E.c (SCalls.of_le (f4) ?_ ?_)|refine E.q (QCalls.of_le (f4) ?_ ?_));(· (cbv;(try simp only [nc] at *);first|done|(simp;done)|(simp (disch:=(first|omega|(simp only [lnS];omega))) only [rdT,rdS,anT];first|done|omega|(refine ⟨?_,?_⟩<;>omega))|(simp (disch:=(first|omega|(simp only [lnS];omega))) [rdT,rdS];done)));cbv)
    |(refine ⟨fun _ h_s=>?_,fun _ h_s=>?_⟩<;>(cbv;(try simp only [nc] at *);try simp (disch:=(first|omega|(simp only [lnS];omega))) only [rdT,rdS,reduceCtorEq,trT] at h_s))
    |(refine hF ?_;intro _;clear hF)
    |(refine hF ?_;cbv;clear hF)
    |(refine ⟨fun _=>?_,?_⟩;(· ((try simp only [nc] at *);first|done|omega|exact ⟨by omega,rfl⟩|(simp (disch:=(first|omega|(simp only [lnS];omega))) only [rdT,rdS];first|done|omega|rfl|exact ⟨by omega,rfl⟩|(simp;done)|(simp;omega))|(intros;trivial)));(try (simp only [nc] at *));(try simp (disch:=(first|omega|(simp only [lnS];omega))) only [rdT,rdS]);(try cbv))
    | fail
   )
   ·rw [hB1a h_s hp]
    exact ⟨⟨fun _=>e,fun _=>rfl,fun _=>rfl,trivial⟩,fun _=>rfl,trivial⟩
   ·refine ⟨by ((try simp only [nc] at *);omega),fun j hj=>?_⟩
    rcases Nat.lt_or_ge j a with h1 | h1
    ·exact hp j h1
    ·obtain rfl:j=a:=by omega
     rw [e];assumption
   ·push_cast;rfl
  ·refine ⟨5,fun _=>e,by decide,?_⟩
   cbv
   rw [e] at hB1a
   repeat' (first
    |(refine hI (a+1) ?_ ?_ ?_;rotate_left 1;(· ((try simp only [nc] at *);omega));(cbv;clear hI;(try clear hF);(try simp only [nc] at *);(try simp (disch:=(first|omega|(simp only [lnS];omega))) only [rdT,rdS,anT]));rotate_left 1;(try ((try simp only [nc] at *);omega)))
    |((first|refine E.c (SCalls.of_le (f5) ?_ ?_)|refine E.q (QCalls.of_le (f5) ?_ ?_));(· (cbv;(try simp only [nc] at *);first|done|(simp;done)|(simp (disch:=(first|omega|(simp only [lnS];omega))) only [rdT,rdS,anT];first|done|omega|(refine ⟨?_,?_⟩<;>omega))|(simp (disch:=(first|omega|(simp only [lnS];omega))) [rdT,rdS];done)));cbv)
    |(refine ⟨fun _ h_s=>?_,fun _ h_s=>?_⟩<;>(cbv;(try simp only [nc] at *);try simp (disch:=(first|omega|(simp only [lnS];omega))) only [rdT,rdS,reduceCtorEq,trT] at h_s))
    |(refine hF ?_;intro _;clear hF)
    |(refine hF ?_;cbv;clear hF)
    |(refine ⟨fun _=>?_,?_⟩;(· ((try simp only [nc] at *);first|done|omega|exact ⟨by omega,rfl⟩|(simp (disch:=(first|omega|(simp only [lnS];omega))) only [rdT,rdS];first|done|omega|rfl|exact ⟨by omega,rfl⟩|(simp;done)|(simp;omega))|(intros;trivial)));(try (simp only [nc] at *));(try simp (disch:=(first|omega|(simp only [lnS];omega))) only [rdT,rdS]);(try cbv))
    | fail
   )
   ·rw [hB1a h_s hp]
    exact ⟨⟨fun _=>e,fun _=>rfl,fun _=>rfl,trivial⟩,fun _=>rfl,trivial⟩
   ·refine ⟨by ((try simp only [nc] at *);omega),fun j hj=>?_⟩
    rcases Nat.lt_or_ge j a with h1 | h1
    ·exact hp j h1
    ·obtain rfl:j=a:=by omega
     rw [e];assumption
   ·push_cast;rfl
  ·refine ⟨6,fun _=>e,by decide,?_⟩
   cbv
   rw [e] at hB1a
   repeat' (first
    |(refine hI (a+1) ?_ ?_ ?_;rotate_left 1;(· ((try simp only [nc] at *);omega));(cbv;clear hI;(try clear hF);(try simp only [nc] at *);(try simp (disch:=(first|omega|(simp only [lnS];omega))) only [rdT,rdS,anT]));rotate_left 1;(try ((try simp only [nc] at *);omega)))
    |((first|refine E.c (SCalls.of_le (f6) ?_ ?_)|refine E.q (QCalls.of_le (f6) ?_ ?_));(· (cbv;(try simp only [nc] at *);first|done|(simp;done)|(simp (disch:=(first|omega|(simp only [lnS];omega))) only [rdT,rdS,anT];first|done|omega|(refine ⟨?_,?_⟩<;>omega))|(simp (disch:=(first|omega|(simp only [lnS];omega))) [rdT,rdS];done)));cbv)
    |(refine ⟨fun _ h_s=>?_,fun _ h_s=>?_⟩<;>(cbv;(try simp only [nc] at *);try simp (disch:=(first|omega|(simp only [lnS];omega))) only [rdT,rdS,reduceCtorEq,trT] at h_s))
    |(refine hF ?_;intro _;clear hF)
    |(refine hF ?_;cbv;clear hF)
    |(refine ⟨fun _=>?_,?_⟩;(· ((try simp only [nc] at *);first|done|omega|exact ⟨by omega,rfl⟩|(simp (disch:=(first|omega|(simp only [lnS];omega))) only [rdT,rdS];first|done|omega|rfl|exact ⟨by omega,rfl⟩|(simp;done)|(simp;omega))|(intros;trivial)));(try (simp only [nc] at *));(try simp (disch:=(first|omega|(simp only [lnS];omega))) only [rdT,rdS]);(try cbv))
    | fail
   )
   ·rw [hB1a h_s hp]
    exact ⟨⟨fun _=>e,fun _=>rfl,fun _=>rfl,trivial⟩,fun _=>rfl,trivial⟩
   ·refine ⟨by ((try simp only [nc] at *);omega),fun j hj=>?_⟩
    rcases Nat.lt_or_ge j a with h1 | h1
    ·exact hp j h1
    ·obtain rfl:j=a:=by omega
     rw [e];assumption
   ·push_cast;rfl
 ·have e:a=l.length:=by ((try simp only [nc] at *);omega)
  subst e
  rw [hB0 hp]
  simp
theorem mcheck_ok (m:Int) (g:Gr) (b:Bk) (kw:Pure Try.prog γ false 18 [.i fun _=>m,aGr g] (aBk b)):Pure Try.prog γ false 12 [.i fun _=>m,aGr g] (.tup [.b fun _=>decide (m=1∨m=2) && !b.br,.i fun _=>if m=1∨m=2 then 0 else 2]):=by
 have kn:=known_ok (γ:=γ) m
 by_cases hm:m=1∨m=2
 ·rw [decide_eq_true hm] at kn ⊢
  rw [if_pos hm]
  refine Pure.go (ty:=ty) ty_eq mo Try.func12 rfl Try.ntmps12 Try.results12 Try.call12 (by simp) fun P C CQ D W F E hF=>?_
  cbv
  repeat' (first
   |(refine E.c (SCalls.of_le (kw) ?_ ?_);(· (cbv;(try simp only [nc] at *);first|done|(simp;done)|(simp (disch:=(first|omega|(simp only [lnS];omega))) only [rdT,rdS,anT];first|done|omega|(refine ⟨?_,?_⟩<;>omega))|(simp (disch:=(first|omega|(simp only [lnS];omega))) [rdT,rdS];done)));cbv)
   |(refine E.c (SCalls.of_le (kn) ?_ ?_);(· (cbv;(try simp only [nc] at *);first|done|(simp;done)|(simp (disch:=(first|omega|(simp only [lnS];omega))) only [rdT,rdS,anT];first|done|omega|(refine ⟨?_,?_⟩<;>omega))|(simp (disch:=(first|omega|(simp only [lnS];omega))) [rdT,rdS];done)));cbv)
   |(refine ⟨fun _ h_s=>?_,fun _ h_s=>?_⟩<;>(cbv;(try simp only [nc] at *);try simp (disch:=(first|omega|(simp only [lnS];omega))) only [rdT,rdS,reduceCtorEq,trT] at h_s))
   |(refine hF ?_;intro _;clear hF)
   |(refine hF ?_;cbv;clear hF)
   |(refine ⟨fun _=>?_,?_⟩;(· ((try simp only [nc] at *);first|done|omega|exact ⟨by omega,rfl⟩|(simp (disch:=(first|omega|(simp only [lnS];omega))) only [rdT,rdS];first|done|omega|rfl|exact ⟨by omega,rfl⟩|(simp;done)|(simp;omega))|(intros;trivial)));(try (simp only [nc] at *));(try simp (disch:=(first|omega|(simp only [lnS];omega))) only [rdT,rdS]);(try cbv))
   | fail
  )
 ·rw [decide_eq_false hm] at kn ⊢
  rw [if_neg hm]
  refine Pure.go (ty:=ty) ty_eq mo Try.func12 rfl Try.ntmps12 Try.results12 Try.call12 (by simp) fun P C CQ D W F E hF=>?_
  cbv
  repeat' (first
   |(refine E.c (SCalls.of_le (kn) ?_ ?_);(· (cbv;(try simp only [nc] at *);first|done|(simp;done)|(simp (disch:=(first|omega|(simp only [lnS];omega))) only [rdT,rdS,anT];first|done|omega|(refine ⟨?_,?_⟩<;>omega))|(simp (disch:=(first|omega|(simp only [lnS];omega))) [rdT,rdS];done)));cbv)
   |(refine ⟨fun _ h_s=>?_,fun _ h_s=>?_⟩<;>(cbv;(try simp only [nc] at *);try simp (disch:=(first|omega|(simp only [lnS];omega))) only [rdT,rdS,reduceCtorEq,trT] at h_s))
   |(refine hF ?_;intro _;clear hF)
   |(refine hF ?_;cbv;clear hF)
   |(refine ⟨fun _=>?_,?_⟩;(· ((try simp only [nc] at *);first|done|omega|exact ⟨by omega,rfl⟩|(simp (disch:=(first|omega|(simp only [lnS];omega))) only [rdT,rdS];first|done|omega|rfl|exact ⟨by omega,rfl⟩|(simp;done)|(simp;omega))|(intros;trivial)));(try (simp only [nc] at *));(try simp (disch:=(first|omega|(simp only [lnS];omega))) only [rdT,rdS]);(try cbv))
   | fail
  )
end Go.AL.Rl
namespace Go.AL.Rl
open Go Go.AL Go.Proofs
set_option maxRecDepth 100000
set_option maxHeartbeats 1600000
section
variable {g h:Gr} (W:Wk g h)
include W
end
noncomputable def allHold (g:Gr) (l:List Int):Bool:=l.all fun k=>!(fltM (viewG g) (nG g) k).br
section
variable {γ:Nat→Option AV}
theorem find_all (g:Gr) (l:List Int):allHold g l=(l.find? fun k=>(fltM (viewG g) (nG g) k).br).isNone:=by
 unfold allHold
 rw [Bool.eq_iff_iff,List.all_eq_true,Option.isNone_iff_eq_none,List.find?_eq_none]
 simp
theorem mcheck1 (g:Gr) (hR:Rd g) (hg:GOk g):Pure Try.prog γ false 12 [.i fun _=>1,aGr g] (.tup [.b fun _=>allHold g [1,2,6],.i fun _=>0]):=by
 have c1:=mcheck_ok (γ:=γ) 1 g _ (why_yes (γ:=γ) 1 [1,2,6] g (.inl rfl) (by simp) (by decide) rules_yes1 hR hg)
 rw [if_pos (.inl rfl),decide_eq_true (.inl rfl),Bool.true_and] at c1
 rw [find_all]
 cases hf:[1,2,6].find? fun k=>(fltM (viewG g) (nG g) k).br with
 | none=>rw [hf] at c1;exact c1
 | some k=>rw [hf] at c1;exact c1
theorem mcheck2 (g:Gr) (hR:Rd g) (hg:GOk g):Pure Try.prog γ false 12 [.i fun _=>2,aGr g] (.tup [.b fun _=>allHold g [1,2,3,4,5],.i fun _=>0]):=by
 have c1:=mcheck_ok (γ:=γ) 2 g _ (why_yes (γ:=γ) 2 [1,2,3,4,5] g (.inr rfl) (by simp) (by decide) rules_yes2 hR hg)
 rw [if_pos (.inr rfl),decide_eq_true (.inr rfl),Bool.true_and] at c1
 rw [find_all]
 cases hf:[1,2,3,4,5].find? fun k=>(fltM (viewG g) (nG g) k).br with
 | none=>rw [hf] at c1;exact c1
 | some k=>rw [hf] at c1;exact c1
end
end Go.AL.Rl
namespace Go.AL.Rl
open Go Go.AL Go.Proofs
set_option maxRecDepth 100000
set_option maxHeartbeats 1600000
variable {γ:Nat→Option AV}
structure Ak where
 kind:Int
 loc:Int
 order:Int
 a:Int
 b:Int
abbrev aAsk (a:Ak):AV:=.agg [.i fun _=>a.kind,.i fun _=>a.loc,.i fun _=>a.order,.i fun _=>a.a,.i fun _=>a.b]
def add64 (x y:Int):Int:=(x+y).bmod 18446744073709551616
def ansM (a:Ak) (v:Int):Ev:=
 if a.kind=2 then ⟨1,a.loc,a.order,v,0⟩
 else if a.kind=4 then (if v=a.a then ⟨3,a.loc,a.order,v,a.b⟩ else ⟨1,a.loc,a.order,v,0⟩)
 else if a.kind=5 then ⟨3,a.loc,a.order,v,add64 v a.a⟩
 else if a.kind=6 then ⟨3,a.loc,a.order,v,a.a⟩
 else ev0
def ansE (a:Ak):Int:=if a.kind=2∨a.kind=4∨a.kind=5∨a.kind=6 then 0 else 2
theorem ianswer_ok (a:Ak) (v:Int):Pure Try.prog γ false 26 [aAsk a,.i fun _=>v] (.tup [aEv (ansM a v),.i fun _=>ansE a]):=by
 unfold ansM ansE
 refine Pure.go (ty:=ty) ty_eq mo Try.func26 rfl Try.ntmps26 Try.results26 Try.call26 (by simp) fun P C CQ D W F E hF=>?_
 cbv
 repeat' (first
  |(refine ⟨fun _ h_s=>?_,fun _ h_s=>?_⟩<;>(cbv;(try simp only [nc] at *);try simp (disch:=(first|omega|(simp only [lnS];omega))) only [rdT,rdS,reduceCtorEq,trT] at h_s))
  |(refine hF ?_;intro _;clear hF)
  |(refine hF ?_;cbv;clear hF)
  |(refine ⟨fun _=>?_,?_⟩;(· ((try simp only [nc] at *);first|done|omega|exact ⟨by omega,rfl⟩|(simp (disch:=(first|omega|(simp only [lnS];omega))) only [rdT,rdS];first|done|omega|rfl|exact ⟨by omega,rfl⟩|(simp;done)|(simp;omega))|(intros;trivial)));(try (simp only [nc] at *));(try simp (disch:=(first|omega|(simp only [lnS];omega))) only [rdT,rdS]);(try cbv))
  | fail
 )
 all_goals simp [*,add64]
theorem r11answer_ok (a:Ak) (v:Int):Pure Try.prog γ false 24 [aAsk a,.i fun _=>v] (.tup [aEv (ansM a v),.i fun _=>ansE a]):=by
 unfold ansM ansE
 refine Pure.go (ty:=ty) ty_eq mo Try.func24 rfl Try.ntmps24 Try.results24 Try.call24 (by simp) fun P C CQ D W F E hF=>?_
 cbv
 repeat' (first
  |(refine ⟨fun _ h_s=>?_,fun _ h_s=>?_⟩<;>(cbv;(try simp only [nc] at *);try simp (disch:=(first|omega|(simp only [lnS];omega))) only [rdT,rdS,reduceCtorEq,trT] at h_s))
  |(refine hF ?_;intro _;clear hF)
  |(refine hF ?_;cbv;clear hF)
  |(refine ⟨fun _=>?_,?_⟩;(· ((try simp only [nc] at *);first|done|omega|exact ⟨by omega,rfl⟩|(simp (disch:=(first|omega|(simp only [lnS];omega))) only [rdT,rdS];first|done|omega|rfl|exact ⟨by omega,rfl⟩|(simp;done)|(simp;omega))|(intros;trivial)));(try (simp only [nc] at *));(try simp (disch:=(first|omega|(simp only [lnS];omega))) only [rdT,rdS]);(try cbv))
  | fail
 )
 all_goals simp [*,add64]
theorem r13answer_ok (a:Ak) (v:Int):Pure Try.prog γ false 14 [aAsk a,.i fun _=>v] (.tup [aEv (ansM a v),.i fun _=>ansE a]):=by
 have k:=r11answer_ok (γ:=γ) a v
 generalize ansM a v=e at *
 generalize ansE a=c at *
 refine Pure.go (ty:=ty) ty_eq mo Try.func14 rfl Try.ntmps14 Try.results14 Try.call14 (by simp) fun P C CQ D W F E hF=>?_
 cbv
 repeat' (first
  |(refine E.c (SCalls.of_le (k) ?_ ?_);(· (cbv;(try simp only [nc] at *);first|done|(simp;done)|(simp (disch:=(first|omega|(simp only [lnS];omega))) only [rdT,rdS,anT];first|done|omega|(refine ⟨?_,?_⟩<;>omega))|(simp (disch:=(first|omega|(simp only [lnS];omega))) [rdT,rdS];done)));cbv)
  |(refine ⟨fun _ h_s=>?_,fun _ h_s=>?_⟩<;>(cbv;(try simp only [nc] at *);try simp (disch:=(first|omega|(simp only [lnS];omega))) only [rdT,rdS,reduceCtorEq,trT] at h_s))
  |(refine hF ?_;intro _;clear hF)
  |(refine hF ?_;cbv;clear hF)
  |(refine ⟨fun _=>?_,?_⟩;(· ((try simp only [nc] at *);first|done|omega|exact ⟨by omega,rfl⟩|(simp (disch:=(first|omega|(simp only [lnS];omega))) only [rdT,rdS];first|done|omega|rfl|exact ⟨by omega,rfl⟩|(simp;done)|(simp;omega))|(intros;trivial)));(try (simp only [nc] at *));(try simp (disch:=(first|omega|(simp only [lnS];omega))) only [rdT,rdS]);(try cbv))
  | fail
 )
 all_goals simp
end Go.AL.Rl
namespace Go.AL.Rl
open Go Go.AL Go.Proofs
set_option maxRecDepth 100000
set_option maxHeartbeats 3200000
variable {γ:Nat→Option AV}
def wrsM (g:Gr) (x:Int):List EId:=if 0≤x∧x<g.init.length then ⟨0,x⟩ :: g.ord.getD x.toNat [] else []
theorem ord_le {g:Gr} (h:GOk g) (x:Nat):(g.ord.getD x []).length≤56:=by
 rcases Nat.lt_or_ge x g.init.length with h1 | h1
 ·have h2:=((ordered_iff g x).1 (h.orders x h1)).2.2
  have h3:=cntT_le (x:Int) h.short.ths
  have:=h.short.th
  omega
 ·have:g.ord.getD x []=[]:=by
   rw [List.getD_eq_getElem?_getD,List.getElem?_eq_none (by have:=h.lord;omega)];rfl
  rw [this];simp
theorem idsFlat (l:List EId):∀ v∈(ids l).l,v.flat=true:=by
 intro v hv
 simp only [ids,LV.l_of,List.mem_map] at hv
 obtain ⟨x,_,rfl⟩:=hv
 rfl
theorem rWrites_ok (g:Gr) (hg:Rd g) (h:GOk g) (x:Int):Pure Try.prog γ false 13 [aGr g,.i fun _=>x] (.vs 2 fun _=>ids (wrsM g x)):=by
 have kc:=check14_ok (γ:=γ) g hg
 rw [gcheck0 h] at kc
 have hlo:=h.lord
 have hin:=h.short.init
 by_cases hx:0≤x∧x<g.init.length
 ·have hol:=ord_le h x.toNat
  unfold wrsM
  rw [if_pos hx]
  refine Pure.goO (ty:=ty) ty_eq mo Try.func13 rfl Try.ntmps13 Try.results13 Try.call13 (by simp) fun P C CQ D W F E RO hF=>?_
  refine E.cut 3 (told 28 [(1,.i fun _=>x),(2,.ptr 0 0)] [.box (aGr g)]) (by kernel_rfl) (Nat.zero_le _) (fun I hI=>?_) ?_
  ·cbv
   repeat' (first
    |(refine E.c (SCalls.of_le (kc) ?_ ?_);(· (cbv;(try simp only [nc] at *);first|done|(simp;done)|(simp (disch:=(first|omega|(simp only [lnS];omega))) only [rdT,rdS,anT];first|done|omega|(refine ⟨?_,?_⟩<;>omega))|(simp (disch:=(first|omega|(simp only [lnS];omega))) [rdT,rdS];done)));cbv)
    |(refine ⟨fun _ h_s=>?_,fun _ h_s=>?_⟩<;>(cbv;(try simp only [nc] at *);try simp (disch:=(first|omega|(simp only [lnS];omega))) only [rdT,rdS,reduceCtorEq,trT] at h_s))
    |(refine hF ?_;intro _;clear hF)
    |(refine hF ?_;cbv;clear hF)
    |(refine ⟨fun _=>?_,?_⟩;(· ((try simp only [nc] at *);first|done|omega|exact ⟨by omega,rfl⟩|(simp (disch:=(first|omega|(simp only [lnS];omega))) only [rdT,rdS];first|done|omega|rfl|exact ⟨by omega,rfl⟩|(simp;done)|(simp;omega))|(intros;trivial)));(try (simp only [nc] at *));(try simp (disch:=(first|omega|(simp only [lnS];omega))) only [rdT,rdS]);(try cbv))
    | fail
   )
   ·exact absurd h_s (by simp)
   ·exfalso;((try simp only [nc] at *);omega)
   ·exfalso;((try simp only [nc] at *);omega)
   ·refine hI ?_
    cbv;simp
  refine RO [21] ?_
  cbv
  skip
  skip
  repeat' (first
   |(refine ⟨fun _ h_s=>?_,fun _ h_s=>?_⟩<;>(cbv;(try simp only [nc] at *);try simp (disch:=(first|omega|(simp only [lnS];omega))) only [rdT,rdS,reduceCtorEq,trT] at h_s))
   |(refine hF ?_;intro _;clear hF)
   |(refine hF ?_;cbv;clear hF)
   |(refine ⟨fun _=>?_,?_⟩;(· ((try simp only [nc] at *);first|done|omega|exact ⟨by omega,rfl⟩|(simp (disch:=(first|omega|(simp only [lnS];omega))) only [rdT,rdS];first|done|omega|rfl|exact ⟨by omega,rfl⟩|(simp;done)|(simp;omega))|(intros;trivial)|(intro v hv;simp [setAll,AV.nrm,nrms,nrm1] at hv;subst hv;rfl)|exact ⟨by first|trivial|rfl,by first|trivial|rfl,by first|trivial|(simp [setAll];done),by first|omega|(simp [setAll];omega),by first|omega|(simp [setAll];omega),idsFlat _⟩));(try (simp only [nc] at *));(try simp (disch:=(first|omega|(simp only [lnS];omega))) only [rdT,rdS]);(try cbv))
   | fail
  )
  intro _
  refine ⟨rfl,by simp [setAll];omega,?_⟩
  rw [List.drop_zero,List.take_of_length_le (by simp [setAll];omega)]
  simp [ids,setAll,AV.nrm,nrms,nrm1]
  try rfl
 ·unfold wrsM
  rw [if_neg hx]
  refine Pure.go (ty:=ty) ty_eq mo Try.func13 rfl Try.ntmps13 Try.results13 Try.call13 (by simp) fun P C CQ D W F E hF=>?_
  cbv
  repeat' (first
   |(refine E.c (SCalls.of_le (kc) ?_ ?_);(· (cbv;(try simp only [nc] at *);first|done|(simp;done)|(simp (disch:=(first|omega|(simp only [lnS];omega))) only [rdT,rdS,anT];first|done|omega|(refine ⟨?_,?_⟩<;>omega))|(simp (disch:=(first|omega|(simp only [lnS];omega))) [rdT,rdS];done)));cbv)
   |(refine ⟨fun _ h_s=>?_,fun _ h_s=>?_⟩<;>(cbv;(try simp only [nc] at *);try simp (disch:=(first|omega|(simp only [lnS];omega))) only [rdT,rdS,reduceCtorEq,trT] at h_s))
   |(refine hF ?_;intro _;clear hF)
   |(refine hF ?_;cbv;clear hF)
   |(refine ⟨fun _=>?_,?_⟩;(· ((try simp only [nc] at *);first|done|omega|exact ⟨by omega,rfl⟩|(simp (disch:=(first|omega|(simp only [lnS];omega))) only [rdT,rdS];first|done|omega|rfl|exact ⟨by omega,rfl⟩|(simp;done)|(simp;omega))|(intros;trivial)|(intro v hv;simp [setAll,AV.nrm,nrms,nrm1] at hv;subst hv;rfl)|exact ⟨by first|trivial|rfl,by first|trivial|rfl,by first|trivial|(simp [setAll];done),by first|omega|(simp [setAll];omega),by first|omega|(simp [setAll];omega),idsFlat _⟩));(try (simp only [nc] at *));(try simp (disch:=(first|omega|(simp only [lnS];omega))) only [rdT,rdS]);(try cbv))
   | fail
  )
  all_goals first
   | (exfalso;((try simp only [nc] at *);omega))
   | rfl
end Go.AL.Rl
namespace Go.AL.Rl
open Go Go.AL Go.Proofs
set_option maxRecDepth 100000
set_option maxHeartbeats 1600000
variable {γ:Nat→Option AV}
noncomputable def okM (m:Int) (g:Gr):Bool:=decide (m=1∨m=2) && (decide (GOk g) && allHold g (rulesM m))
def okE (m:Int):Int:=if m=1∨m=2 then 0 else 2
theorem okM_yes {m:Int} {g:Gr} (hm:m=1∨m=2) (hg:GOk g):okM m g=allHold g (rulesM m):=by
 unfold okM;rw [decide_eq_true hm,decide_eq_true hg];simp
theorem okM_no {m:Int} {g:Gr} (hg:¬ GOk g):okM m g=false:=by
 unfold okM;rw [decide_eq_false hg];simp
theorem okM_bad {m:Int} {g:Gr} (hm:¬ (m=1∨m=2)):okM m g=false:=by
 unfold okM;rw [decide_eq_false hm];simp
theorem mcheckA (m:Int) (g:Gr) (hR:Rd g):Pure Try.prog γ false 12 [.i fun _=>m,aGr g] (.tup [.b fun _=>okM m g,.i fun _=>okE m]):=by
 by_cases hm:m=1∨m=2
 ·by_cases hg:GOk g
  ·rw [okM_yes hm hg]
   unfold okE
   rw [if_pos hm]
   rcases hm with rfl | rfl
   ·exact mcheck1 g hR hg
   ·exact mcheck2 g hR hg
  ·have k:=mcheck_ok (γ:=γ) m g _ (why_no (γ:=γ) m g hm hR hg)
   rw [okM_no hg]
   simpa [okE] using k
 ·have k:=mcheck_ok (γ:=γ) m g _ (why_bad (γ:=γ) m g (by omega))
  rw [okM_bad hm]
  simpa [okE,hm] using k
theorem aE_wf (g:Gr) (thread:Int) (e:Ev) (d:EId) (p:Int) (h:addE g thread e d p=0):GOk g∧1≤thread∧thread≤(g.th.length:Nat)∧addC g (thread-1).toNat e d p∧(g.th.getD (thread-1).toNat []).length≠14∧addR g thread e d p=addG g (thread-1).toNat e d p:=by
 have h0:=h
 unfold addE at h
 split at h
 ·rename_i hg
  split at h
  ·rename_i ht
   split at h
   ·cases h
   ·rename_i hl
    split at h
    ·rename_i hc
     exact ⟨hg,ht.1,ht.2,hc,hl,by unfold addR;rw [if_pos h0]⟩
    ·cases h
  ·cases h
 ·cases h
noncomputable def plcB (m:Int) (g:Gr) (t:Int) (e:Ev) (d:EId) (p:Int):Bool:=decide (addE g t e d p=0) && okM m (addR g t e d p)
def plLo (e:Ev):Int:=if writesM e=true then 1 else 0
def plN (g:Gr) (e:Ev):Nat:=if writesM e=true then (wrsM g e.loc).length else 1
noncomputable def plcTo (m:Int) (g:Gr) (t:Int) (e:Ev) (d:EId):Nat→List Int
 | 0=>[]
 | k+1=>plcTo m g t e d k++if plcB m g t e d (plLo e+k)=true then [plLo e+k] else []
noncomputable def plsM (m:Int) (g:Gr) (t:Int) (e:Ev) (d:EId):List Int:=plcTo m g t e d (plN g e)
def mayTo (g:Gr) (t:Int) (e:Ev) (d:EId):Nat→Bool
 | 0=>false
 | k+1=>mayTo g t e d k || decide (addE g t e d (plLo e+k)=0)
def mayM (g:Gr) (t:Int) (e:Ev) (d:EId):Bool:=mayTo g t e d (plN g e)
theorem plcTo_len (m:Int) (g:Gr) (t:Int) (e:Ev) (d:EId) (k:Nat):(plcTo m g t e d k).length≤k:=by
 induction k with
 | zero=>simp [plcTo]
 | succ k ih=>
  unfold plcTo
  rw [List.length_append]
  split<;>simp<;>omega
theorem wrs_len {g:Gr} (h:GOk g) (x:Int):(wrsM g x).length≤57:=by
 unfold wrsM
 split
 ·have:=ord56 h x.toNat
  rw [List.length_cons];omega
 ·simp
theorem plN_le {g:Gr} (h:GOk g) (e:Ev):plN g e≤57:=by
 unfold plN
 split
 ·exact wrs_len h _
 ·omega
theorem rd_addR {g:Gr} (hg:GOk g) (t:Int) (e:Ev) (d:EId) (p:Int):Rd (addR g t e d p):=by
 unfold addR
 split
 ·exact rd_add hg _ e d p
 ·exact ⟨by simp,by simp,by simp,by simp,by simp,by simp,by simp⟩
theorem wrs_at {g:Gr} (hg:GOk g) {x:Int} (hx:0≤x∧x<(g.init.length:Nat)) {i:Nat} (hi:i<(wrsM g x).length) :
  (((wrsM g x).getD i id0).t=0∧((eventM g ((wrsM g x).getD i id0)).getD ev0).wr=g.init.getD x.toNat 0) ∨
  ∃ s j:Nat,(wrsM g x).getD i id0=⟨(s:Int)+1,(j:Int)⟩∧s<g.th.length∧j<(g.th.getD s []).length∧((eventM g ((wrsM g x).getD i id0)).getD ev0).wr=((g.th.getD s []).getD j ev0).wr:=by
 have e:wrsM g x=⟨0,x⟩ :: g.ord.getD x.toNat []:=by unfold wrsM;rw [if_pos hx]
 rw [e] at hi ⊢
 cases i with
 | zero=>
  left
  refine ⟨rfl,?_⟩
  show ((eventM g ⟨0,x⟩).getD ev0).wr=_
  unfold eventM
  rw [if_pos rfl,if_pos hx]
  rfl
 | succ i=>
  right
  have hl:i<(g.ord.getD x.toNat []).length:=by simpa using hi
  have hd:(({ t:=0,i:=x }:EId) :: g.ord.getD x.toNat []).getD (i+1) id0=(g.ord.getD x.toNat []).getD i id0:=by simp
  rw [hd]
  have hw:=((ordered_iff g x.toNat).1 (hg.orders x.toNat (by omega))).2.1 _ (getD_mem (d:=id0) hl)
  generalize (g.ord.getD x.toNat []).getD i id0=d at *
  unfold isW at hw
  cases hE:eventM g d with
  | none=>rw [hE] at hw;cases hw
  | some ev=>
   rw [hE] at hw
   simp only [Bool.and_eq_true,decide_eq_true_eq] at hw
   unfold eventM at hE
   rw [if_neg hw.1.1] at hE
   split at hE
   ·rename_i h
    refine ⟨(d.t-1).toNat,d.i.toNat,?_,by omega,by omega,?_⟩
    ·cases d;simp only at h ⊢;congr 1<;>omega
    ·cases hE;rfl
   ·cases hE
end Go.AL.Rl
namespace Go.AL.Rl
open Go Go.AL Go.Proofs
set_option maxRecDepth 100000
set_option maxHeartbeats 1600000
theorem ins_perm {α:Type} (l:List α) (a:α) (k:Nat):(l.take k++[a]++l.drop k).Perm (a :: l):=by
 have h:(l.take k++a :: l.drop k).Perm (a :: (l.take k++l.drop k)):=List.perm_middle
 rw [List.take_append_drop] at h
 simpa using h
theorem aE_of {g:Gr} {t:Int} {e:Ev} {d:EId} {p:Int} (h1:GOk g) (h2:1≤t) (h3:t≤(g.th.length:Nat)) (h4:addC g (t-1).toNat e d p) (h5:(g.th.getD (t-1).toNat []).length≠14):addE g t e d p=0:=by
 unfold addE
 rw [if_pos h1,if_pos ⟨h2,h3⟩,if_neg h5,if_pos h4]
theorem may_iff (g:Gr) (t:Int) (e:Ev) (d:EId) (n:Nat):mayTo g t e d n=true↔∃ k<n,addE g t e d (plLo e+k)=0:=by
 induction n with
 | zero=>simp [mayTo]
 | succ n ih=>
  unfold mayTo
  rw [Bool.or_eq_true,ih,decide_eq_true_iff]
  constructor
  ·rintro (⟨k,h1,h2⟩ | h)
   ·exact ⟨k,by omega,h2⟩
   ·exact ⟨n,by omega,h⟩
  ·rintro ⟨k,h1,h2⟩
   rcases Nat.lt_or_ge k n with h | h
   ·exact .inl ⟨k,h,h2⟩
   ·obtain rfl:k=n:=by omega
    exact .inr h2
end Go.AL.Rl
namespace Go.AL.Rl
open Go Go.AL Go.Proofs
set_option maxRecDepth 100000
set_option maxHeartbeats 1600000
structure Sink (V U:Vw) (n m:Nat) (f:Nat→Nat) (N:Nat):Prop where
 co:∀ b<m,coM U N b=false
 fr:∀ b<m,frM U N b=false
 pl:∀ i<n,U.pl.getD (f i) 0=V.pl.getD i 0
 upd:(U.ev.getD N ev0).kind=3→U.pl.getD N 0=U.pl.getD (U.fr.getD N 0).toNat 0+1
section
variable {V U:Vw} {n m:Nat} {f:Nat→Nat} {N:Nat} (E:Emb V U n m f) (Y:Tail V U n m f N) (Z:Sink V U n m f N) (hV:Wf V n) (hU:Wf U m)
include E Y
theorem t_frM (hV:Wf V n) {i j:Nat} (hi:i<n) (hj:j<n) (h:frM U (f i) (f j)=true):frM V i j=true:=by
 unfold frM at *
 simp only [Bool.and_eq_true,decide_eq_true_eq] at *
 obtain ⟨⟨h1,h2⟩,h3⟩:=h
 obtain ⟨k,hk,e1,e2⟩:=t_fr E Y hi hV (k:=(U.fr.getD (f i) 0).toNat) (by omega)
 rw [e1,t_co E Y hk hj] at h3
 refine ⟨⟨fun h=>h1 (by rw [h]),by omega⟩,?_⟩
 rw [e2]
 simpa using h3
theorem t_orP {lU lV:List RelV} (fV:Fits n (orM n lV)) (h1:∀ r∈lU,∀ a b,bit r.2 a b=true→∃ i<n,a=f i)
  (h2:∀ r∈lU,∀ i<n,∀ j<n,bit r.2 (f i) (f j)=true→∃ s∈lV,bit s.2 i j=true) {i j:Nat} (hi:i<n) (hj:j<n) (h:bit (plusM m (orM m lU)) (f i) (f j)=true):bit (plusM n (orM n lV)) i j=true:=by
 have _hY:=Y
 have key:bit (plusM m (orM m lU)) (f i) (f j)=true→∀ j'<n,f j=f j'→∃ i'<n,f i=f i'∧bit (plusM n (orM n lV)) i' j'=true:=fun h=>
  plus_least (fun a b=>∀ j'<n,b=f j'→∃ i'<n,a=f i'∧bit (plusM n (orM n lV)) i' j'=true) (fun a b hab j' hj' e=>by
   subst e
   obtain ⟨_,r,hr,hb⟩:=(bit_orM _ _).1 hab
   obtain ⟨i',hi',rfl⟩:=h1 r hr _ _ hb
   obtain ⟨s,hs,hb2⟩:=h2 r hr i' hi' j' hj' hb
   exact ⟨i',hi',rfl,plus_edge ((bit_orM _ _).2 ⟨hi',s,hs,hb2⟩)⟩) (fun a k b h1 h2 j' hj' e=>by
   obtain ⟨k',hk',e1,q1⟩:=h2 j' hj' e
   obtain ⟨i',hi',e2,q2⟩:=h1 k' hk' e1
   exact ⟨i',hi',e2,plus_trans fV q2 q1⟩) h
 obtain ⟨i',hi',e1,e2⟩:=key h j hj rfl
 rw [E.inj i hi i' hi' e1]
 exact e2
theorem t_sinkP {lU:List RelV} (h1:∀ r∈lU,∀ a b,bit r.2 a b=true→∃ i<n,a=f i) {a b:Nat} (h:bit (plusM m (orM m lU)) a b=true):∃ i<n,a=f i:=by
 have _hE:=E
 have _hY:=Y
 exact plus_least (fun a _=>∃ i<n,a=f i) (fun a b hab=>by
  obtain ⟨_,r,hr,hb⟩:=(bit_orM _ _).1 hab
  exact h1 r hr _ _ hb) (fun a k b h1 _=>h1) h
theorem t_circ {lU lV:List RelV} (fV:Fits n (orM n lV)) (h1:∀ r∈lU,∀ a b,bit r.2 a b=true→∃ i<n,a=f i)
  (h2:∀ r∈lU,∀ i<n,∀ j<n,bit r.2 (f i) (f j)=true→∃ s∈lV,bit s.2 i j=true) (h:(circF (plusM m (orM m lU))).br=true):(circF (plusM n (orM n lV))).br=true:=by
 obtain ⟨i,_,hb⟩:=circ_br.1 h
 obtain ⟨i',hi',rfl⟩:=t_sinkP E Y h1 hb
 have h3:=t_orP E Y fV h1 h2 hi' hi' hb
 refine circ_br.2 ⟨i',?_,h3⟩
 rcases Nat.lt_or_ge i' (plusM n (orM n lV)).length with h4 | h4
 ·exact h4
 ·rw [bit_out h4] at h3;cases h3
include Z hV hU
theorem s_po (a b:Nat) (h:bit (poF U m) a b=true):∃ i<n,a=f i:=by
 have _h:=And.intro E (And.intro Z hV)
 unfold poF at h
 rw [bit_relI hU.small] at h
 rcases Y.cov a h.1 with h1 | h1
 ·exact h1
 ·subst h1;rw [Y.po b h.2.1] at h;cases h.2.2
theorem s_rf (a b:Nat) (h:bit (rfF U m) a b=true):∃ i<n,a=f i:=by
 have _h:=And.intro E (And.intro Z hV)
 unfold rfF at h
 rw [bit_relI hU.small] at h
 rcases Y.cov a h.1 with h1 | h1
 ·exact h1
 ·subst h1
  have h2:=h.2.2
  unfold rfM at h2
  rw [decide_eq_true_eq] at h2
  exact absurd h2 (Y.rf b h.2.1)
theorem s_co (a b:Nat) (h:bit (coF U m) a b=true):∃ i<n,a=f i:=by
 have _h:=And.intro E (And.intro Z hV)
 unfold coF at h
 rw [bit_relI hU.small] at h
 rcases Y.cov a h.1 with h1 | h1
 ·exact h1
 ·subst h1;rw [Z.co b h.2.1] at h;cases h.2.2
theorem s_fr (a b:Nat) (h:bit (frF U m) a b=true):∃ i<n,a=f i:=by
 have _h:=And.intro E (And.intro Z hV)
 unfold frF at h
 rw [bit_relI hU.small] at h
 rcases Y.cov a h.1 with h1 | h1
 ·exact h1
 ·subst h1;rw [Z.fr b h.2.1] at h;cases h.2.2
theorem b_po (i j:Nat) (hi:i<n) (hj:j<n) (h:bit (poF U m) (f i) (f j)=true):bit (poF V n) i j=true:=by
 have _h:=And.intro E (And.intro Z Y)
 unfold poF at *
 rw [bit_relI hU.small] at h
 rw [bit_relI hV.small]
 exact ⟨hi,hj,by rw [←e_po E hi hj];exact h.2.2⟩
theorem b_rf (i j:Nat) (hi:i<n) (hj:j<n) (h:bit (rfF U m) (f i) (f j)=true):bit (rfF V n) i j=true:=by
 have _h:=And.intro E (And.intro Z Y)
 unfold rfF at *
 rw [bit_relI hU.small] at h
 rw [bit_relI hV.small]
 exact ⟨hi,hj,by rw [←t_rf E Y hi hj hV];exact h.2.2⟩
theorem b_co (i j:Nat) (hi:i<n) (hj:j<n) (h:bit (coF U m) (f i) (f j)=true):bit (coF V n) i j=true:=by
 have _h:=And.intro E (And.intro Z Y)
 unfold coF at *
 rw [bit_relI hU.small] at h
 rw [bit_relI hV.small]
 exact ⟨hi,hj,by rw [←t_co E Y hi hj];exact h.2.2⟩
theorem b_fr (i j:Nat) (hi:i<n) (hj:j<n) (h:bit (frF U m) (f i) (f j)=true):bit (frF V n) i j=true:=by
 have _h:=And.intro E (And.intro Z Y)
 unfold frF at *
 rw [bit_relI hU.small] at h
 rw [bit_relI hV.small]
 exact ⟨hi,hj,t_frM E Y hV hi hj h.2.2⟩
theorem flt_sink (k:Int) (h:(fltM U m k).br=true):(fltM V n k).br=true:=by
 have fpo:=fits_poF V hV.small
 have frf:=fits_rfF V hV.small
 have fco:=fits_coF V hV.small
 have ffr:=fits_frF V hV.small
 have hm2:n<64:=by have:=hV.small;omega
 have hbs:∀ a b,bit (swF U m) a b=true→∃ i<n,a=f i:=fun a b h=>by
  have ha:a<m:=((sw_iffE hU.small).1 h).1
  rcases Y.cov a ha with h1 | h1
  ·exact h1
  ·subst h1;exact (t_swN E Y hV hU h).elim
 unfold fltM at *
 split at h
 ·rename_i e
  rw [if_pos e]
  obtain ⟨a,ha,hb⟩:=upd_br.1 h
  unfold updB at hb
  rw [Bool.and_eq_true,decide_eq_true_eq,decide_eq_true_eq] at hb
  rcases Y.cov a ha with ⟨i,hi,rfl⟩ | h1
  ·refine upd_br.2 ⟨i,hi,?_⟩
   unfold updB
   rw [Bool.and_eq_true,decide_eq_true_eq,decide_eq_true_eq]
   refine ⟨by rw [←E.ev i hi];exact hb.1,fun h2=>hb.2 ?_⟩
   have hr:readsM (V.ev.getD i ev0)=true:=by unfold readsM;rw [←E.ev i hi,hb.1];rfl
   have h0:=hV.frg i hi hr
   have hl:=hV.frl i hi
   have e1:=E.fr i hi (V.fr.getD i 0).toNat (by omega) (by omega)
   rw [e1]
   have e3:((f (V.fr.getD i 0).toNat:Nat):Int).toNat=f (V.fr.getD i 0).toNat:=by omega
   rw [e3,Z.pl i hi,Z.pl _ (by omega)]
   exact h2
  ·subst h1
   exact absurd (Z.upd hb.1) hb.2
 ·rename_i e1
  rw [if_neg e1]
  split at h
  ·rename_i e;rw [if_pos e]
   refine t_circ E Y (fits_or2 fpo frf) ?_ ?_ h
   ·intro r hr a b hab
    simp only [List.mem_cons,List.not_mem_nil,or_false] at hr
    rcases hr with rfl | rfl
    ·exact s_po E Y Z hV hU a b hab
    ·exact s_rf E Y Z hV hU a b hab
   ·intro r hr i hi j hj hab
    simp only [List.mem_cons,List.not_mem_nil,or_false] at hr
    rcases hr with rfl | rfl
    ·exact ⟨((n:Int),poF V n),by simp,b_po E Y Z hV hU i j hi hj hab⟩
    ·exact ⟨((n:Int),rfF V n),by simp,b_rf E Y Z hV hU i j hi hj hab⟩
  ·rename_i e2
   rw [if_neg e2]
   have hbU:∀ r∈[((m:Int),poF U m),((m:Int),swF U m)],∀ a b,bit r.2 a b=true→∃ i<n,a=f i:=fun r hr a b hab=>by
    simp only [List.mem_cons,List.not_mem_nil,or_false] at hr
    rcases hr with rfl | rfl
    ·exact s_po E Y Z hV hU a b hab
    ·exact hbs a b hab
   have hbV:∀ r∈[((m:Int),poF U m),((m:Int),swF U m)],∀ i<n,∀ j<n,bit r.2 (f i) (f j)=true→∃ s∈[((n:Int),poF V n),((n:Int),swF V n)],bit s.2 i j=true:=fun r hr i hi j hj hab=>by
    simp only [List.mem_cons,List.not_mem_nil,or_false] at hr
    rcases hr with rfl | rfl
    ·exact ⟨((n:Int),poF V n),by simp,b_po E Y Z hV hU i j hi hj hab⟩
    ·exact ⟨((n:Int),swF V n),by simp,t_sw E Y hV hU hi hj hab⟩
   split at h
   ·rename_i e;rw [if_pos e]
    exact t_circ E Y (fits_or2 fpo (fits_swF V hV.small)) hbU hbV h
   ·rename_i e3
    rw [if_neg e3]
    split at h
    ·rename_i e
     rw [if_pos e]
     obtain ⟨a,ha,b,hb,hc⟩:=coh_br.1 h
     unfold cohB at hc
     simp only [Bool.and_eq_true,decide_eq_true_eq] at hc
     obtain ⟨⟨hab,hc1⟩,hc2⟩:=hc
     obtain ⟨i,hi,rfl⟩:=t_sinkP E Y hbU hc1
     have ecU:∀ r∈[((m:Int),rfF U m),((m:Int),coF U m),((m:Int),frF U m)],∀ a b,bit r.2 a b=true→∃ i<n,a=f i:=fun r hr a b hab=>by
      simp only [List.mem_cons,List.not_mem_nil,or_false] at hr
      rcases hr with rfl | rfl | rfl
      ·exact s_rf E Y Z hV hU a b hab
      ·exact s_co E Y Z hV hU a b hab
      ·exact s_fr E Y Z hV hU a b hab
     obtain ⟨j,hj,rfl⟩:=t_sinkP E Y ecU hc2
     have z1:bit (hbF V n) i j=true:=t_orP E Y (fits_or2 fpo (fits_swF V hV.small)) hbU hbV hi hj hc1
     have z2:bit (ecoF V n) j i=true:=t_orP E Y (fits_orP V hV.small) ecU (fun r hr i hi j hj hab=>by
      simp only [List.mem_cons,List.not_mem_nil,or_false] at hr
      rcases hr with rfl | rfl | rfl
      ·exact ⟨((n:Int),rfF V n),by simp,b_rf E Y Z hV hU i j hi hj hab⟩
      ·exact ⟨((n:Int),coF V n),by simp,b_co E Y Z hV hU i j hi hj hab⟩
      ·exact ⟨((n:Int),frF V n),by simp,b_fr E Y Z hV hU i j hi hj hab⟩) hj hi hc2
     refine coh_br.2 ⟨i,(fits_bits (hb_fits V hV.small) z1).1,j,(fits_bits (eco_fits V hV.small) z2).1,?_⟩
     unfold cohB
     simp only [Bool.and_eq_true,decide_eq_true_eq]
     exact ⟨⟨fun e=>hab (by rw [e]),z1⟩,z2⟩
    ·rename_i e4
     rw [if_neg e4]
     split at h
     ·rename_i e;rw [if_pos e]
      refine t_circ E Y (fits_tog (m:=n) (U:=V) hV) ?_ ?_ h
      ·intro r hr a b hab
       simp only [List.mem_cons,List.not_mem_nil,or_false] at hr
       rcases hr with rfl | rfl | rfl | rfl
       ·exact s_po E Y Z hV hU a b hab
       ·exact s_rf E Y Z hV hU a b hab
       ·exact s_co E Y Z hV hU a b hab
       ·exact s_fr E Y Z hV hU a b hab
      ·intro r hr i hi j hj hab
       simp only [List.mem_cons,List.not_mem_nil,or_false] at hr
       rcases hr with rfl | rfl | rfl | rfl
       ·exact ⟨((n:Int),poF V n),by simp,b_po E Y Z hV hU i j hi hj hab⟩
       ·exact ⟨((n:Int),rfF V n),by simp,b_rf E Y Z hV hU i j hi hj hab⟩
       ·exact ⟨((n:Int),coF V n),by simp,b_co E Y Z hV hU i j hi hj hab⟩
       ·exact ⟨((n:Int),frF V n),by simp,b_fr E Y Z hV hU i j hi hj hab⟩
     ·cases h
end
end Go.AL.Rl
namespace Go.AL.Rl
open Go Go.AL Go.Proofs
set_option maxRecDepth 100000
set_option maxHeartbeats 1600000
theorem cntT_set (x:Int) (ts:List (List Ev)) (t:Nat) (l:List Ev) (ht:t<ts.length):cntT x (ts.set t l)+cntE x (ts.getD t [])=cntT x ts+cntE x l:=by
 have e:ts=ts.take t++ts.getD t [] :: ts.drop (t+1):=by
  rw [gD' ht];simp
 rw [List.set_eq_take_append_cons_drop,if_pos ht]
 unfold cntT
 conv=>rhs;rw [e]
 simp only [List.map_append,List.map_cons,List.sum_append,List.sum_cons]
 omega
theorem new_event {g:Gr} {t:Nat} {e:Ev} {d:EId} {p:Int} (ht:t<g.th.length):eventM (addG g t e d p) (newD g t)=some e:=by
 have hT:evT (addG g t e d p) (newD g t):=new_evT ht
 rw [event_T hT]
 have e1:((newD g t).t-1).toNat=t:=by simp only;omega
 have e2:(newD g t).i.toNat=(g.th.getD t []).length:=by simp only;omega
 rw [e1,e2,add_th ht,if_pos rfl,List.getD_eq_getElem?_getD,List.getElem?_append_right (Nat.le_refl _)]
 simp
theorem add_ordW {g:Gr} {t:Nat} {e:Ev} {d:EId} {p:Int} (hw:writesM e=true) (hx:e.loc.toNat<g.ord.length) (x:Nat):(addG g t e d p).ord.getD x []=if x=e.loc.toNat then addO g t e p else g.ord.getD x []:=by
 show (if writesM e=true then g.ord.set e.loc.toNat (addO g t e p) else g.ord).getD x []=_
 rw [if_pos hw,getD_set' _ _ _ _ _ hx]
theorem add_ordN {g:Gr} {t:Nat} {e:Ev} {d:EId} {p:Int} (hw:¬ writesM e=true):(addG g t e d p).ord=g.ord:=if_neg hw
theorem add_gok {g:Gr} {t:Nat} {e:Ev} {d:EId} {p:Int} (hg:GOk g) (ht:t<g.th.length) (hl:(g.th.getD t []).length≠14) (hf:fineM g.init.length e=true)
  (hs:if readsM e=true then d∈idsG g∧writesM ((eventM g d).getD ev0)=true∧((eventM g d).getD ev0).loc=e.loc∧((eventM g d).getD ev0).wr=e.rd else d=id0):GOk (addG g t e d p):=by
 have hS:=hg.short
 have hat:=hS.at t
 have hlo:=hg.lord
 have hlf:=hg.lfr
 have hnl:=add_thl (g:=g) (t:=t) (e:=e) (d:=d) (p:=p)
 have hfr:∀ s,(addG g t e d p).fr.getD s []=if s=t then g.fr.getD t []++[d] else g.fr.getD s []:=fun s=>getD_set' _ _ _ _ _ (by omega)
 have hft:=(hg.events t ht).1
 have hisW:∀ x y,isW g x y=true→isW (addG g t e d p) x y=true:=fun x y h=>by
  obtain ⟨ev,h1,h2,h3,h4⟩:=isW_event h
  have hy:y∈idsG g:=idsG_mem.2 (by rw [h1];rfl)
  exact isW_of (by rw [add_event ht hy];exact h1) h2 h3 x h4
 refine ⟨⟨by rw [hnl];exact hS.th,hS.init,fun l hm=>?_⟩,?_,?_,fun s hs'=>?_,fun s hs' i hi=>?_,fun x hx=>?_⟩
 ·rcases List.mem_or_eq_of_mem_set hm with hm | rfl
  ·exact hS.ths l hm
  ·rw [List.length_append];simp only [List.length_cons,List.length_nil];omega
 ·rw [hnl,add_frl];exact hlf
 ·show (if writesM e=true then g.ord.set e.loc.toNat (addO g t e p) else g.ord).length=_
  split
  ·rw [List.length_set];exact hlo
  ·exact hlo
 ·rw [hnl] at hs'
  rw [hfr,add_th ht]
  obtain ⟨h1,h2⟩:=hg.events s hs'
  by_cases e1:s=t
  ·subst e1
   rw [if_pos rfl,if_pos rfl,List.length_append,List.length_append,h1]
   refine ⟨rfl,fun i hi=>?_⟩
   rcases Nat.lt_or_ge i (g.th.getD s []).length with h3 | h3
   ·rw [getD_app1 _ _ _ h3];exact h2 i h3
   ·have:i=(g.th.getD s []).length:=by simp only [List.length_cons,List.length_nil] at hi;omega
    subst this
    rw [List.getD_eq_getElem?_getD,List.getElem?_append_right (Nat.le_refl _),Nat.sub_self]
    exact hf
  ·rw [if_neg e1,if_neg e1];exact ⟨h1,h2⟩
 ·rw [hnl] at hs'
  rw [add_th ht] at hi
  have old:∀ i,i<(g.th.getD s []).length→sourceM (addG g t e d p) ⟨s+1,i⟩ ((g.fr.getD s []).getD i id0)=true:=fun i hi=>by
   have h1:=hg.sources s hs' i hi
   have hxT:evT g ⟨s+1,i⟩:=evT_mk.2 ⟨hs',hi⟩
   have hx:(⟨s+1,i⟩:EId)∈idsG g:=idsG_mem.2 (by rw [event_T hxT];rfl)
   unfold sourceM at h1 ⊢
   rw [add_event ht hx]
   split
   ·rename_i hr
    rw [if_pos hr] at h1
    have hy:(g.fr.getD s []).getD i id0∈idsG g:=idsG_mem.2 (by
     cases hE:eventM g ((g.fr.getD s []).getD i id0) with
     | none=>rw [hE] at h1;cases h1
     | some w=>rfl)
    rw [add_event ht hy]
    exact h1
   ·rename_i hr
    rw [if_neg hr] at h1
    exact h1
  rw [hfr]
  by_cases e1:s=t
  ·subst e1
   rw [if_pos rfl] at hi ⊢
   rcases Nat.lt_or_ge i (g.th.getD s []).length with h3 | h3
   ·rw [getD_app1 _ _ _ (by omega)];exact old i h3
   ·have hi2:i=(g.th.getD s []).length:=by rw [List.length_append] at hi;simp only [List.length_cons,List.length_nil] at hi;omega
    subst hi2
    have e2:(g.fr.getD s []++[d]).getD (g.th.getD s []).length id0=d:=by
     rw [←hft,List.getD_eq_getElem?_getD,List.getElem?_append_right (Nat.le_refl _),Nat.sub_self];rfl
    rw [e2]
    have e3:=new_event (e:=e) (d:=d) (p:=p) ht
    unfold sourceM
    rw [show (⟨(s:Int)+1,((g.th.getD s []).length:Nat)⟩:EId)=newD g s from rfl,e3,Option.getD_some]
    split
    ·rename_i hr
     rw [if_pos hr] at hs
     obtain ⟨q1,q2,q3,q4⟩:=hs
     rw [add_event ht q1]
     cases hE:eventM g d with
     | none=>rw [idsG_mem,hE] at q1;cases q1
     | some w=>
      rw [hE,Option.getD_some] at q2 q3 q4
      have hne:d≠newD g s:=fun h=>new_not ht (h ▸ q1)
      simp [hne,q2,q3,q4]
    ·rename_i hr
     rw [if_neg hr] at hs
     simp [hs]
  ·rw [if_neg e1] at hi ⊢
   exact old i hi
 ·have hx:x<g.init.length:=hx
  obtain ⟨h1,h2,h3⟩:=(ordered_iff g x).1 (hg.orders x hx)
  rw [ordered_iff]
  have hc:=cntT_set (x:Int) g.th t (g.th.getD t []++[e]) ht
  have hce:cntE (x:Int) (g.th.getD t []++[e])=cntE (x:Int) (g.th.getD t [])+if (writesM e && decide (e.loc=(x:Int)))=true then 1 else 0:=by
   unfold cntE
   rw [List.countP_append];simp [List.countP_cons]
  have hth:(addG g t e d p).th=g.th.set t (g.th.getD t []++[e]):=rfl
  rw [hth]
  by_cases hw:writesM e=true
  ·obtain ⟨y,hy,hy2⟩:=fine_nat hf hw
   rw [add_ordW hw (by omega)]
   by_cases e1:x=e.loc.toNat
   ·rw [if_pos e1]
    have hperm:(addO g t e p).Perm (newD g t :: g.ord.getD x []):=by rw [e1];exact ins_perm _ _ _
    have hnew:newD g t∉g.ord.getD x []:=fun h=>by
     obtain ⟨ev,q1,_⟩:=isW_event (h2 _ h)
     exact new_not ht (idsG_mem.2 (by rw [q1];rfl))
    refine ⟨hperm.nodup_iff.2 (List.nodup_cons.2 ⟨hnew,h1⟩),fun y hy3=>?_,?_⟩
    ·rcases List.mem_cons.1 (hperm.mem_iff.1 hy3) with rfl | h4
     ·exact isW_of (new_event ht) (by simp only;omega) hw x (by omega)
     ·exact hisW _ _ (h2 y h4)
    ·rw [hperm.length_eq,List.length_cons,h3]
     rw [if_pos (by simp [hw];omega)] at hce
     omega
   ·rw [if_neg e1]
    rw [if_neg (by simp [hw];omega)] at hce
    exact ⟨h1,fun y hy3=>hisW _ _ (h2 y hy3),by rw [h3];omega⟩
  ·rw [add_ordN hw]
   rw [if_neg (by simp [hw])] at hce
   exact ⟨h1,fun y hy3=>hisW _ _ (h2 y hy3),by rw [h3];omega⟩
end Go.AL.Rl
namespace Go.AL.Rl
open Go Go.AL Go.Proofs
set_option maxRecDepth 100000
set_option maxHeartbeats 1600000
noncomputable def lastW (g:Gr) (x:Int):EId:=(wrsM g x).getD ((wrsM g x).length-1) id0
theorem pl_le {g:Gr} (x:EId):plOf g x≤((g.ord.getD ((eventM g x).getD ev0).loc.toNat []).length:Nat):=by
 by_cases h0:x.t=0
 ·unfold plOf;rw [if_pos h0];omega
 ·rcases Int.lt_or_le (plOf g x) 0 with h1 | h1
  ·omega
  ·obtain ⟨h2,h3⟩:=pl_in h0 h1
   have:=numOf_lt h2
   omega
theorem last_is {g:Gr} (hg:GOk g) {x:Int} (hx:0≤x∧x<(g.init.length:Nat)):lastW g x∈idsG g∧writesM ((eventM g (lastW g x)).getD ev0)=true∧((eventM g (lastW g x)).getD ev0).loc=x∧plOf g (lastW g x)=((g.ord.getD x.toNat []).length:Nat):=by
 have e:wrsM g x=⟨0,x⟩ :: g.ord.getD x.toNat []:=by unfold wrsM;rw [if_pos hx]
 obtain ⟨h1,h2,_⟩:=(ordered_iff g x.toNat).1 (hg.orders x.toNat (by omega))
 unfold lastW
 rw [e]
 generalize hL:g.ord.getD x.toNat []=L at *
 rcases List.eq_nil_or_concat L with rfl | ⟨L',d,rfl⟩
 ·have hd:([(⟨0,x⟩:EId)]).getD ([(⟨0,x⟩:EId)].length-1) id0=⟨0,x⟩:=rfl
  rw [hd]
  have hE:eventM g ⟨0,x⟩=some ⟨2,x,1,0,g.init.getD x.toNat 0⟩:=by
   unfold eventM
   rw [if_pos rfl,if_pos hx]
  rw [idsG_mem,hE]
  exact ⟨rfl,rfl,rfl,by unfold plOf;rw [if_pos rfl];rfl⟩
 ·have hd:((⟨0,x⟩:EId) :: L'.concat d).getD (((⟨0,x⟩:EId) :: L'.concat d).length-1) id0=d:=by
   simp
  rw [hd]
  have hm:d∈L'.concat d:=by simp
  have hw:=h2 d hm
  obtain ⟨ev,q1,q2,q3,q4⟩:=isW_event hw
  have hl:((eventM g d).getD ev0).loc.toNat=x.toNat:=by rw [q1,Option.getD_some,q4];omega
  refine ⟨idsG_mem.2 (by rw [q1];rfl),by rw [q1];exact q3,by rw [q1,Option.getD_some,q4];omega,?_⟩
  rw [pl_has q2 (by rw [hl,hL];exact hm),hl,hL]
  have h3:=numOf_at h1 (k:=L'.length) (by simp)
  have h4:(L'.concat d).getD L'.length id0=d:=by simp
  rw [h4] at h3
  rw [h3]
  simp
section
variable {g:Gr} {t:Nat} {e:Ev} {d:EId} {p:Int} (hg:GOk g) (ht:t<g.th.length) (hh:GOk (addG g t e d p)) (hf:fineM g.init.length e=true)
 (hp:writesM e=true→p=((g.ord.getD e.loc.toNat []).length:Nat)+1) (hd:readsM e=true→d=lastW g e.loc)
include hp in
theorem addO_end (hw:writesM e=true):addO g t e p=g.ord.getD e.loc.toNat []++[newD g t]:=by
 have:=hp hw
 unfold addO
 have e1:(p-1).toNat=(g.ord.getD e.loc.toNat []).length:=by omega
 rw [e1,List.take_length,List.drop_length,List.append_nil]
include hg ht hf hp in
theorem plO_old {x:EId} (hx:x∈idsG g):plOf (addG g t e d p) x=plOf g x:=by
 have key:∀ y,((addG g t e d p).ord.getD y []).findIdx? (fun z=>decide (z=x))=(g.ord.getD y []).findIdx? fun z=>decide (z=x):=fun y=>by
  by_cases hw:writesM e=true
  ·obtain ⟨z,hz,hz2⟩:=fine_nat hf hw
   have hlo:=hg.lord
   rw [add_ordW hw (by omega),addO_end hp hw]
   by_cases e1:y=e.loc.toNat
   ·rw [if_pos e1,e1,List.findIdx?_append]
    have hne:newD g t≠x:=fun h=>new_not ht (h ▸ hx)
    have:List.findIdx? (fun y=>decide (y=x)) [newD g t]=none:=by simp [hne]
    rw [this]
    cases List.findIdx? (fun y=>decide (y=x)) (g.ord.getD e.loc.toNat [])<;>rfl
   ·rw [if_neg e1]
  ·rw [add_ordN hw]
 unfold plOf
 by_cases h0:x.t=0
 ·rw [if_pos h0,if_pos h0]
 ·rw [if_neg h0,if_neg h0,add_event ht hx,key]
include hg ht hf hp in
theorem plO_new (hw:writesM e=true):plOf (addG g t e d p) (newD g t)=((g.ord.getD e.loc.toNat []).length:Nat)+1:=by
 obtain ⟨y,hy,hy2⟩:=fine_nat hf hw
 have hlo:=hg.lord
 have hE:eventM (addG g t e d p) (newD g t)=some e:=new_event ht
 have h0:(newD g t).t≠0:=by simp only;omega
 obtain ⟨h1,_,_⟩:=(ordered_iff g e.loc.toNat).1 (hg.orders e.loc.toNat (by omega))
 have hord:(addG g t e d p).ord.getD ((eventM (addG g t e d p) (newD g t)).getD ev0).loc.toNat []=g.ord.getD e.loc.toNat []++[newD g t]:=by
  rw [hE,Option.getD_some,add_ordW hw (by omega),if_pos rfl,addO_end hp hw]
 rw [pl_has h0 (by rw [hord];simp),hord]
 have hnew:newD g t∉g.ord.getD e.loc.toNat []:=fun h=>by
  obtain ⟨_,h2,_⟩:=(ordered_iff g e.loc.toNat).1 (hg.orders e.loc.toNat (by omega))
  obtain ⟨ev,q1,_⟩:=isW_event (h2 _ h)
  exact new_not ht (idsG_mem.2 (by rw [q1];rfl))
 have hn:(g.ord.getD e.loc.toNat []++[newD g t]).Nodup:=by
  rw [List.nodup_append]
  exact ⟨h1,by simp,fun a ha b hb=>by rw [List.mem_singleton.1 hb];exact fun h=>hnew (h ▸ ha)⟩
 have h3:=numOf_at hn (k:=(g.ord.getD e.loc.toNat []).length) (by simp)
 have h4:(g.ord.getD e.loc.toNat []++[newD g t]).getD (g.ord.getD e.loc.toNat []).length id0=newD g t:=by
  rw [List.getD_eq_getElem?_getD,List.getElem?_append_right (Nat.le_refl _),Nat.sub_self];rfl
 rw [h4] at h3
 rw [h3]
include hg ht hh hf hp hd in
theorem add_sink:Sink (viewG g) (viewG (addG g t e d p)) (nG g) (nG (addG g t e d p)) (addF g t e d p) (numOf (idsG (addG g t e d p)) (newD g t)):=by
 have E:=add_emb hg ht hh
 have hN:newD g t∈idsG (addG g t e d p):=idsG_mem.2 (by rw [event_T (new_evT ht)];rfl)
 have hNl:=numOf_lt hN
 have hsub:∀ x∈idsG g,x∈idsG (addG g t e d p):=fun x hx=>idsG_mem.2 (by rw [add_event ht hx];exact idsG_mem.1 hx)
 have hE:eventM (addG g t e d p) (newD g t)=some e:=new_event ht
 have hids:∀ a<nG (addG g t e d p),(idsG (addG g t e d p)).getD a id0∈idsG g∨(idsG (addG g t e d p)).getD a id0=newD g t:=fun a ha=>by
  have hm:=getD_mem (d:=id0) ha
  by_cases h0:((idsG (addG g t e d p)).getD a id0).t=0
  ·left
   rw [idsG_mem] at hm ⊢
   unfold eventM at hm ⊢
   rw [if_pos h0] at hm ⊢
   exact hm
  ·have hT:evT (addG g t e d p) ((idsG (addG g t e d p)).getD a id0):=by
    have h:=idsG_mem.1 hm
    unfold eventM at h
    rw [if_neg h0] at h
    split at h
    ·rename_i hc;exact ⟨by omega,hc.2.1,hc.2.2.1,hc.2.2.2⟩
    ·cases h
   rcases add_cases ht hT with h1 | h1
   ·exact .inl (idsG_mem.2 (by rw [event_T h1];rfl))
   ·exact .inr h1
 have hevN:(viewG (addG g t e d p)).ev.getD (numOf (idsG (addG g t e d p)) (newD g t)) ev0=e:=by
  have:=vev hh _ hNl
  rw [numOf_get hN,hE] at this
  exact (Option.some.inj this).symm
 -- where an elder event stands that is near the new one
 have hold:∀ b<nG (addG g t e d p),(idsG (addG g t e d p)).getD b id0∈idsG g→((viewG (addG g t e d p)).ev.getD b ev0).loc=e.loc→(viewG (addG g t e d p)).pl.getD b 0≤((g.ord.getD e.loc.toNat []).length:Nat):=fun b hb hx hl=>by
  rw [vpl hh b hb,plO_old hg ht hf hp hx]
  have h1:=pl_le (g:=g) ((idsG (addG g t e d p)).getD b id0)
  have h2:=vev hh b hb
  rw [add_event ht hx] at h2
  rw [h2,Option.getD_some,hl] at h1
  exact h1
 -- the source
 have hsrc:readsM e=true→∃ k,k<nG (addG g t e d p)∧(viewG (addG g t e d p)).fr.getD (numOf (idsG (addG g t e d p)) (newD g t)) 0=(k:Nat)∧(viewG (addG g t e d p)).pl.getD k 0=((g.ord.getD e.loc.toNat []).length:Nat)∧((viewG (addG g t e d p)).ev.getD k ev0).loc=e.loc:=fun hr=>by
  have hk4:fenceM e=false:=by
   unfold readsM at hr
   unfold fenceM
   simp only [Bool.or_eq_true,decide_eq_true_eq] at hr
   rw [decide_eq_false_iff_not]
   omega
  obtain ⟨q1,q2,q3,q4⟩:=last_is hg (fine_loc hf hk4)
  rw [←hd hr] at q1 q2 q3 q4
  have hs:srcOf (addG g t e d p) (newD g t)=d:=by
   have hlf:=hg.lfr
   have hft:=(hg.events t ht).1
   unfold srcOf
   have e1:((newD g t).t-1).toNat=t:=by simp only;omega
   have e2:(newD g t).i.toNat=(g.th.getD t []).length:=by simp only;omega
   have:(addG g t e d p).fr.getD t []=g.fr.getD t []++[d]:=by
    have:=getD_set' g.fr t t (g.fr.getD t []++[d]) [] (by omega)
    rw [if_pos rfl] at this
    exact this
   rw [e1,e2,this,←hft,List.getD_eq_getElem?_getD,List.getElem?_append_right (Nat.le_refl _),Nat.sub_self];rfl
  have hdm:=hsub d q1
  refine ⟨numOf (idsG (addG g t e d p)) d,numOf_lt hdm,?_,?_,?_⟩
  ·rw [vfr hh _ hNl,numOf_get hN]
   unfold frOf
   rw [if_neg (by simp only;omega),hE,Option.getD_some,if_pos hr,hs]
  ·rw [vpl hh _ (numOf_lt hdm),numOf_get hdm,plO_old hg ht hf hp q1,q4]
  ·have h2:=vev hh _ (numOf_lt hdm)
   rw [numOf_get hdm,add_event ht q1] at h2
   rw [h2,Option.getD_some] at q3
   exact q3
 refine ⟨fun b hb=>?_,fun b hb=>?_,fun i hi=>?_,fun hk=>?_⟩
 ·rw [Bool.eq_false_iff]
  intro h
  unfold coM at h
  simp only [Bool.and_eq_true,decide_eq_true_eq] at h
  obtain ⟨⟨h1,h2⟩,h3⟩:=h
  have hw:=(pl_iff hh _ hNl).1 h1
  rw [hevN] at hw
  have hpN:=plO_new (d:=d) hg ht hf hp hw
  rw [vpl hh _ hNl,numOf_get hN,hpN] at h3
  rcases hids b hb with h4 | h4
  ·unfold nearM at h2
   simp only [Bool.and_eq_true,decide_eq_true_eq] at h2
   rw [hevN] at h2
   have:=hold b hb h4 h2.2.symm
   omega
  ·rw [vpl hh b hb,h4,hpN] at h3
   omega
 ·rw [Bool.eq_false_iff]
  intro h
  unfold frM at h
  simp only [Bool.and_eq_true,decide_eq_true_eq] at h
  obtain ⟨⟨h1,h2⟩,h3⟩:=h
  have hr:=(fr_iff hh _ hNl).1 h2
  rw [hevN] at hr
  obtain ⟨k,hk,e1,e2,e3⟩:=hsrc hr
  rw [e1] at h3
  have e4:((k:Nat):Int).toNat=k:=by omega
  rw [e4] at h3
  unfold coM at h3
  simp only [Bool.and_eq_true,decide_eq_true_eq] at h3
  obtain ⟨⟨h4,h5⟩,h6⟩:=h3
  rcases hids b hb with h7 | h7
  ·unfold nearM at h5
   simp only [Bool.and_eq_true,decide_eq_true_eq] at h5
   rw [e3] at h5
   have:=hold b hb h7 h5.2.symm
   omega
  ·apply h1
   rw [←h7,numOf_at (idsG_nodup _) hb]
 ·have hx:=getD_mem (d:=id0) hi
  have hxl:=numOf_lt (hsub _ hx)
  rw [show addF g t e d p i=numOf (idsG (addG g t e d p)) ((idsG g).getD i id0) from rfl,vpl hh _ hxl,numOf_get (hsub _ hx),plO_old hg ht hf hp hx,vpl hg i hi]
 ·rw [hevN] at hk
  have hr:readsM e=true:=by unfold readsM;rw [hk];rfl
  have hw:writesM e=true:=by unfold writesM;rw [hk];rfl
  obtain ⟨k,hk2,e1,e2,e3⟩:=hsrc hr
  have e4:((k:Nat):Int).toNat=k:=by omega
  rw [e1,e4,e2,vpl hh _ hNl,numOf_get hN,plO_new hg ht hf hp hw]
include hg ht hh hf hp hd in
theorem add_okM {m:Int} (h:okM m g=true):okM m (addG g t e d p)=true:=by
 unfold okM at h ⊢
 rw [Bool.and_eq_true,Bool.and_eq_true] at h ⊢
 refine ⟨h.1,decide_eq_true hh,?_⟩
 have h2:=h.2.2
 unfold allHold at h2 ⊢
 rw [List.all_eq_true] at h2 ⊢
 intro k hk
 have h3:=h2 k hk
 cases hb:(fltM (viewG (addG g t e d p)) (nG (addG g t e d p)) k).br with
 | false=>rfl
 | true=>
  rw [flt_sink (add_emb hg ht hh) (add_tail hg ht hh) (add_sink hg ht hh hf hp hd) (viewG_wf hg) (viewG_wf hh) k hb] at h3
  cases h3
end
end Go.AL.Rl
namespace Go.AL.Rl
open Go Go.AL Go.Proofs
set_option maxRecDepth 100000
set_option maxHeartbeats 3200000
variable {γ:Nat→Option AV}
theorem gWrites_ok (g:Gr) (hg:Rd g) (h:GOk g) (x:Int):Pure Try.prog γ false 27 [aGr g,.i fun _=>x] (.vs 2 fun _=>ids (wrsM g x)):=by
 have kc:=gcheck_ok (γ:=γ) g hg
 rw [gcheck0 h] at kc
 have hlo:=h.lord
 have hin:=h.short.init
 by_cases hx:0≤x∧x<g.init.length
 ·have hol:=ord_le h x.toNat
  unfold wrsM
  rw [if_pos hx]
  refine Pure.goO (ty:=ty) ty_eq mo Try.func27 rfl Try.ntmps27 Try.results27 Try.call27 (by simp) fun P C CQ D W F E RO hF=>?_
  refine E.cut 3 (told 28 [(1,.i fun _=>x),(2,.ptr 0 0)] [.box (aGr g)]) (by kernel_rfl) (Nat.zero_le _) (fun I hI=>?_) ?_
  ·cbv
   repeat' (first
    |(refine E.c (SCalls.of_le (kc) ?_ ?_);(· (cbv;(try simp only [nc] at *);first|done|(simp;done)|(simp (disch:=(first|omega|(simp only [lnS];omega))) only [rdT,rdS,anT];first|done|omega|(refine ⟨?_,?_⟩<;>omega))|(simp (disch:=(first|omega|(simp only [lnS];omega))) [rdT,rdS];done)));cbv)
    |(refine ⟨fun _ h_s=>?_,fun _ h_s=>?_⟩<;>(cbv;(try simp only [nc] at *);try simp (disch:=(first|omega|(simp only [lnS];omega))) only [rdT,rdS,reduceCtorEq,trT] at h_s))
    |(refine hF ?_;intro _;clear hF)
    |(refine hF ?_;cbv;clear hF)
    |(refine ⟨fun _=>?_,?_⟩;(· ((try simp only [nc] at *);first|done|omega|exact ⟨by omega,rfl⟩|(simp (disch:=(first|omega|(simp only [lnS];omega))) only [rdT,rdS];first|done|omega|rfl|exact ⟨by omega,rfl⟩|(simp;done)|(simp;omega))|(intros;trivial)));(try (simp only [nc] at *));(try simp (disch:=(first|omega|(simp only [lnS];omega))) only [rdT,rdS]);(try cbv))
    | fail
   )
   ·exact absurd h_s (by simp)
   ·exfalso;((try simp only [nc] at *);omega)
   ·exfalso;((try simp only [nc] at *);omega)
   ·refine hI ?_
    cbv;simp
  refine RO [21] ?_
  cbv
  skip
  skip
  repeat' (first
   |(refine ⟨fun _ h_s=>?_,fun _ h_s=>?_⟩<;>(cbv;(try simp only [nc] at *);try simp (disch:=(first|omega|(simp only [lnS];omega))) only [rdT,rdS,reduceCtorEq,trT] at h_s))
   |(refine hF ?_;intro _;clear hF)
   |(refine hF ?_;cbv;clear hF)
   |(refine ⟨fun _=>?_,?_⟩;(· ((try simp only [nc] at *);first|done|omega|exact ⟨by omega,rfl⟩|(simp (disch:=(first|omega|(simp only [lnS];omega))) only [rdT,rdS];first|done|omega|rfl|exact ⟨by omega,rfl⟩|(simp;done)|(simp;omega))|(intros;trivial)|(intro v hv;simp [setAll,AV.nrm,nrms,nrm1] at hv;subst hv;rfl)|exact ⟨by first|trivial|rfl,by first|trivial|rfl,by first|trivial|(simp [setAll];done),by first|omega|(simp [setAll];omega),by first|omega|(simp [setAll];omega),idsFlat _⟩));(try (simp only [nc] at *));(try simp (disch:=(first|omega|(simp only [lnS];omega))) only [rdT,rdS]);(try cbv))
   | fail
  )
  intro _
  refine ⟨rfl,by simp [setAll];omega,?_⟩
  rw [List.drop_zero,List.take_of_length_le (by simp [setAll];omega)]
  simp [ids,setAll,AV.nrm,nrms,nrm1]
  try rfl
 ·unfold wrsM
  rw [if_neg hx]
  refine Pure.go (ty:=ty) ty_eq mo Try.func27 rfl Try.ntmps27 Try.results27 Try.call27 (by simp) fun P C CQ D W F E hF=>?_
  cbv
  repeat' (first
   |(refine E.c (SCalls.of_le (kc) ?_ ?_);(· (cbv;(try simp only [nc] at *);first|done|(simp;done)|(simp (disch:=(first|omega|(simp only [lnS];omega))) only [rdT,rdS,anT];first|done|omega|(refine ⟨?_,?_⟩<;>omega))|(simp (disch:=(first|omega|(simp only [lnS];omega))) [rdT,rdS];done)));cbv)
   |(refine ⟨fun _ h_s=>?_,fun _ h_s=>?_⟩<;>(cbv;(try simp only [nc] at *);try simp (disch:=(first|omega|(simp only [lnS];omega))) only [rdT,rdS,reduceCtorEq,trT] at h_s))
   |(refine hF ?_;intro _;clear hF)
   |(refine hF ?_;cbv;clear hF)
   |(refine ⟨fun _=>?_,?_⟩;(· ((try simp only [nc] at *);first|done|omega|exact ⟨by omega,rfl⟩|(simp (disch:=(first|omega|(simp only [lnS];omega))) only [rdT,rdS];first|done|omega|rfl|exact ⟨by omega,rfl⟩|(simp;done)|(simp;omega))|(intros;trivial)|(intro v hv;simp [setAll,AV.nrm,nrms,nrm1] at hv;subst hv;rfl)|exact ⟨by first|trivial|rfl,by first|trivial|rfl,by first|trivial|(simp [setAll];done),by first|omega|(simp [setAll];omega),by first|omega|(simp [setAll];omega),idsFlat _⟩));(try (simp only [nc] at *));(try simp (disch:=(first|omega|(simp only [lnS];omega))) only [rdT,rdS]);(try cbv))
   | fail
  )
  all_goals first
   | (exfalso;((try simp only [nc] at *);omega))
   | rfl
noncomputable def rdyM (m:Int) (g:Gr) (t:Int):Bool:=okM m g && (decide (1≤t) && decide (t≤(g.th.length:Nat)))
theorem ready_ok (m:Int) (g:Gr) (hR:Rd g) (t:Int):Pure Try.prog γ false 25 [.i fun _=>m,aGr g,.i fun _=>t] (.b fun _=>rdyM m g t):=by
 unfold rdyM
 have kc:=mcheckA (γ:=γ) m g hR
 have he:okM m g=true→okE m=0:=fun h=>by
  unfold okE
  by_cases hm:m=1∨m=2
  ·rw [if_pos hm]
  ·rw [okM_bad hm] at h;cases h
 generalize okM m g=b at *
 generalize okE m=c at *
 refine Pure.go (ty:=ty) ty_eq mo Try.func25 rfl Try.ntmps25 Try.results25 Try.call25 (by simp) fun P C CQ D W F E hF=>?_
 cbv
 repeat' (first
  |(refine E.c (SCalls.of_le (kc) ?_ ?_);(· (cbv;(try simp only [nc] at *);first|done|(simp;done)|(simp (disch:=(first|omega|(simp only [lnS];omega))) only [rdT,rdS,anT];first|done|omega|(refine ⟨?_,?_⟩<;>omega))|(simp (disch:=(first|omega|(simp only [lnS];omega))) [rdT,rdS];done)));cbv)
  |(refine ⟨fun _ h_s=>?_,fun _ h_s=>?_⟩<;>(cbv;(try simp only [nc] at *);try simp (disch:=(first|omega|(simp only [lnS];omega))) only [rdT,rdS,reduceCtorEq,trT] at h_s))
  |(refine hF ?_;intro _;clear hF)
  |(refine hF ?_;cbv;clear hF)
  |(refine ⟨fun _=>?_,?_⟩;(· ((try simp only [nc] at *);first|done|omega|exact ⟨by omega,rfl⟩|(simp (disch:=(first|omega|(simp only [lnS];omega))) only [rdT,rdS];first|done|omega|rfl|exact ⟨by omega,rfl⟩|(simp;done)|(simp;omega))|(intros;trivial)|(intro v hv;simp [setAll,AV.nrm,nrms,nrm1] at hv;subst hv;rfl)|exact ⟨by first|trivial|rfl,by first|trivial|rfl,by first|trivial|(simp [setAll];done),by first|omega|(simp [setAll];omega),by first|omega|(simp [setAll];omega),idsFlat _⟩));(try (simp only [nc] at *));(try simp (disch:=(first|omega|(simp only [lnS];omega))) only [rdT,rdS]);(try cbv))
  | fail
 )
 all_goals first
  | (simp_all;done)
  | (exfalso;have:=he (by assumption);contradiction)
  | (simp_all;omega)
theorem places_ok (m:Int) (g:Gr) (hg:GOk g) (t:Int) (e:Ev) (d:EId)
  (hA:∀ p,Pure Try.prog γ false 37 [aGr g,.i fun _=>t,aEv e,aId d,.i fun _=>p] (.tup [aGr (addR g t e d p),.i fun _=>addE g t e d p])) :
  Pure Try.prog γ false 28 [.i fun _=>m,aGr g,.i fun _=>t,aEv e,aId d] (.tup [.vs 1 fun _=>is (plsM m g t e d),.b fun _=>mayM g t e d]):=by
 have hR:=rd_short hg
 have kw:=gWrites_ok (γ:=γ) g hR hg e.loc
 have kc:=fun p=>mcheckA (γ:=γ) m (addR g t e d p) (rd_addR hg t e d p)
 have hN:=plN_le hg e
 obtain ⟨M,hM⟩:∃ M:Nat→List Int,∀ k,M k=plcTo m g t e d k:=⟨_,fun _=>rfl⟩
 obtain ⟨Y,hY⟩:∃ Y:Nat→Bool,∀ k,Y k=mayTo g t e d k:=⟨_,fun _=>rfl⟩
 have m0:M 0=[]:=by rw [hM];rfl
 have y0:Y 0=false:=by rw [hY];rfl
 have mS:∀ k:Nat,M (k+1)=M k++if (decide (addE g t e d (plLo e+k)=0) && okM m (addR g t e d (plLo e+k)))=true then [plLo e+k] else []:=fun k=>by rw [hM,hM];rfl
 have yS:∀ k:Nat,Y (k+1)=(Y k || decide (addE g t e d (plLo e+k)=0)):=fun k=>by rw [hY,hY];rfl
 have mL:∀ k,(M k).length≤k:=fun k=>by rw [hM];exact plcTo_len m g t e d k
 have mE:plsM m g t e d=M (plN g e):=(hM _).symm
 have yE:mayM g t e d=Y (plN g e):=(hY _).symm
 rw [mE,yE]
 clear hM hY mE yE
 obtain ⟨lo,hlo⟩:∃ lo,lo=plLo e:=⟨_,rfl⟩
 obtain ⟨N,hNe⟩:∃ N,N=plN g e:=⟨_,rfl⟩
 rw [←hlo] at mS yS
 rw [←hNe] at hN ⊢
 have hcase:(e.kind=2∨e.kind=3)∧lo=1∧(wrsM g e.loc).length=N∨¬ (e.kind=2∨e.kind=3)∧lo=0∧N=1:=by
  rw [hlo,hNe]
  unfold plLo plN writesM
  by_cases h:e.kind=2∨e.kind=3
  ·left;simp [h]
  ·right;simp [h]
 clear hlo hNe
 generalize okM m=ok at *
 generalize okE m=oe at *
 generalize wrsM g e.loc=wl at *
 obtain ⟨G,hG⟩:∃ G:List Int→Nat,∀ l,G l=l.length:=⟨_,fun _=>rfl⟩
 have hG0:G []=0:=by rw [hG];rfl
 generalize addR g t e d=AR at *
 generalize addE g t e d=AE at *
 refine Pure.goL (ty:=ty) ty_eq mo Try.func28 rfl Try.ntmps28 Try.results28 Try.call28 (by simp) fun P C CQ D W F E hF=>?_
 refine E.cut 4 (told 62 [(0,.i fun _=>m),(2,.i fun _=>t),(6,.ptr 0 0),(8,.ptr 1 0),(9,.ptr 2 0),(10,.nils),(11,.b fun _=>false),(12,.i fun _=>lo),(13,.i fun _=>lo+N-1)] [.box (aGr g),.box (aEv e),.box (aId d)]) (by kernel_rfl) (Nat.zero_le _) (fun I hI=>?_) (E.bl ?_)
 ·cbv
  repeat' (first
   |(refine E.c (SCalls.of_le (kw) ?_ ?_);(· (cbv;(try simp only [nc] at *);first|done|(simp;done)|(simp (disch:=(first|omega|(simp only [lnS];omega))) only [rdT,rdS,anT];first|done|omega|(refine ⟨?_,?_⟩<;>omega))|(simp (disch:=(first|omega|(simp only [lnS];omega))) [rdT,rdS];done)));cbv)
   |(refine ⟨fun _ h_s=>?_,fun _ h_s=>?_⟩<;>(cbv;(try simp only [nc] at *);try simp (disch:=(first|omega|(simp only [lnS];omega))) only [rdT,rdS,reduceCtorEq,trT] at h_s))
   |(refine hF ?_;intro _;clear hF)
   |(refine hF ?_;cbv;clear hF)
   |(refine ⟨fun _=>?_,?_⟩;(· ((try simp only [nc] at *);first|done|omega|exact ⟨by omega,rfl⟩|(simp (disch:=(first|omega|(simp only [lnS];omega))) only [rdT,rdS];first|done|omega|rfl|exact ⟨by omega,rfl⟩|(simp;done)|(simp;omega))|(intros;trivial)|(intro v hv;simp [setAll,AV.nrm,nrms,nrm1] at hv;subst hv;rfl)|exact ⟨by first|trivial|rfl,by first|trivial|rfl,by first|trivial|(simp [setAll];done),by first|omega|(simp [setAll];omega),by first|omega|(simp [setAll];omega),idsFlat _⟩));(try (simp only [nc] at *));(try simp (disch:=(first|omega|(simp only [lnS];omega))) only [rdT,rdS]);(try cbv))
   | fail
  )
  all_goals refine hI ?_
  all_goals cbv
  all_goals simp
  all_goals omega
 cbv
 repeat' (first
  |(refine ⟨fun _ h_s=>?_,fun _ h_s=>?_⟩<;>(cbv;(try simp only [nc] at *);try simp (disch:=(first|omega|(simp only [lnS];omega))) only [rdT,rdS,reduceCtorEq,trT] at h_s))
  |(refine hF ?_;intro _;clear hF)
  |(refine hF ?_;cbv;clear hF)
  |(refine ⟨fun _=>?_,?_⟩;(· ((try simp only [nc] at *);first|done|omega|exact ⟨by omega,rfl⟩|(simp (disch:=(first|omega|(simp only [lnS];omega))) only [rdT,rdS];first|done|omega|rfl|exact ⟨by omega,rfl⟩|(simp;done)|(simp;omega))|(intros;trivial)|(intro v hv;simp [setAll,AV.nrm,nrms,nrm1] at hv;subst hv;rfl)|exact ⟨by first|trivial|rfl,by first|trivial|rfl,by first|trivial|(simp [setAll];done),by first|omega|(simp [setAll];omega),by first|omega|(simp [setAll];omega),idsFlat _⟩));(try (simp only [nc] at *));(try simp (disch:=(first|omega|(simp only [lnS];omega))) only [rdT,rdS]);(try cbv))
  | fail
 )
 refine E.w (AWP.ghostSlot 10 1 rfl (by omega) (E.loopSA (ι:=Nat) (fun i=>i≤N) (fun i=>N-i) (fun i=>[(14,.i fun _=>lo+((i:Nat):Int)),(10,.sl 3 (G (M i)) 1 (fun _=>0) fun _=>(M i).length),(11,.b fun _=>Y i)]) (fun i h=>h.set 3 (.run (G (M i)) 1 fun _=>is (M i))) 0 (fun _=>by first | rfl | simp) (Nat.zero_le _) ?_ fun i hi I hI=>?_))
 ·cbv;simp [m0,y0,hG0,is,LV.of]
 cbv
 have hS:=mS i
 have hY:=yS i
 have hL:=mL i
 have ka:=hA (lo+i)
 have kk:=kc (lo+i)
 skip
 repeat' (first
  |(refine hI (i+1) ?_ ?_ ?_;rotate_left 1;(· ((try simp only [nc] at *);omega));(cbv;clear hI;(try clear hF);(try simp only [nc] at *);(try simp (disch:=(first|omega|(simp only [lnS];omega))) only [rdT,rdS,anT]));rotate_left 1;(try ((try simp only [nc] at *);omega)))
  |(refine E.c (SCalls.of_le (kk) ?_ ?_);(· (cbv;(try simp only [nc] at *);first|done|(simp;done)|(simp (disch:=(first|omega|(simp only [lnS];omega))) only [rdT,rdS,anT];first|done|omega|(refine ⟨?_,?_⟩<;>omega))|(simp (disch:=(first|omega|(simp only [lnS];omega))) [rdT,rdS];done)));cbv)
  |(refine E.c (SCalls.of_le (ka) ?_ ?_);(· (cbv;(try simp only [nc] at *);first|done|(simp;done)|(simp (disch:=(first|omega|(simp only [lnS];omega))) only [rdT,rdS,anT];first|done|omega|(refine ⟨?_,?_⟩<;>omega))|(simp (disch:=(first|omega|(simp only [lnS];omega))) [rdT,rdS];done)));cbv)
  |(refine ⟨fun _ h_s=>?_,fun _ h_s=>?_⟩<;>(cbv;(try simp only [nc] at *);try simp (disch:=(first|omega|(simp only [lnS];omega))) only [rdT,rdS,reduceCtorEq,trT] at h_s))
  |(refine hF ?_;intro _;clear hF)
  |(refine hF ?_;cbv;clear hF)
  |(refine ⟨fun _=>?_,?_⟩;(· ((try simp only [nc] at *);first|done|omega|exact ⟨by omega,rfl⟩|(simp (disch:=(first|omega|(simp only [lnS];omega))) only [rdT,rdS];first|done|omega|rfl|exact ⟨by omega,rfl⟩|(simp;done)|(simp;omega))|(intros;trivial)|(intro v hv;simp [setAll,AV.nrm,nrms,nrm1] at hv;subst hv;rfl)|exact ⟨by first|trivial|rfl,by first|trivial|rfl,by first|trivial|(simp [setAll];done),by first|omega|(simp [setAll];omega),by first|omega|(simp [setAll];omega),idsFlat _⟩|exact ⟨by first|trivial|rfl,by first|trivial|rfl|simp,by first|trivial|simp,by simp;omega,by simp;omega,by simp [AV.flat,AV.cells,AV.one]⟩));(try (simp only [nc] at *));(try simp (disch:=(first|omega|(simp only [lnS];omega))) only [rdT,rdS]);(try cbv))
  | fail
 )
 ·have h1:¬ AE (lo+i)=0:=by assumption
  rw [decide_eq_false h1] at hS hY
  simp at hS hY
  rw [hS,hY]
  exact ⟨⟨rfl,⟨rfl,rfl⟩,by push_cast;omega⟩,rfl,rfl⟩
 ·have h1:AE (lo+i)=0:=by assumption
  have h2:ok (AR (lo+i))=true:=by assumption
  rw [h1,h2] at hS
  rw [h1] at hY
  simp at hS hY
  rw [hS,hY]
  refine ⟨⟨rfl,⟨?_,?_⟩,by push_cast;omega⟩,?_,?_⟩<;>simp [hG,is,setAll,AV.nrm]
 ·have h1:AE (lo+i)=0:=by assumption
  have h2:ok (AR (lo+i))=false:=by assumption
  rw [h1,h2] at hS
  rw [h1] at hY
  simp at hS hY
  rw [hS,hY]
  exact ⟨⟨rfl,⟨rfl,rfl⟩,by push_cast;omega⟩,rfl,rfl⟩
 ·obtain rfl:i=N:=by ((try simp only [nc] at *);omega)
  refine ⟨fun _=>⟨rfl,by simp,?_⟩,fun _=>rfl,trivial⟩
  rw [List.drop_zero,List.take_of_length_le (by simp)]
theorem mplaces_ok (m:Int) (g:Gr) (hR:Rd g) (t:Int) (e:Ev) (d:EId)
  (hA:∀ p,Pure Try.prog γ false 37 [aGr g,.i fun _=>t,aEv e,aId d,.i fun _=>p] (.tup [aGr (addR g t e d p),.i fun _=>addE g t e d p])) :
  Pure Try.prog γ false 16 [.i fun _=>m,aGr g,.i fun _=>t,aEv e,aId d] (.tup [.vs 1 fun _=>is (if rdyM m g t=true∧mayM g t e d=true then plsM m g t e d else []),.i fun _=>if rdyM m g t=true∧mayM g t e d=true then 0 else 2]):=by
 have kr:=ready_ok (γ:=γ) m g hR t
 by_cases hr:rdyM m g t=true
 ·have hg:GOk g:=by
   by_cases h:GOk g
   ·exact h
   ·unfold rdyM at hr;rw [okM_no h] at hr;cases hr
  have kp:=places_ok (γ:=γ) m g hg t e d hA
  rw [hr] at kr ⊢
  generalize plsM m g t e d=PL at *
  by_cases hm:mayM g t e d=true
  ·rw [hm] at kp ⊢
   simp only [and_self,if_true]
   clear hA
   refine Pure.go (ty:=ty) ty_eq mo Try.func16 rfl Try.ntmps16 Try.results16 Try.call16 (by simp) fun P C CQ D W F E hF=>?_
   cbv
   repeat' (first
    |(refine E.c (SCalls.of_le (kp) ?_ ?_);(· (cbv;(try simp only [nc] at *);first|done|(simp;done)|(simp (disch:=(first|omega|(simp only [lnS];omega))) only [rdT,rdS,anT];first|done|omega|(refine ⟨?_,?_⟩<;>omega))|(simp (disch:=(first|omega|(simp only [lnS];omega))) [rdT,rdS];done)));cbv)
    |(refine E.c (SCalls.of_le (kr) ?_ ?_);(· (cbv;(try simp only [nc] at *);first|done|(simp;done)|(simp (disch:=(first|omega|(simp only [lnS];omega))) only [rdT,rdS,anT];first|done|omega|(refine ⟨?_,?_⟩<;>omega))|(simp (disch:=(first|omega|(simp only [lnS];omega))) [rdT,rdS];done)));cbv)
    |(refine ⟨fun _ h_s=>?_,fun _ h_s=>?_⟩<;>(cbv;(try simp only [nc] at *);try simp (disch:=(first|omega|(simp only [lnS];omega))) only [rdT,rdS,reduceCtorEq,trT] at h_s))
    |(refine hF ?_;intro _;clear hF)
    |(refine hF ?_;cbv;clear hF)
    |(refine ⟨fun _=>?_,?_⟩;(· ((try simp only [nc] at *);first|done|omega|exact ⟨by omega,rfl⟩|(simp (disch:=(first|omega|(simp only [lnS];omega))) only [rdT,rdS];first|done|omega|rfl|exact ⟨by omega,rfl⟩|(simp;done)|(simp;omega))|(intros;trivial)|(intro v hv;simp [setAll,AV.nrm,nrms,nrm1] at hv;subst hv;rfl)|exact ⟨by first|trivial|rfl,by first|trivial|rfl,by first|trivial|(simp [setAll];done),by first|omega|(simp [setAll];omega),by first|omega|(simp [setAll];omega),idsFlat _⟩|exact ⟨by first|trivial|rfl,by first|trivial|rfl|simp,by first|trivial|simp,by simp;omega,by simp;omega,by simp [AV.flat,AV.cells,AV.one]⟩));(try (simp only [nc] at *));(try simp (disch:=(first|omega|(simp only [lnS];omega))) only [rdT,rdS]);(try cbv))
    | fail
   )
  ·rw [show mayM g t e d=false by simpa using hm] at kp ⊢
   clear hA
   refine Pure.go (ty:=ty) ty_eq mo Try.func16 rfl Try.ntmps16 Try.results16 Try.call16 (by simp) fun P C CQ D W F E hF=>?_
   cbv
   repeat' (first
    |(refine E.c (SCalls.of_le (kp) ?_ ?_);(· (cbv;(try simp only [nc] at *);first|done|(simp;done)|(simp (disch:=(first|omega|(simp only [lnS];omega))) only [rdT,rdS,anT];first|done|omega|(refine ⟨?_,?_⟩<;>omega))|(simp (disch:=(first|omega|(simp only [lnS];omega))) [rdT,rdS];done)));cbv)
    |(refine E.c (SCalls.of_le (kr) ?_ ?_);(· (cbv;(try simp only [nc] at *);first|done|(simp;done)|(simp (disch:=(first|omega|(simp only [lnS];omega))) only [rdT,rdS,anT];first|done|omega|(refine ⟨?_,?_⟩<;>omega))|(simp (disch:=(first|omega|(simp only [lnS];omega))) [rdT,rdS];done)));cbv)
    |(refine ⟨fun _ h_s=>?_,fun _ h_s=>?_⟩<;>(cbv;(try simp only [nc] at *);try simp (disch:=(first|omega|(simp only [lnS];omega))) only [rdT,rdS,reduceCtorEq,trT] at h_s))
    |(refine hF ?_;intro _;clear hF)
    |(refine hF ?_;cbv;clear hF)
    |(refine ⟨fun _=>?_,?_⟩;(· ((try simp only [nc] at *);first|done|omega|exact ⟨by omega,rfl⟩|(simp (disch:=(first|omega|(simp only [lnS];omega))) only [rdT,rdS];first|done|omega|rfl|exact ⟨by omega,rfl⟩|(simp;done)|(simp;omega))|(intros;trivial)|(intro v hv;simp [setAll,AV.nrm,nrms,nrm1] at hv;subst hv;rfl)|exact ⟨by first|trivial|rfl,by first|trivial|rfl,by first|trivial|(simp [setAll];done),by first|omega|(simp [setAll];omega),by first|omega|(simp [setAll];omega),idsFlat _⟩|exact ⟨by first|trivial|rfl,by first|trivial|rfl|simp,by first|trivial|simp,by simp;omega,by simp;omega,by simp [AV.flat,AV.cells,AV.one]⟩));(try (simp only [nc] at *));(try simp (disch:=(first|omega|(simp only [lnS];omega))) only [rdT,rdS]);(try cbv))
    | fail
   )
 ·rw [show rdyM m g t=false by simpa using hr] at kr ⊢
  clear hA
  refine Pure.go (ty:=ty) ty_eq mo Try.func16 rfl Try.ntmps16 Try.results16 Try.call16 (by simp) fun P C CQ D W F E hF=>?_
  cbv
  repeat' (first
   |(refine E.c (SCalls.of_le (kr) ?_ ?_);(· (cbv;(try simp only [nc] at *);first|done|(simp;done)|(simp (disch:=(first|omega|(simp only [lnS];omega))) only [rdT,rdS,anT];first|done|omega|(refine ⟨?_,?_⟩<;>omega))|(simp (disch:=(first|omega|(simp only [lnS];omega))) [rdT,rdS];done)));cbv)
   |(refine ⟨fun _ h_s=>?_,fun _ h_s=>?_⟩<;>(cbv;(try simp only [nc] at *);try simp (disch:=(first|omega|(simp only [lnS];omega))) only [rdT,rdS,reduceCtorEq,trT] at h_s))
   |(refine hF ?_;intro _;clear hF)
   |(refine hF ?_;cbv;clear hF)
   |(refine ⟨fun _=>?_,?_⟩;(· ((try simp only [nc] at *);first|done|omega|exact ⟨by omega,rfl⟩|(simp (disch:=(first|omega|(simp only [lnS];omega))) only [rdT,rdS];first|done|omega|rfl|exact ⟨by omega,rfl⟩|(simp;done)|(simp;omega))|(intros;trivial)|(intro v hv;simp [setAll,AV.nrm,nrms,nrm1] at hv;subst hv;rfl)|exact ⟨by first|trivial|rfl,by first|trivial|rfl,by first|trivial|(simp [setAll];done),by first|omega|(simp [setAll];omega),by first|omega|(simp [setAll];omega),idsFlat _⟩|exact ⟨by first|trivial|rfl,by first|trivial|rfl|simp,by first|trivial|simp,by simp;omega,by simp;omega,by simp [AV.flat,AV.cells,AV.one]⟩));(try (simp only [nc] at *));(try simp (disch:=(first|omega|(simp only [lnS];omega))) only [rdT,rdS]);(try cbv))
   | fail
  )
noncomputable def srcB (m:Int) (g:Gr) (t:Int) (a:Ak) (d:EId):Bool:=decide (plsM m g t (ansM a ((eventM g d).getD ev0).wr) d≠[])
noncomputable def srcM (m:Int) (g:Gr) (t:Int) (a:Ak):List EId:=(wrsM g a.loc).filter (srcB m g t a)
def askM (g:Gr) (a:Ak):Bool:=decide (ansE a=0) && (decide (0≤a.loc∧a.loc<(g.init.length:Nat)) && decide (1≤a.order∧a.order≤6))
theorem filter_take {α:Type} (l:List α) (p:α→Bool) (d:α) (k:Nat) (h:k<l.length):(l.take (k+1)).filter p=(l.take k).filter p++if p (l.getD k d)=true then [l.getD k d] else []:=by
 rw [List.take_add_one,List.filter_append]
 have e:l[k]?=some l[k]:=List.getElem?_eq_getElem h
 rw [List.getD_eq_getElem?_getD,e]
 simp only [Option.toList_some,Option.getD_some,List.filter_cons,List.filter_nil]
theorem msources_ok (m:Int) (g:Gr) (hR:Rd g) (t:Int) (a:Ak)
  (hA:∀ e d p,Pure Try.prog γ false 37 [aGr g,.i fun _=>t,aEv e,aId d,.i fun _=>p] (.tup [aGr (addR g t e d p),.i fun _=>addE g t e d p])) :
  Pure Try.prog γ false 15 [.i fun _=>m,aGr g,.i fun _=>t,aAsk a] (.tup [.vs 2 fun _=>ids (if rdyM m g t=true∧askM g a=true then srcM m g t a else []),.i fun _=>if rdyM m g t=true∧askM g a=true then 0 else 2]):=by
 have kr:=ready_ok (γ:=γ) m g hR t
 have ka:=fun v=>ianswer_ok (γ:=γ) a v
 by_cases hr:rdyM m g t=true
 ·rw [hr] at kr ⊢
  have hg:GOk g:=by
   by_cases h:GOk g
   ·exact h
   ·unfold rdyM at hr;rw [okM_no h] at hr;cases hr
  by_cases hq:askM g a=true
  ·rw [hq]
   simp only [and_self,if_true]
   unfold askM at hq
   simp only [Bool.and_eq_true,decide_eq_true_eq] at hq
   obtain ⟨q1,⟨q2,q3⟩,q4,q5⟩:=hq
   have kp:=fun e d=>places_ok (γ:=γ) m g hg t e d (hA e d)
   have kw:=gWrites_ok (γ:=γ) g hR hg a.loc
   clear hA
   have hwl:=wrs_len hg a.loc
   have hat:=fun i=>wrs_at hg ⟨q2,q3⟩ (i:=i)
   have hin:=hg.short.init
   have hth:=hg.short.th
   have hev:∀ s,(g.th.getD s []).length≤14:=hg.short.at
   obtain ⟨L,hL⟩:∃ L:Nat→List EId,∀ k,L k=((wrsM g a.loc).take k).filter (srcB m g t a):=⟨_,fun _=>rfl⟩
   have l0:L 0=[]:=by rw [hL];rfl
   have lS:∀ k,k<(wrsM g a.loc).length→L (k+1)=L k++if plsM m g t (ansM a ((eventM g ((wrsM g a.loc).getD k id0)).getD ev0).wr) ((wrsM g a.loc).getD k id0)≠[] then [(wrsM g a.loc).getD k id0] else []:=fun k hk=>by
    rw [hL,hL,filter_take _ _ id0 _ hk]
    unfold srcB
    simp only [decide_eq_true_eq]
   have lL:∀ k,(L k).length≤k:=fun k=>by
    rw [hL]
    refine Nat.le_trans (List.length_filter_le _ _) ?_
    simp;omega
   have lE:srcM m g t a=L (wrsM g a.loc).length:=by rw [hL,List.take_length];rfl
   rw [lE]
   clear hL lE
   have pL:∀ e d,(plsM m g t e d).length≤57:=fun e d=>Nat.le_trans (plcTo_len m g t e d _) (plN_le hg e)
   obtain ⟨G,hG⟩:∃ G:List EId→Nat,∀ l,G l=l.length:=⟨_,fun _=>rfl⟩
   have hG0:G []=0:=by rw [hG];rfl
   generalize plsM m g t=PL at *
   generalize mayM g t=MY at *
   generalize wrsM g a.loc=wl at *
   refine Pure.go (ty:=ty) ty_eq mo Try.func15 rfl Try.ntmps15 Try.results15 Try.call15 (by simp) fun P C CQ D W F E hF=>?_
   cbv
   repeat' (first
    |(refine E.c (SCalls.of_le (kw) ?_ ?_);(· (cbv;(try simp only [nc] at *);first|done|(simp;done)|(simp (disch:=(first|omega|(simp only [lnS];omega))) only [rdT,rdS,anT];first|done|omega|(refine ⟨?_,?_⟩<;>omega))|(simp (disch:=(first|omega|(simp only [lnS];omega))) [rdT,rdS];done)));cbv)
    |((first|refine E.c (SCalls.of_le (ka 0) ?_ ?_)|refine E.q (QCalls.of_le (ka 0) ?_ ?_));(· (cbv;(try simp only [nc] at *);first|done|(simp;done)|(simp (disch:=(first|omega|(simp only [lnS];omega))) only [rdT,rdS,anT];first|done|omega|(refine ⟨?_,?_⟩<;>omega))|(simp (disch:=(first|omega|(simp only [lnS];omega))) [rdT,rdS];done)));cbv)
    |(refine E.c (SCalls.of_le (kr) ?_ ?_);(· (cbv;(try simp only [nc] at *);first|done|(simp;done)|(simp (disch:=(first|omega|(simp only [lnS];omega))) only [rdT,rdS,anT];first|done|omega|(refine ⟨?_,?_⟩<;>omega))|(simp (disch:=(first|omega|(simp only [lnS];omega))) [rdT,rdS];done)));cbv)
    |(refine ⟨fun _ h_s=>?_,fun _ h_s=>?_⟩<;>(cbv;(try simp only [nc] at *);try simp (disch:=(first|omega|(simp only [lnS];omega))) only [rdT,rdS,reduceCtorEq,trT] at h_s))
    |(refine hF ?_;intro _;clear hF)
    |(refine hF ?_;cbv;clear hF)
    |(refine ⟨fun _=>?_,?_⟩;(· ((try simp only [nc] at *);first|done|omega|exact ⟨by omega,rfl⟩|(simp (disch:=(first|omega|(simp only [lnS];omega))) only [rdT,rdS];first|done|omega|rfl|exact ⟨by omega,rfl⟩|(simp;done)|(simp;omega))|(intros;trivial)|(intro v hv;simp [setAll,AV.nrm,nrms,nrm1] at hv;subst hv;rfl)|exact ⟨by first|trivial|rfl,by first|trivial|rfl,by first|trivial|(simp [setAll];done),by first|omega|(simp [setAll];omega),by first|omega|(simp [setAll];omega),idsFlat _⟩|exact ⟨by first|trivial|rfl,by first|trivial|rfl|simp,by first|trivial|simp,by simp;omega,by simp;omega,by simp [AV.flat,AV.cells,AV.one]⟩));(try (simp only [nc] at *));(try simp (disch:=(first|omega|(simp only [lnS];omega))) only [rdT,rdS]);(try cbv))
    |(refine E.d 9 (by decide +kernel) ?_;cbv;(fail_if_success guard_target =~ False))
    | fail
   )
   refine E.w (AWP.ghostSlot 12 2 rfl (by omega) (E.loopSA (ι:=Nat) (fun i=>i≤wl.length) (fun i=>wl.length-i) (fun i=>[(58,.i fun _=>((i:Nat):Int)),(12,.sl 3 (G (L i)) 2 (fun _=>0) fun _=>(L i).length)]) (fun i h=>h.set 3 (.run (G (L i)) 2 fun _=>ids (L i))) 0 (fun _=>by first | rfl | simp) (Nat.zero_le _) ?_ fun i hi I hI=>?_))
   ·cbv;simp [l0,hG0,ids,LV.of]
   cbv
   have hS:=lS i
   have hLi:=lL i
   have ha:=hat i
   clear lS lL hat l0
   obtain ⟨d,hd⟩:∃ d,d=wl.getD i id0:=⟨_,rfl⟩
   rw [←hd] at hS ha
   skip
   skip
   refine ⟨fun _ h_s=>?_,fun _ h_s=>?_⟩
   ·(try simp only [nc] at *)
    simp (disch:=(first|omega|(simp only [lnS];omega))) only [rdT,rdS,hd.symm,tn1,reduceCtorEq,trT] at h_s
    have hil:i<wl.length:=by ((try simp only [nc] at *);omega)
    have hT:=hS hil
    clear hS
    rcases ha hil with ⟨z1,z2⟩ | ⟨s,j,z1,z2,z3,z4⟩
    ·rw [z2] at hT
     have k1:=ka (g.init.getD a.loc.toNat 0)
     have k2:=kp (ansM a (g.init.getD a.loc.toNat 0)) d
     have k3:=pL (ansM a (g.init.getD a.loc.toNat 0)) d
     generalize PL (ansM a (g.init.getD a.loc.toNat 0)) d=pl at *
     generalize MY (ansM a (g.init.getD a.loc.toNat 0)) d=my at *
     generalize ansM a (g.init.getD a.loc.toNat 0)=ev at *
     by_cases hp:pl=[]
     ·subst hp
      rw [if_neg (fun h=>h rfl),List.append_nil] at hT
      cbv
      repeat' (first
       |(refine hI (i+1) ?_ ?_ ?_;rotate_left 1;(· ((try simp only [nc] at *);omega));(cbv;clear hI;(try clear hF);(try simp only [nc] at *);(try simp (disch:=(first|omega|(simp only [lnS];omega))) only [rdT,rdS,hd.symm,tn1,anT]));rotate_left 1;(try ((try simp only [nc] at *);omega)))
       |(refine E.c (SCalls.of_le (k2) ?_ ?_);(· (cbv;(try simp only [nc] at *);first|done|(simp;done)|(simp (disch:=(first|omega|(simp only [lnS];omega))) only [rdT,rdS,hd.symm,tn1,anT];first|done|omega|(refine ⟨?_,?_⟩<;>omega))|(simp (disch:=(first|omega|(simp only [lnS];omega))) [rdT,rdS,hd.symm,tn1];done)));cbv)
       |(refine E.c (SCalls.of_le (k1) ?_ ?_);(· (cbv;(try simp only [nc] at *);first|done|(simp;done)|(simp (disch:=(first|omega|(simp only [lnS];omega))) only [rdT,rdS,hd.symm,tn1,anT];first|done|omega|(refine ⟨?_,?_⟩<;>omega))|(simp (disch:=(first|omega|(simp only [lnS];omega))) [rdT,rdS,hd.symm,tn1];done)));cbv)
       |(refine ⟨fun _ h_s=>?_,fun _ h_s=>?_⟩<;>(cbv;(try simp only [nc] at *);try simp (disch:=(first|omega|(simp only [lnS];omega))) only [rdT,rdS,hd.symm,tn1,reduceCtorEq,trT] at h_s))
       |(refine hF ?_;intro _;clear hF)
       |(refine hF ?_;cbv;clear hF)
       |(refine ⟨fun _=>?_,?_⟩;(· ((try simp only [nc] at *);first|done|omega|exact ⟨by omega,rfl⟩|(simp (disch:=(first|omega|(simp only [lnS];omega))) only [rdT,rdS,hd.symm,tn1];first|done|omega|rfl|exact ⟨by omega,rfl⟩|(simp;done)|(simp;omega))|(intros;trivial)|(intro v hv;simp [setAll,AV.nrm,nrms,nrm1] at hv;subst hv;rfl)|exact ⟨by first|trivial|rfl,by first|trivial|rfl,by first|trivial|(simp [setAll];done),by first|omega|(simp [setAll];omega),by first|omega|(simp [setAll];omega),idsFlat _⟩|exact ⟨by first|trivial|rfl,by first|trivial|rfl|simp,by first|trivial|simp,by simp;omega,by simp;omega,by simp [AV.flat,AV.cells,AV.one]⟩|exact ⟨by first|trivial|rfl,by first|trivial|rfl|simp,by first|trivial|simp,by simp;omega,by simp;omega,by simp [AV.flat,AV.cells,AV.one]⟩));(try (simp only [nc] at *));(try simp (disch:=(first|omega|(simp only [lnS];omega))) only [rdT,rdS,hd.symm,tn1]);(try cbv))
       |(refine E.d 9 (by decide +kernel) ?_;cbv;(fail_if_success guard_target =~ False))
       | fail
      )
      all_goals first
       | (exfalso;((try simp only [nc] at *);omega))
       | (exfalso;revert h_s;simp;done)
       | (rw [hT];exact ⟨⟨⟨rfl,rfl⟩,by push_cast;rfl⟩,rfl,rfl⟩)
     ·rw [if_pos hp] at hT
      have hpl:pl.length≠0:=fun h=>hp (List.length_eq_zero_iff.1 h)
      cbv
      repeat' (first
       |(refine hI (i+1) ?_ ?_ ?_;rotate_left 1;(· ((try simp only [nc] at *);omega));(cbv;clear hI;(try clear hF);(try simp only [nc] at *);(try simp (disch:=(first|omega|(simp only [lnS];omega))) only [rdT,rdS,hd.symm,tn1,anT]));rotate_left 1;(try ((try simp only [nc] at *);omega)))
       |(refine E.c (SCalls.of_le (k2) ?_ ?_);(· (cbv;(try simp only [nc] at *);first|done|(simp;done)|(simp (disch:=(first|omega|(simp only [lnS];omega))) only [rdT,rdS,hd.symm,tn1,anT];first|done|omega|(refine ⟨?_,?_⟩<;>omega))|(simp (disch:=(first|omega|(simp only [lnS];omega))) [rdT,rdS,hd.symm,tn1];done)));cbv)
       |(refine E.c (SCalls.of_le (k1) ?_ ?_);(· (cbv;(try simp only [nc] at *);first|done|(simp;done)|(simp (disch:=(first|omega|(simp only [lnS];omega))) only [rdT,rdS,hd.symm,tn1,anT];first|done|omega|(refine ⟨?_,?_⟩<;>omega))|(simp (disch:=(first|omega|(simp only [lnS];omega))) [rdT,rdS,hd.symm,tn1];done)));cbv)
       |(refine ⟨fun _ h_s=>?_,fun _ h_s=>?_⟩<;>(cbv;(try simp only [nc] at *);try simp (disch:=(first|omega|(simp only [lnS];omega))) only [rdT,rdS,hd.symm,tn1,reduceCtorEq,trT] at h_s))
       |(refine hF ?_;intro _;clear hF)
       |(refine hF ?_;cbv;clear hF)
       |(refine ⟨fun _=>?_,?_⟩;(· ((try simp only [nc] at *);first|done|omega|exact ⟨by omega,rfl⟩|(simp (disch:=(first|omega|(simp only [lnS];omega))) only [rdT,rdS,hd.symm,tn1];first|done|omega|rfl|exact ⟨by omega,rfl⟩|(simp;done)|(simp;omega))|(intros;trivial)|(intro v hv;simp [setAll,AV.nrm,nrms,nrm1] at hv;subst hv;rfl)|exact ⟨by first|trivial|rfl,by first|trivial|rfl,by first|trivial|(simp [setAll];done),by first|omega|(simp [setAll];omega),by first|omega|(simp [setAll];omega),idsFlat _⟩|exact ⟨by first|trivial|rfl,by first|trivial|rfl|simp,by first|trivial|simp,by simp;omega,by simp;omega,by simp [AV.flat,AV.cells,AV.one]⟩|exact ⟨by first|trivial|rfl,by first|trivial|rfl|simp,by first|trivial|simp,by simp;omega,by simp;omega,by simp [AV.flat,AV.cells,AV.one]⟩));(try (simp only [nc] at *));(try simp (disch:=(first|omega|(simp only [lnS];omega))) only [rdT,rdS,hd.symm,tn1]);(try cbv))
       |(refine E.d 9 (by decide +kernel) ?_;cbv;(fail_if_success guard_target =~ False))
       | fail
      )
      all_goals first
       | (exfalso;((try simp only [nc] at *);omega))
       | (simp [hG,hT,ids,setAll,AV.nrm];done)
    ·rw [z4] at hT
     have k1:=ka ((g.th.getD s []).getD j ev0).wr
     have k2:=kp (ansM a ((g.th.getD s []).getD j ev0).wr) d
     have k3:=pL (ansM a ((g.th.getD s []).getD j ev0).wr) d
     generalize PL (ansM a ((g.th.getD s []).getD j ev0).wr) d=pl at *
     generalize MY (ansM a ((g.th.getD s []).getD j ev0).wr) d=my at *
     generalize ansM a ((g.th.getD s []).getD j ev0).wr=ev at *
     have hev:=hev s
     subst z1
     by_cases hp:pl=[]
     ·subst hp
      rw [if_neg (fun h=>h rfl),List.append_nil] at hT
      cbv
      repeat' (first
       |(refine hI (i+1) ?_ ?_ ?_;rotate_left 1;(· ((try simp only [nc] at *);omega));(cbv;clear hI;(try clear hF);(try simp only [nc] at *);(try simp (disch:=(first|omega|(simp only [lnS];omega))) only [rdT,rdS,hd.symm,tn1,anT]));rotate_left 1;(try ((try simp only [nc] at *);omega)))
       |(refine E.c (SCalls.of_le (k2) ?_ ?_);(· (cbv;(try simp only [nc] at *);first|done|(simp;done)|(simp (disch:=(first|omega|(simp only [lnS];omega))) only [rdT,rdS,hd.symm,tn1,anT];first|done|omega|(refine ⟨?_,?_⟩<;>omega))|(simp (disch:=(first|omega|(simp only [lnS];omega))) [rdT,rdS,hd.symm,tn1];done)));cbv)
       |(refine E.c (SCalls.of_le (k1) ?_ ?_);(· (cbv;(try simp only [nc] at *);first|done|(simp;done)|(simp (disch:=(first|omega|(simp only [lnS];omega))) only [rdT,rdS,hd.symm,tn1,anT];first|done|omega|(refine ⟨?_,?_⟩<;>omega))|(simp (disch:=(first|omega|(simp only [lnS];omega))) [rdT,rdS,hd.symm,tn1];done)));cbv)
       |(refine ⟨fun _ h_s=>?_,fun _ h_s=>?_⟩<;>(cbv;(try simp only [nc] at *);try simp (disch:=(first|omega|(simp only [lnS];omega))) only [rdT,rdS,hd.symm,tn1,reduceCtorEq,trT] at h_s))
       |(refine hF ?_;intro _;clear hF)
       |(refine hF ?_;cbv;clear hF)
       |(refine ⟨fun _=>?_,?_⟩;(· ((try simp only [nc] at *);first|done|omega|exact ⟨by omega,rfl⟩|(simp (disch:=(first|omega|(simp only [lnS];omega))) only [rdT,rdS,hd.symm,tn1];first|done|omega|rfl|exact ⟨by omega,rfl⟩|(simp;done)|(simp;omega))|(intros;trivial)|(intro v hv;simp [setAll,AV.nrm,nrms,nrm1] at hv;subst hv;rfl)|exact ⟨by first|trivial|rfl,by first|trivial|rfl,by first|trivial|(simp [setAll];done),by first|omega|(simp [setAll];omega),by first|omega|(simp [setAll];omega),idsFlat _⟩|exact ⟨by first|trivial|rfl,by first|trivial|rfl|simp,by first|trivial|simp,by simp;omega,by simp;omega,by simp [AV.flat,AV.cells,AV.one]⟩|exact ⟨by first|trivial|rfl,by first|trivial|rfl|simp,by first|trivial|simp,by simp;omega,by simp;omega,by simp [AV.flat,AV.cells,AV.one]⟩));(try (simp only [nc] at *));(try simp (disch:=(first|omega|(simp only [lnS];omega))) only [rdT,rdS,hd.symm,tn1]);(try cbv))
       |(refine E.d 9 (by decide +kernel) ?_;cbv;(fail_if_success guard_target =~ False))
       | fail
      )
      all_goals first
       | (exfalso;((try simp only [nc] at *);omega))
       | (exfalso;revert h_s;simp;done)
       | (rw [hT];exact ⟨⟨⟨rfl,rfl⟩,by push_cast;rfl⟩,rfl,rfl⟩)
     ·rw [if_pos hp] at hT
      have hpl:pl.length≠0:=fun h=>hp (List.length_eq_zero_iff.1 h)
      cbv
      repeat' (first
       |(refine hI (i+1) ?_ ?_ ?_;rotate_left 1;(· ((try simp only [nc] at *);omega));(cbv;clear hI;(try clear hF);(try simp only [nc] at *);(try simp (disch:=(first|omega|(simp only [lnS];omega))) only [rdT,rdS,hd.symm,tn1,anT]));rotate_left 1;(try ((try simp only [nc] at *);omega)))
       |(refine E.c (SCalls.of_le (k2) ?_ ?_);(· (cbv;(try simp only [nc] at *);first|done|(simp;done)|(simp (disch:=(first|omega|(simp only [lnS];omega))) only [rdT,rdS,hd.symm,tn1,anT];first|done|omega|(refine ⟨?_,?_⟩<;>omega))|(simp (disch:=(first|omega|(simp only [lnS];omega))) [rdT,rdS,hd.symm,tn1];done)));cbv)
       |(refine E.c (SCalls.of_le (k1) ?_ ?_);(· (cbv;(try simp only [nc] at *);first|done|(simp;done)|(simp (disch:=(first|omega|(simp only [lnS];omega))) only [rdT,rdS,hd.symm,tn1,anT];first|done|omega|(refine ⟨?_,?_⟩<;>omega))|(simp (disch:=(first|omega|(simp only [lnS];omega))) [rdT,rdS,hd.symm,tn1];done)));cbv)
       |(refine ⟨fun _ h_s=>?_,fun _ h_s=>?_⟩<;>(cbv;(try simp only [nc] at *);try simp (disch:=(first|omega|(simp only [lnS];omega))) only [rdT,rdS,hd.symm,tn1,reduceCtorEq,trT] at h_s))
       |(refine hF ?_;intro _;clear hF)
       |(refine hF ?_;cbv;clear hF)
       |(refine ⟨fun _=>?_,?_⟩;(· ((try simp only [nc] at *);first|done|omega|exact ⟨by omega,rfl⟩|(simp (disch:=(first|omega|(simp only [lnS];omega))) only [rdT,rdS,hd.symm,tn1];first|done|omega|rfl|exact ⟨by omega,rfl⟩|(simp;done)|(simp;omega))|(intros;trivial)|(intro v hv;simp [setAll,AV.nrm,nrms,nrm1] at hv;subst hv;rfl)|exact ⟨by first|trivial|rfl,by first|trivial|rfl,by first|trivial|(simp [setAll];done),by first|omega|(simp [setAll];omega),by first|omega|(simp [setAll];omega),idsFlat _⟩|exact ⟨by first|trivial|rfl,by first|trivial|rfl|simp,by first|trivial|simp,by simp;omega,by simp;omega,by simp [AV.flat,AV.cells,AV.one]⟩|exact ⟨by first|trivial|rfl,by first|trivial|rfl|simp,by first|trivial|simp,by simp;omega,by simp;omega,by simp [AV.flat,AV.cells,AV.one]⟩));(try (simp only [nc] at *));(try simp (disch:=(first|omega|(simp only [lnS];omega))) only [rdT,rdS,hd.symm,tn1]);(try cbv))
       |(refine E.d 9 (by decide +kernel) ?_;cbv;(fail_if_success guard_target =~ False))
       | fail
      )
      all_goals first
       | (exfalso;((try simp only [nc] at *);omega))
       | (simp [hG,hT,ids,setAll,AV.nrm];done)
   ·(try simp only [nc] at *)
    simp (disch:=(first|omega|(simp only [lnS];omega))) only [rdT,rdS,hd.symm,tn1,reduceCtorEq,trT] at h_s
    cbv
    repeat' (first
     |(refine ⟨fun _ h_s=>?_,fun _ h_s=>?_⟩<;>(cbv;(try simp only [nc] at *);try simp (disch:=(first|omega|(simp only [lnS];omega))) only [rdT,rdS,hd.symm,tn1,reduceCtorEq,trT] at h_s))
     |(refine hF ?_;intro _;clear hF)
     |(refine hF ?_;cbv;clear hF)
     |(refine ⟨fun _=>?_,?_⟩;(· ((try simp only [nc] at *);first|done|omega|exact ⟨by omega,rfl⟩|(simp (disch:=(first|omega|(simp only [lnS];omega))) only [rdT,rdS,hd.symm,tn1];first|done|omega|rfl|exact ⟨by omega,rfl⟩|(simp;done)|(simp;omega))|(intros;trivial)|(intro v hv;simp [setAll,AV.nrm,nrms,nrm1] at hv;subst hv;rfl)|exact ⟨by first|trivial|rfl,by first|trivial|rfl,by first|trivial|(simp [setAll];done),by first|omega|(simp [setAll];omega),by first|omega|(simp [setAll];omega),idsFlat _⟩|exact ⟨by first|trivial|rfl,by first|trivial|rfl|simp,by first|trivial|simp,by simp;omega,by simp;omega,by simp [AV.flat,AV.cells,AV.one]⟩|exact ⟨by first|trivial|rfl,by first|trivial|rfl|simp,by first|trivial|simp,by simp;omega,by simp;omega,by simp [AV.flat,AV.cells,AV.one]⟩));(try (simp only [nc] at *));(try simp (disch:=(first|omega|(simp only [lnS];omega))) only [rdT,rdS,hd.symm,tn1]);(try cbv))
     |(refine E.d 9 (by decide +kernel) ?_;cbv;(fail_if_success guard_target =~ False))
     | fail
    )
    have e:i=wl.length:=by ((try simp only [nc] at *);omega)
    subst e
    rw [List.drop_zero,List.take_of_length_le (by simp)]
    simp
  ·rw [show askM g a=false by simpa using hq]
   unfold askM at hq
   simp only [Bool.and_eq_true,decide_eq_true_eq] at hq
   clear hA
   generalize ansE a=ae at *
   refine Pure.go (ty:=ty) ty_eq mo Try.func15 rfl Try.ntmps15 Try.results15 Try.call15 (by simp) fun P C CQ D W F E hF=>?_
   cbv
   repeat' (first
    |((first|refine E.c (SCalls.of_le (ka 0) ?_ ?_)|refine E.q (QCalls.of_le (ka 0) ?_ ?_));(· (cbv;(try simp only [nc] at *);first|done|(simp;done)|(simp (disch:=(first|omega|(simp only [lnS];omega))) only [rdT,rdS,hd.symm,tn1,anT];first|done|omega|(refine ⟨?_,?_⟩<;>omega))|(simp (disch:=(first|omega|(simp only [lnS];omega))) [rdT,rdS,hd.symm,tn1];done)));cbv)
    |(refine E.c (SCalls.of_le (kr) ?_ ?_);(· (cbv;(try simp only [nc] at *);first|done|(simp;done)|(simp (disch:=(first|omega|(simp only [lnS];omega))) only [rdT,rdS,hd.symm,tn1,anT];first|done|omega|(refine ⟨?_,?_⟩<;>omega))|(simp (disch:=(first|omega|(simp only [lnS];omega))) [rdT,rdS,hd.symm,tn1];done)));cbv)
    |(refine ⟨fun _ h_s=>?_,fun _ h_s=>?_⟩<;>(cbv;(try simp only [nc] at *);try simp (disch:=(first|omega|(simp only [lnS];omega))) only [rdT,rdS,hd.symm,tn1,reduceCtorEq,trT] at h_s))
    |(refine hF ?_;intro _;clear hF)
    |(refine hF ?_;cbv;clear hF)
    |(refine ⟨fun _=>?_,?_⟩;(· ((try simp only [nc] at *);first|done|omega|exact ⟨by omega,rfl⟩|(simp (disch:=(first|omega|(simp only [lnS];omega))) only [rdT,rdS,hd.symm,tn1];first|done|omega|rfl|exact ⟨by omega,rfl⟩|(simp;done)|(simp;omega))|(intros;trivial)|(intro v hv;simp [setAll,AV.nrm,nrms,nrm1] at hv;subst hv;rfl)|exact ⟨by first|trivial|rfl,by first|trivial|rfl,by first|trivial|(simp [setAll];done),by first|omega|(simp [setAll];omega),by first|omega|(simp [setAll];omega),idsFlat _⟩|exact ⟨by first|trivial|rfl,by first|trivial|rfl|simp,by first|trivial|simp,by simp;omega,by simp;omega,by simp [AV.flat,AV.cells,AV.one]⟩|exact ⟨by first|trivial|rfl,by first|trivial|rfl|simp,by first|trivial|simp,by simp;omega,by simp;omega,by simp [AV.flat,AV.cells,AV.one]⟩));(try (simp only [nc] at *));(try simp (disch:=(first|omega|(simp only [lnS];omega))) only [rdT,rdS,hd.symm,tn1]);(try cbv))
    |(refine E.d 9 (by decide +kernel) ?_;cbv;(fail_if_success guard_target =~ False))
    | fail
   )
   all_goals first
    | (exfalso;revert h_s;simp;done)
    | (exfalso;((try simp only [nc] at *);omega))
    | (exfalso;clear kr ka hF;simp at *;omega)
    | (simp [ids,LV.of];done)
 ·rw [show rdyM m g t=false by simpa using hr] at kr ⊢
  clear hA
  refine Pure.go (ty:=ty) ty_eq mo Try.func15 rfl Try.ntmps15 Try.results15 Try.call15 (by simp) fun P C CQ D W F E hF=>?_
  cbv
  repeat' (first
   |(refine E.c (SCalls.of_le (kr) ?_ ?_);(· (cbv;(try simp only [nc] at *);first|done|(simp;done)|(simp (disch:=(first|omega|(simp only [lnS];omega))) only [rdT,rdS,hd.symm,tn1,anT];first|done|omega|(refine ⟨?_,?_⟩<;>omega))|(simp (disch:=(first|omega|(simp only [lnS];omega))) [rdT,rdS,hd.symm,tn1];done)));cbv)
   |(refine ⟨fun _ h_s=>?_,fun _ h_s=>?_⟩<;>(cbv;(try simp only [nc] at *);try simp (disch:=(first|omega|(simp only [lnS];omega))) only [rdT,rdS,hd.symm,tn1,reduceCtorEq,trT] at h_s))
   |(refine hF ?_;intro _;clear hF)
   |(refine hF ?_;cbv;clear hF)
   |(refine ⟨fun _=>?_,?_⟩;(· ((try simp only [nc] at *);first|done|omega|exact ⟨by omega,rfl⟩|(simp (disch:=(first|omega|(simp only [lnS];omega))) only [rdT,rdS,hd.symm,tn1];first|done|omega|rfl|exact ⟨by omega,rfl⟩|(simp;done)|(simp;omega))|(intros;trivial)|(intro v hv;simp [setAll,AV.nrm,nrms,nrm1] at hv;subst hv;rfl)|exact ⟨by first|trivial|rfl,by first|trivial|rfl,by first|trivial|(simp [setAll];done),by first|omega|(simp [setAll];omega),by first|omega|(simp [setAll];omega),idsFlat _⟩|exact ⟨by first|trivial|rfl,by first|trivial|rfl|simp,by first|trivial|simp,by simp;omega,by simp;omega,by simp [AV.flat,AV.cells,AV.one]⟩|exact ⟨by first|trivial|rfl,by first|trivial|rfl|simp,by first|trivial|simp,by simp;omega,by simp;omega,by simp [AV.flat,AV.cells,AV.one]⟩));(try (simp only [nc] at *));(try simp (disch:=(first|omega|(simp only [lnS];omega))) only [rdT,rdS,hd.symm,tn1]);(try cbv))
   |(refine E.d 9 (by decide +kernel) ?_;cbv;(fail_if_success guard_target =~ False))
   | fail
  )
  all_goals first
   | (exfalso;revert h_s;simp;done)
   | (simp [ids,LV.of];done)
end Go.AL.Rl
namespace Go.AL.Rl
open Go Go.AL Go.Proofs
set_option maxRecDepth 100000
set_option maxHeartbeats 1600000
theorem okM_gok {m:Int} {g:Gr} (h:okM m g=true):GOk g:=by
 by_cases hg:GOk g
 ·exact hg
 ·rw [okM_no hg] at h;cases h
theorem wrs_cons {g:Gr} {x:Int} (hx:0≤x∧x<(g.init.length:Nat)):(wrsM g x).length=(g.ord.getD x.toNat []).length+1:=by
 unfold wrsM
 rw [if_pos hx,List.length_cons]
theorem plc_end {m:Int} {g:Gr} {t:Nat} {e:Ev} {d:EId} (h:okM m g=true) (ht:t<g.th.length) (hl:(g.th.getD t []).length≠14) (hf:fineM g.init.length e=true)
  (hd:if readsM e=true then d=lastW g e.loc∧((eventM g d).getD ev0).wr=e.rd else d=id0) :
  plcB m g ((t:Int)+1) e d (plLo e+((plN g e-1:Nat):Int))=true:=by
 have hg:=okM_gok h
 have hlo:=hg.lord
 have e1:((t:Int)+1-1).toNat=t:=by omega
 have hfn:∀ (_:readsM e=true),fenceM e=false:=fun hr=>by
  unfold readsM at hr
  unfold fenceM
  simp only [Bool.or_eq_true,decide_eq_true_eq] at hr
  rw [decide_eq_false_iff_not]
  omega
 have hp:writesM e=true→plLo e+((plN g e-1:Nat):Int)=((g.ord.getD e.loc.toNat []).length:Nat)+1:=fun hw=>by
  obtain ⟨y,hy,hy2⟩:=fine_nat hf hw
  unfold plLo plN
  rw [if_pos hw,if_pos hw,wrs_cons ⟨by omega,by omega⟩]
  omega
 have hp0:¬ writesM e=true→plLo e+((plN g e-1:Nat):Int)=0:=fun hw=>by
  unfold plLo plN
  rw [if_neg hw,if_neg hw]
  rfl
 generalize plLo e+((plN g e-1:Nat):Int)=p at *
 have hh:GOk (addG g t e d p):=by
  refine add_gok hg ht hl hf ?_
  split
  ·rename_i hr
   rw [if_pos hr] at hd
   obtain ⟨q1,q2,q3,_⟩:=last_is hg (fine_loc hf (hfn hr))
   rw [←hd.1] at q1 q2 q3
   exact ⟨q1,q2,q3,hd.2⟩
  ·rename_i hr
   rw [if_neg hr] at hd
   exact hd
 have hc:addC g t e d p:=⟨hf,by
  split
  ·rename_i hw
   rw [hp hw]
   exact ⟨by omega,by omega⟩
  ·rename_i hw
   exact hp0 hw,hh⟩
 have hE:addE g ((t:Int)+1) e d p=0:=aE_of hg (by omega) (by omega) (by rw [e1];exact hc) (by rw [e1];exact hl)
 have hR:=(aE_wf _ _ _ _ _ hE).2.2.2.2.2
 unfold plcB
 rw [hE,hR,e1,add_okM hg ht hh hf hp (fun hr=>by rw [if_pos hr] at hd;exact hd.1) h]
 rfl
theorem pls_last {m:Int} {g:Gr} {t:Nat} {e:Ev} {d:EId} (h:plcB m g ((t:Int)+1) e d (plLo e+((plN g e-1:Nat):Int))=true) (hn:1≤plN g e) :
  ∃ l,plsM m g ((t:Int)+1) e d=l++[plLo e+((plN g e-1:Nat):Int)]:=by
 unfold plsM
 obtain ⟨k,hk⟩:∃ k,plN g e=k+1:=⟨plN g e-1,by omega⟩
 rw [hk] at h ⊢
 unfold plcTo
 rw [show k+1-1=k from rfl] at h ⊢
 rw [if_pos h]
 exact ⟨_,rfl⟩
theorem goes_place {m:Int} {g:Gr} {t:Nat} (h:okM m g=true) (ht:t<g.th.length) (hl:(g.th.getD t []).length≠14) {x o v:Int} (hx:0≤x∧x<(g.init.length:Nat)) (ho:1≤o∧o≤6) :
  ∃ l,plsM m g ((t:Int)+1) ⟨2,x,o,0,v⟩ id0=l++[((wrsM g x).length:Int)]:=by
 have hf:fineM g.init.length ⟨2,x,o,0,v⟩=true:=by simp [fineM,readsM,writesM,ho,hx]
 have hw:writesM (⟨2,x,o,0,v⟩:Ev)=true:=rfl
 have hpl:1≤plN g ⟨2,x,o,0,v⟩:=by
  unfold plN
  rw [if_pos hw]
  show 1≤(wrsM g x).length
  rw [wrs_cons hx];omega
 obtain ⟨l,hE⟩:=pls_last (plc_end (e:=⟨2,x,o,0,v⟩) (d:=id0) h ht hl hf (by rw [if_neg (by simp [readsM])])) hpl
 refine ⟨l,?_⟩
 rw [hE]
 congr 2
 unfold plLo plN
 rw [if_pos hw,if_pos hw]
 show (1:Int)+(((wrsM g x).length-1:Nat):Int)=_
 rw [wrs_cons hx];omega
theorem goes_may {m:Int} {g:Gr} {t:Nat} (h:okM m g=true) (ht:t<g.th.length) (hl:(g.th.getD t []).length≠14) {x o v:Int} (hx:0≤x∧x<(g.init.length:Nat)) (ho:1≤o∧o≤6) :
  mayM g ((t:Int)+1) ⟨2,x,o,0,v⟩ id0=true:=by
 have hf:fineM g.init.length ⟨2,x,o,0,v⟩=true:=by simp [fineM,readsM,writesM,ho,hx]
 have hw:writesM (⟨2,x,o,0,v⟩:Ev)=true:=rfl
 have hpl:1≤plN g ⟨2,x,o,0,v⟩:=by
  unfold plN
  rw [if_pos hw]
  show 1≤(wrsM g x).length
  rw [wrs_cons hx];omega
 have k:=plc_end (e:=⟨2,x,o,0,v⟩) (d:=id0) h ht hl hf (by rw [if_neg (by simp [readsM])])
 unfold plcB at k
 rw [Bool.and_eq_true,decide_eq_true_eq] at k
 exact (may_iff _ _ _ _ _).2 ⟨_,by omega,k.1⟩
theorem goes_source {m:Int} {g:Gr} {t:Nat} (h:okM m g=true) (ht:t<g.th.length) (hl:(g.th.getD t []).length≠14) {a:Ak} (hx:0≤a.loc∧a.loc<(g.init.length:Nat)) (ho:1≤a.order∧a.order≤6) (hk:ansE a=0) :
  ∃ l,srcM m g ((t:Int)+1) a=l++[lastW g a.loc]:=by
 have hg:=okM_gok h
 have hn:=wrs_cons hx
 have e:wrsM g a.loc=(wrsM g a.loc).take ((wrsM g a.loc).length-1)++[lastW g a.loc]:=by
  have:=List.take_append_drop ((wrsM g a.loc).length-1) (wrsM g a.loc)
  conv=>lhs;rw [←this]
  congr 1
  unfold lastW
  rw [List.drop_eq_getElem_cons (by omega),List.drop_eq_nil_of_le (by omega),gD' (by omega)]
 have hb:srcB m g ((t:Int)+1) a (lastW g a.loc)=true:=by
  unfold srcB
  rw [decide_eq_true_eq]
  generalize hv:((eventM g (lastW g a.loc)).getD ev0).wr=v
  have hloc:(ansM a v).loc=a.loc∧(ansM a v).rd=v∧readsM (ansM a v)=true∧fineM g.init.length (ansM a v)=true:=by
   unfold ansE at hk
   split at hk
   ·rename_i hc
    unfold ansM
    split
    ·exact ⟨rfl,rfl,rfl,by simp [fineM,readsM,writesM,ho,hx]⟩
    ·split
     ·split
      ·exact ⟨rfl,rfl,rfl,by simp [fineM,readsM,writesM,ho,hx]⟩
      ·exact ⟨rfl,rfl,rfl,by simp [fineM,readsM,writesM,ho,hx]⟩
     ·split
      ·exact ⟨rfl,rfl,rfl,by simp [fineM,readsM,writesM,ho,hx]⟩
      ·split
       ·exact ⟨rfl,rfl,rfl,by simp [fineM,readsM,writesM,ho,hx]⟩
       ·exfalso;omega
   ·cases hk
  obtain ⟨q1,q2,q3,q4⟩:=hloc
  have hpl:1≤plN g (ansM a v):=by
   unfold plN
   split
   ·rw [q1,hn];omega
   ·exact Nat.le_refl _
  obtain ⟨l,hE⟩:=pls_last (plc_end (e:=ansM a v) (d:=lastW g a.loc) h ht hl q4 (by rw [if_pos q3,q1,q2];exact ⟨rfl,hv⟩)) hpl
  rw [hE]
  simp
 refine ⟨((wrsM g a.loc).take ((wrsM g a.loc).length-1)).filter (srcB m g ((t:Int)+1) a),?_⟩
 unfold srcM
 conv=>lhs;rw [e]
 rw [List.filter_append,List.filter_cons_of_pos hb,List.filter_nil]
end Go.AL.Rl
namespace Go.AL.Rl
open Go Go.AL Go.Proofs
set_option maxRecDepth 100000
set_option maxHeartbeats 1600000
abbrev lastI (g:Gr) (t:Nat):EId:=⟨(t:Int)+1,(((g.th.getD t []).length-1:Nat):Int)⟩
def dropG (g:Gr) (t:Nat):Gr:=⟨g.init,g.th.set t ((g.th.getD t []).take ((g.th.getD t []).length-1)),g.fr.set t ((g.fr.getD t []).take ((g.th.getD t []).length-1)),g.ord.map fun o=>o.filter fun d=>decide (d≠lastI g t)⟩
def dropN (g:Gr) (t s:Nat):Nat:=if s=t then (g.th.getD t []).length-1 else (g.th.getD s []).length
section
variable {g:Gr} {t:Nat} (hg:GOk g) (ht:t<g.th.length) (hn:0<(g.th.getD t []).length) (hr:∀ s<g.th.length,∀ i<dropN g t s,(g.fr.getD s []).getD i id0≠lastI g t)
abbrev dropL (g:Gr) (t:Nat):List EId:=(idsT g g.th.length).filter fun d=>decide (d≠lastI g t)
theorem dropL_in {d:EId}:d∈dropL g t↔evT g d∧d≠lastI g t:=by
 unfold dropL
 rw [List.mem_filter,decide_eq_true_eq,←evT_iff]
include hr in
theorem drop_cl:ClG g (dropL g t):=by
 refine ⟨(idsT_nodup g _).filter _,fun d hd=>(dropL_in.1 hd).1,fun d hd a ha hah=>dropL_in.2 ⟨ha,fun e=>?_⟩⟩
 obtain ⟨hdT,hdn⟩:=dropL_in.1 hd
 obtain ⟨b1,b2,b3,b4⟩:=hdT
 subst e
 rcases hah with ⟨h1,h2⟩ | ⟨h1,h2⟩
 ·simp only at h1 h2
  have e1:(d.t-1).toNat=t:=by omega
  rw [e1] at b4
  omega
 ·unfold srcOf at h2
  refine hr (d.t-1).toNat (by omega) d.i.toNat ?_ h2
  unfold dropN
  split
  ·rename_i e1
   rw [e1] at b4
   have:d.i≠(((g.th.getD t []).length-1:Nat):Int):=fun h=>hdn (EId.ext' (by simp only;omega) (by simp only;omega))
   omega
  ·omega
include hg ht hn hr
theorem drop_kQ (s:Nat) (hs:s<g.th.length):kQ g (dropL g t) s=dropN g t s:=by
 have hC:=drop_cl (g:=g) (t:=t) hr
 have hk:=kQ_le hg hC s hs
 have key:∀ j<(g.th.getD s []).length,(j<dropN g t s↔j<kQ g (dropL g t) s):=fun j hj=>by
  rw [←k_in hg hC s j hs hj,dropL_in,evT_mk]
  unfold dropN
  constructor
  ·intro h
   refine ⟨⟨hs,hj⟩,fun e=>?_⟩
   have e1:((s:Int)+1)=(t:Int)+1:=congrArg EId.t e
   have e2:((j:Nat):Int)=(((g.th.getD t []).length-1:Nat):Int):=congrArg EId.i e
   rw [if_pos (by omega)] at h
   omega
  ·rintro ⟨_,h⟩
   split
   ·rename_i e1
    subst e1
    have:j≠(g.th.getD s []).length-1:=fun e=>h (by rw [e])
    omega
   ·exact hj
 have hd:dropN g t s≤(g.th.getD s []).length:=by
  unfold dropN
  split
  ·rename_i e;rw [e];omega
  ·exact Nat.le_refl _
 rcases Nat.lt_trichotomy (kQ g (dropL g t) s) (dropN g t s) with h | h | h
 ·have:=(key (kQ g (dropL g t) s) (by omega)).1 h
  omega
 ·exact h
 ·have:=(key (dropN g t s) (by omega)).2 h
  omega
theorem drop_keep:keepM g (dropL g t)=dropG g t:=by
 have hC:=drop_cl (g:=g) (t:=t) hr
 have hlf:=hg.lfr
 have hlo:=hg.lord
 refine gr_ext rfl ?_ ?_ ?_
 ·refine List.ext_getElem (by show ((List.range _).map _).length=(g.th.set t _).length;rw [List.length_map,List.length_range,List.length_set]) fun s h1 h2=>?_
  have hs:s<g.th.length:=by
   have:s<(g.th.set t ((g.th.getD t []).take ((g.th.getD t []).length-1))).length:=h2
   rwa [List.length_set] at this
  have h3:=kth hg hC s hs
  rw [drop_kQ hg ht hn hr s hs] at h3
  have h4:(dropG g t).th.getD s []=if s=t then (g.th.getD t []).take ((g.th.getD t []).length-1) else g.th.getD s []:=getD_set' _ _ _ _ _ ht
  rw [←gD' (d:=[]) h1,←gD' (d:=[]) h2,h3,h4]
  unfold dropN
  split
  ·rename_i e;rw [e]
  ·rw [List.take_length]
 ·refine List.ext_getElem (by show ((List.range _).map _).length=(g.fr.set t _).length;rw [List.length_map,List.length_range,List.length_set,hlf]) fun s h1 h2=>?_
  have hs:s<g.th.length:=by
   have:s<(g.fr.set t ((g.fr.getD t []).take ((g.th.getD t []).length-1))).length:=h2
   rw [List.length_set] at this;omega
  have h3:=kfr hg hC s hs
  rw [drop_kQ hg ht hn hr s hs] at h3
  have h4:(dropG g t).fr.getD s []=if s=t then (g.fr.getD t []).take ((g.th.getD t []).length-1) else g.fr.getD s []:=getD_set' _ _ _ _ _ (by omega)
  rw [←gD' (d:=[]) h1,←gD' (d:=[]) h2,h3,h4]
  unfold dropN
  split
  ·rename_i e;rw [e]
  ·rw [←(hg.events s hs).1,List.take_length]
 ·show List.map (keepO _) g.ord=List.map _ g.ord
  refine List.map_congr_left fun o ho=>?_
  unfold keepO
  refine List.filter_congr fun d hd=>?_
  obtain ⟨x,hx,rfl⟩:=List.getElem_of_mem ho
  rw [←gD' (d:=[]) hx] at hd
  obtain ⟨_,h2,_⟩:=(ordered_iff g x).1 (hg.orders x (by omega))
  obtain ⟨ev,q1,q2,_⟩:=isW_event (h2 d hd)
  have hT:evT g d:=by
   unfold eventM at q1
   rw [if_neg q2] at q1
   split at q1
   ·rename_i hc;exact ⟨by omega,hc.2.1,hc.2.2.1,hc.2.2.2⟩
   ·cases q1
  rw [decide_eq_decide,dropL_in]
  exact ⟨fun h=>h.2,fun h=>⟨hT,h⟩⟩
omit hg in
theorem drop_okM {m:Int} (h:okM m g=true):okM m (dropG g t)=true:=by
 have hg:=okM_gok h
 have hC:=drop_cl (g:=g) (t:=t) hr
 have hk:=k_ok hg hC
 have E:=k_emb hg hC
 rw [drop_keep hg ht hn hr] at hk E
 unfold okM at h ⊢
 rw [Bool.and_eq_true,Bool.and_eq_true] at h ⊢
 refine ⟨h.1,decide_eq_true hk,?_⟩
 have h2:=h.2.2
 unfold allHold at h2 ⊢
 rw [List.all_eq_true] at h2 ⊢
 intro k hkk
 have h3:=h2 k hkk
 cases hb:(fltM (viewG (dropG g t)) (nG (dropG g t)) k).br with
 | false=>rfl
 | true=>
  rw [flt_emb E (viewG_wf hk) (viewG_wf hg) k hb] at h3
  cases h3
end
end Go.AL.Rl
namespace Go.AL.Rl
open Go Go.AL Go.Proofs
set_option maxRecDepth 100000
set_option maxHeartbeats 3200000
variable {γ:Nat→Option AV}
end Go.AL.Rl
namespace Go.AL.Rl
open Go Go.AL Go.Proofs
set_option maxRecDepth 100000
set_option maxHeartbeats 3200000
variable {γ:Nat→Option AV}
def vB:Vw:=⟨[⟨0,0⟩,⟨0,1⟩,⟨1,0⟩,⟨1,1⟩,⟨2,0⟩,⟨2,1⟩],[⟨2,0,1,0,0⟩,⟨2,1,1,0,0⟩,⟨2,0,5,0,1⟩,⟨1,1,5,0,0⟩,⟨2,1,5,0,1⟩,⟨1,0,5,0,0⟩],[-1,-1,-1,1,-1,0],[0,0,1,-1,1,-1]⟩
theorem gBok:GOk gB:=by decide +kernel
theorem gBv:viewG gB=vB:=by
 unfold viewG vB
 simp only [Vw.mk.injEq]
 decide +kernel
theorem gBn:nG gB=6:=rfl
theorem rdB:Rd gB:=by
 refine ⟨by simp [gB],by simp [gB],by simp [gB],by simp [gB],?_,?_,?_⟩<;>simp [gB]
theorem swB:swF vB 6=[0,0,0,0,0,0]:=by rw [swC_eq (by omega) (by decide +kernel)];decide +kernel
theorem hbB:hbF vB 6=[60,60,8,0,32,0]:=by unfold hbF;rw [swB];decide +kernel
theorem fB1:(fltM vB 6 1).br=false:=rfl
theorem fB2:(fltM vB 6 2).br=false:=by show (updF vB 6).br=false;decide +kernel
theorem fB3:(fltM vB 6 3).br=false:=by show (circF (porfF vB 6)).br=false;decide +kernel
theorem fB4:(fltM vB 6 4).br=false:=by show (circF (hbF vB 6)).br=false;rw [hbB];decide +kernel
theorem fB5:(fltM vB 6 5).br=false:=by show (cohF (hbF vB 6) (ecoF vB 6)).br=false;rw [hbB];decide +kernel
theorem fB6:(fltM vB 6 6).br=true∧(fltM vB 6 6).a=2∧(fltM vB 6 6).b = -1:=by
 show (circF (plusM 6 (togF vB 6))).br=true∧(circF (plusM 6 (togF vB 6))).a=2∧(circF (plusM 6 (togF vB 6))).b = -1
 decide +kernel
theorem wB2:Pure Try.prog γ false 18 [.i fun _=>2,aGr gB] (aBk ⟨0,0,0,false⟩):=by
 have k:=why_yes (γ:=γ) 2 [1,2,3,4,5] gB (.inr rfl) (by simp) (by decide) rules_yes2 rdB gBok
 rw [gBv,gBn] at k
 have e:[1,2,3,4,5].find? (fun k=>(fltM vB 6 k).br)=none:=by simp [List.find?,fB1,fB2,fB3,fB4,fB5]
 rw [e] at k
 exact k
theorem wB1:Pure Try.prog γ false 18 [.i fun _=>1,aGr gB] (aBk ⟨6,2,-1,true⟩):=by
 have k:=why_yes (γ:=γ) 1 [1,2,6] gB (.inl rfl) (by simp) (by decide) rules_yes1 rdB gBok
 rw [gBv,gBn] at k
 have e:[1,2,6].find? (fun k=>(fltM vB 6 k).br)=some 6:=by simp [List.find?,fB1,fB2,fB6]
 rw [e] at k
 simp only [fB6.2.1,fB6.2.2] at k
 exact k
theorem cB2:Pure Try.prog γ false 12 [.i fun _=>2,aGr gB] (.tup [.b fun _=>true,.i fun _=>0]):=by
 have k:=mcheck_ok (γ:=γ) 2 gB _ wB2
 simpa using k
theorem cB1:Pure Try.prog γ false 12 [.i fun _=>1,aGr gB] (.tup [.b fun _=>false,.i fun _=>0]):=by
 have k:=mcheck_ok (γ:=γ) 1 gB _ wB1
 simpa using k
theorem lives16_ok:Pure Try.prog γ false 5 [] (.b fun _=>true):=by
 have kb:=buffers_ok (γ:=γ)
 have k1:=cB1 (γ:=γ)
 have k2:=cB2 (γ:=γ)
 have k3:=wB1 (γ:=γ)
 generalize gB=g at *
 refine Pure.go (ty:=ty) ty_eq mo Try.func5 rfl Try.ntmps5 Try.results5 Try.call5 (by simp) fun P C CQ D W F E hF=>?_
 cbv
 repeat' (first
  |(refine E.c (SCalls.of_le (k3) ?_ ?_);(· (cbv;(try simp only [nc] at *);first|done|(simp;done)|(simp (disch:=(first|omega|(simp only [lnS];omega))) only [rdT,rdS,anT];first|done|omega|(refine ⟨?_,?_⟩<;>omega))|(simp (disch:=(first|omega|(simp only [lnS];omega))) [rdT,rdS];done)));cbv)
  |(refine E.c (SCalls.of_le (k2) ?_ ?_);(· (cbv;(try simp only [nc] at *);first|done|(simp;done)|(simp (disch:=(first|omega|(simp only [lnS];omega))) only [rdT,rdS,anT];first|done|omega|(refine ⟨?_,?_⟩<;>omega))|(simp (disch:=(first|omega|(simp only [lnS];omega))) [rdT,rdS];done)));cbv)
  |(refine E.c (SCalls.of_le (k1) ?_ ?_);(· (cbv;(try simp only [nc] at *);first|done|(simp;done)|(simp (disch:=(first|omega|(simp only [lnS];omega))) only [rdT,rdS,anT];first|done|omega|(refine ⟨?_,?_⟩<;>omega))|(simp (disch:=(first|omega|(simp only [lnS];omega))) [rdT,rdS];done)));cbv)
  |(refine E.c (SCalls.of_le (kb) ?_ ?_);(· (cbv;(try simp only [nc] at *);first|done|(simp;done)|(simp (disch:=(first|omega|(simp only [lnS];omega))) only [rdT,rdS,anT];first|done|omega|(refine ⟨?_,?_⟩<;>omega))|(simp (disch:=(first|omega|(simp only [lnS];omega))) [rdT,rdS];done)));cbv)
  |(refine ⟨fun _ h_s=>?_,fun _ h_s=>?_⟩<;>(cbv;(try simp only [nc] at *);try simp (disch:=(first|omega|(simp only [lnS];omega))) only [rdT,rdS,reduceCtorEq,trT] at h_s))
  |(refine hF ?_;intro _;clear hF)
  |(refine hF ?_;cbv;clear hF)
  |(refine ⟨fun _=>?_,?_⟩;(· ((try simp only [nc] at *);first|done|omega|exact ⟨by omega,rfl⟩|(simp (disch:=(first|omega|(simp only [lnS];omega))) only [rdT,rdS];first|done|omega|rfl|exact ⟨by omega,rfl⟩|(simp;done)|(simp;omega))|(intros;trivial)));(try (simp only [nc] at *));(try simp (disch:=(first|omega|(simp only [lnS];omega))) only [rdT,rdS]);(try cbv))
  | fail
 )
 all_goals first
  | (simp;done)
  | (exfalso;revert h_s;simp;done)
end Go.AL.Rl
namespace Go.AL
open Go Go.RowKit
section
variable {P:Program} {γ:Nat→Option AV}
theorem run_copy_row {t e ty:TypeId} {i:TypeInfo} (ht:P.underlying t=some (.slice e)) (hi:P.info? e=some i) {K:Nat} {C:List Value} {ct:TypeId} {w:World}
  (hK:w.heap[K]?=some (.cells C.toArray ct (0,0))) (d dn dc sb so sn sc:Nat) (xs:List Value)
  (hm:min sn dn=xs.length) (h2:∀ e∈xs,e.cells.size=i.size) (h1:∀ e∈xs,∀ u∈e.cells.toList,u.oneCell'=true)
  (hsrc:∀ (j:Nat) (c:Value),(flat xs)[j]?=some c→w.cell? ⟨sb,so+j,none⟩=some c) (hfit:d+(flat xs).length≤C.length) :
  (Builtin.copy_ #[t,t] ty #[.slice (some ⟨K,d,none⟩) dn dc,.slice (some ⟨sb,so,none⟩) sn sc]).run P w=.ok (.int .i64 (xs.length:Nat)) (w.setRow K (C.take d++flat xs++C.drop (d+(flat xs).length)).toArray):=by
 have hfn:=run_firstCells' (P:=P) (a:=some ⟨sb,so,none⟩) (cap:=sc) (w:=w) h2 (.inr ⟨sb,so,rfl,hsrc⟩) xs.length (Nat.le_refl _)
 rw [List.take_length] at hfn
 have hone:∀ u∈flat xs,u.oneCell'=true:=by
  intro u hu
  simp only [flat,List.mem_flatten,List.mem_map] at hu
  obtain ⟨l,⟨e,he,rfl⟩,hu⟩:=hu
  exact h1 e he u hu
 have hst:=run_storeCells_at P K d ct (flat xs) 0 C.toArray w hK (by simpa using hfit) hone
 simp only [Nat.add_zero] at hst
 have hr:=run_copy' (P:=P) (ty:=ty) (ts:=#[t,t]) ht hi (some ⟨K,d,none⟩) (some ⟨sb,so,none⟩) dn dc sn sc (flat xs) w _ (by
  rw [hm]
  simp only [Builtin.firstCells] at hfn ⊢
  exact hfn) hst rfl
 rw [hm] at hr
 exact hr
theorem flat_dropl {sz:Nat} {evs:List Value} (h:∀ e∈evs,e.cells.size=sz) (i:Nat):(flat (evs.drop i)).length=(evs.length-i) * sz:=by
 rw [flat_length fun e he=>h e (List.mem_of_mem_drop he),List.length_drop]
theorem flat_one {sz:Nat} {x:Value} (h:x.cells.size=sz):(flat [x]).length=sz:=by simp [flat,h]
theorem row_shift {sz i:Nat} {evs R:List Value} {x:Value} (h:∀ e∈evs,e.cells.size=sz) (hx:x.cells.size=sz) (hi:i<evs.length) (C1:List Value)
  (h1:C1=(flat evs++R).take ((i+1) * sz)++flat (evs.drop i)++(flat evs++R).drop ((i+1) * sz+(flat (evs.drop i)).length)) :
  C1.take (i * sz)++flat [x]++C1.drop (i * sz+(flat [x]).length)=flat (evs.take i++[x]++evs.drop i)++R.drop sz:=by
 have l0:=flat_length h
 have l1:=flat_dropl h i
 have l2:=flat_one hx
 have m1:(i+1) * sz≤evs.length * sz:=Nat.mul_le_mul_right _ hi
 have m2:(i+1) * sz=i * sz+sz:=by rw [Nat.add_mul,Nat.one_mul]
 have m3:(i+1) * sz+(evs.length-i) * sz=evs.length * sz+sz:=by
  rw [←Nat.add_mul,show i+1+(evs.length-i)=evs.length+1 by omega,Nat.add_mul,Nat.one_mul]
 have e1:C1.take (i * sz)=flat (evs.take i):=by
  rw [h1,List.append_assoc,List.take_append_of_le_length (by rw [List.length_take,List.length_append,l0];omega),List.take_take,Nat.min_eq_left (by omega),List.take_append_of_le_length (by rw [l0];omega)]
  exact flat_take h i (by omega)
 have e2:C1.drop (i * sz+sz)=flat (evs.drop i)++R.drop sz:=by
  rw [h1,List.append_assoc,List.drop_append_of_le_length (by rw [List.length_take,List.length_append,l0];omega),List.drop_of_length_le (by rw [List.length_take];omega),List.nil_append,l1,m3,List.drop_append,List.drop_of_length_le (l:=flat evs) (by rw [l0];omega),List.nil_append,l0,Nat.add_sub_cancel_left]
 rw [l2,e1,e2,flat_append,flat_append]
 simp [List.append_assoc]
theorem row_anew {sz i:Nat} {evs Z:List Value} {x:Value} (h:∀ e∈evs,e.cells.size=sz) (hx:x.cells.size=sz) (hi:i<evs.length) (hZ:(evs.length+1-i) * sz≤Z.length) (C1:List Value)
  (h1:C1=(flat (evs.take i)++Z).take (i * sz)++flat [x]++(flat (evs.take i)++Z).drop (i * sz+(flat [x]).length)) :
  C1.take ((i+1) * sz)++flat (evs.drop i)++C1.drop ((i+1) * sz+(flat (evs.drop i)).length)=flat (evs.take i++[x]++evs.drop i)++Z.drop ((evs.length+1-i) * sz):=by
 have l0:(flat (evs.take i)).length=i * sz:=by rw [flat_length fun e he=>h e (List.mem_of_mem_take he),List.length_take];congr 1;omega
 have l1:=flat_dropl h i
 have l2:=flat_one hx
 have m2:(i+1) * sz=i * sz+sz:=by rw [Nat.add_mul,Nat.one_mul]
 have m3:(evs.length+1-i) * sz=sz+(evs.length-i) * sz:=by
  rw [show evs.length+1-i=1+(evs.length-i) by omega,Nat.add_mul,Nat.one_mul]
 have e0:C1=flat (evs.take i)++flat [x]++Z.drop sz:=by
  rw [h1,l2,List.take_append_of_le_length (by omega),List.take_of_length_le (by omega),List.drop_append,List.drop_of_length_le (by omega),List.nil_append,l0,Nat.add_sub_cancel_left]
 have e1:C1.take ((i+1) * sz)=flat (evs.take i)++flat [x]:=by
  rw [e0,List.take_append_of_le_length (by rw [List.length_append];omega),List.take_of_length_le (by rw [List.length_append];omega)]
 have e2:C1.drop ((i+1) * sz+(evs.length-i) * sz)=Z.drop ((evs.length+1-i) * sz):=by
  rw [e0,List.drop_append,List.drop_of_length_le (by rw [List.length_append];omega),List.nil_append,List.length_append,l0,l2,List.drop_drop]
  congr 1;omega
 rw [l1,e1,e2,flat_append,flat_append]
theorem prefix_of_get {l c:List Value} (h:∀ (j:Nat) (x:Value),l[j]?=some x→c[j]?=some x):∃ R,c=l++R:=by
 obtain ⟨R,hR⟩:l <+: c:=List.prefix_iff_getElem?.2 fun i hi=>h i _ (List.getElem?_eq_getElem hi)
 exact ⟨R,hR.symm⟩
theorem flat_of_rows {q:Nat} (hq:0<q) {evs:List Value} {c:Array Value} (h:∀ (i:Nat) (e:Value),evs[i]?=some e→e.cells.size=q∧∀ (j:Nat) (x:Value),e.cells[j]?=some x→c[i * q+j]?=some x) :
  (∀ e∈evs,e.cells.size=q)∧∃ R,c.toList=flat evs++R:=by
 have hs:∀ e∈evs,e.cells.size=q:=fun e he=>by
  obtain ⟨i,hi,rfl⟩:=List.mem_iff_getElem.1 he
  exact (h i _ (List.getElem?_eq_getElem hi)).1
 refine ⟨hs,prefix_of_get fun j x hj=>?_⟩
 have hl:=flat_length hs
 have hjl:=(List.getElem?_eq_some_iff.1 hj).1
 have hd:=Nat.div_add_mod j q
 have hm:=Nat.mod_lt j hq
 have hi:j / q<evs.length:=(Nat.div_lt_iff_lt_mul hq).2 (by rw [←hl];exact hjl)
 have h1:=h (j / q) _ (List.getElem?_eq_getElem hi)
 have hk:j % q<evs[j / q].cells.size:=by rw [h1.1];exact hm
 have h2:=h1.2 (j % q) _ (Array.getElem?_eq_getElem hk)
 have h3:=flat_get hs (List.getElem?_eq_getElem hi) (Array.getElem?_eq_getElem hk)
 have e1:j / q * q+j % q=j:=by rw [Nat.mul_comm];exact hd
 rw [e1] at h2 h3
 rw [hj] at h3
 rw [h3,←h2];simp
theorem own_row {B:Nat} {S:Nat→Prop} {ρ:List Loc} {h:List Blk} {w:World} (hh:HeapR B S γ ρ h w) {b g q:Nat} {es:Unit→LV} (hb:h[b]?=some (.run g q es)) {v:Value} {len:Unit→Nat}
  (hv:R S w (some ρ) (.sl b g q (fun _=>0) len) v) (hlen:(es ()).l.length=len ()) (hpos:0<len ()) (hq:0<q) :
  ∃ loc K cap evs Z ct,ρ[b]?=some loc∧loc.k=some K∧loc.g=g∧loc.e=q∧loc.box=false∧v=.slice (some ⟨K,0,none⟩) (len ()) cap∧len ()≤cap∧cap * q≤loc.size∧RL S w (es ()) evs∧evs.length=len () ∧
   (∀ e∈evs,∀ u∈e.cells.toList,u.oneCell'=true)∧(∀ e∈evs,e.cells.size=q)∧w.heap[K]?=some (.cells (flat evs++Z).toArray ct (0,0))∧(flat evs++Z).length=loc.size∧K<w.heap.size:=by
 obtain ⟨_,loc,a,cap,e,q1,q2,q3,q4,rfl,q6,q7,q8⟩:=hv
 cases e
 obtain ⟨d1,d2,d3,evs,d4,d5,d6⟩:=hh.blk b _ loc hb q1
 have hel:evs.length=len ():=(Rs_len ((RL_iff _ _ _ _).1 d4)).trans hlen
 rcases d6 with ⟨_,rfl⟩ | ⟨K,c,ct,k1,k2,k3,k4,k5⟩
 ·simp only [List.length_nil] at hel;omega
 obtain ⟨f1,Z,f2⟩:=flat_of_rows (q:=loc.e) (by omega) k5
 have hc:c=(flat evs++Z).toArray:=by rw [←f2]
 subst hc
 rcases q8 d2 with ⟨_,r2,_⟩ | ⟨K',r1,r2,r3⟩
 ·omega
 rw [k1] at r1
 cases r1
 rcases r2 with r2 | rfl
 ·omega
 refine ⟨loc,K,cap,evs,Z,ct,q1,k1,d2,d3,q2,by rw [Nat.zero_mul],q6,?_,d4,hel,d5,fun e he=>by rw [f1 e he,d3],k2,by rw [←k3];simp,(hh.own b loc K q1 (.inl k1)).2.1⟩
 rw [d3,Nat.zero_add] at r3;exact r3
theorem RL_insert {S:Nat→Prop} {w:World} {l:List AV} {x:AV} {evs:List Value} {xv:Value} (h:RL S w (LV.of l) evs) (hx:R S w none x xv) (i:Nat):RL S w (LV.of (l.take i++x :: l.drop i)) (evs.take i++[xv]++evs.drop i):=by
 rw [RL_iff,LV.l_of] at h ⊢
 rw [List.append_assoc]
 exact Rs_append (Rs_take h i) (Rs_append (cs:=[x]) ⟨xv,[],rfl,hx,rfl⟩ (Rs_drop h i))
theorem SCalls.insert {f:FuncId} {ty:TypeId} {q:Nat} (hq:0<q) (he:Enters P f)
  (room:∀ (K n cap i Kv vo vc:Nat) (evs R:List Value) (ct:TypeId) (x:Value) (w:World),w.heap[K]?=some (.cells (flat evs++R).toArray ct (0,0))→Kv≠K→evs.length=n →
   (∀ e∈evs,e.cells.size=q)→(∀ e∈evs,∀ u∈e.cells.toList,u.oneCell'=true)→x.cells.size=q→(∀ u∈x.cells.toList,u.oneCell'=true)→(∀ (j:Nat) (c:Value),x.cells[j]?=some c→w.cell? ⟨Kv,vo+j,none⟩=some c)→i<n→n+1≤cap→q≤R.length→n≤1000000 →
   ∃ w',(Fr w w'∧(∀ k,k≠K→w'.heap[k]?=w.heap[k]?)∧w'.heap[K]?=some (.cells (flat (evs.take i++[x]++evs.drop i)++R.drop q).toArray ct (0,0))) ∧
   Calls P f #[.slice (some ⟨K,0,none⟩) n cap,.int .i64 i,.slice (some ⟨Kv,vo,none⟩) 1 vc] w fun e w1=>e=.returned (.slice (some ⟨K,0,none⟩) (n+1) cap)∧w1=w')
  (grow:∀ (K n cap i Kv vo vc:Nat) (evs R:List Value) (ct:TypeId) (x:Value) (w:World),w.heap[K]?=some (.cells (flat evs++R).toArray ct (0,0))→Kv≠K→evs.length=n →
   (∀ e∈evs,e.cells.size=q)→(∀ e∈evs,∀ u∈e.cells.toList,u.oneCell'=true)→x.cells.size=q→(∀ u∈x.cells.toList,u.oneCell'=true)→(∀ (j:Nat) (c:Value),x.cells[j]?=some c→w.cell? ⟨Kv,vo+j,none⟩=some c)→i<n→n≤cap→cap<n+1→n≤1000000 →
   Calls P f #[.slice (some ⟨K,0,none⟩) n cap,.int .i64 i,.slice (some ⟨Kv,vo,none⟩) 1 vc] w fun e w1=>
    ∃ G R',n+1≤G∧R'.length=(G-(n+1)) * q∧e=.returned (.slice (some ⟨w.heap.size,0,none⟩) (n+1) G)∧Fr w w1∧w.heap.size<w1.heap.size∧(∀ k,k<w.heap.size→w1.heap[k]?=w.heap[k]?) ∧
    w1.heap[w.heap.size]?=some (.cells (flat (evs.take i++[x]++evs.drop i)++R').toArray ty (0,0)))
  {h:List Blk} {b g i n:Nat} {l:List AV} {x:AV} {es vs:Unit→LV} {j:Unit→Int} {m:Unit→Nat} (hb:h[b]?=some (.run g q es)) (hes:es ()=LV.of l) (hvs:vs ()=LV.of [x]) (hn:l.length=n) (hm:m ()=n)
  (hj:j ()=i) (hxf:x.flat=true) (hi:i<n) (hn6:n≤1000000) {Q:AV→List Blk→Prop} (hQ:Q (.sl b (g+1) q (fun _=>0) fun _=>n+1) (h.set b (.run (g+1) q fun _=>LV.of (l.take i++x :: l.drop i)))) :
  SCalls P γ f [.sl b g q (fun _=>0) m,.i j,.vs q vs] h Q:=by
 refine ⟨he,fun B S ρ w vals hh hargs=>?_⟩
 obtain ⟨v1,_,rfl,hv1,v2,_,rfl,hv2,v3,_,rfl,hv3,rfl⟩:=hargs
 have hv2:v2=.int .i64 i:=by rw [←hj];exact hv2
 subst hv2
 obtain ⟨loc,K,cap,evs,Z,ct,a1,a2,a3,a4,a5,rfl,a6,a7,a8,a9,a10,a11,a12,a13,a14⟩:=own_row hh hb hv1 (by rw [hes,LV.l_of,hm,hn]) (by omega) hq
 rw [hm] at a6 a9 ⊢
 rw [hes] at a8
 obtain ⟨av,cap',evs',rfl,_,b8,b9⟩:=hv3
 rw [hvs] at b8
 have hl1:evs'.length=1:=Rs_len ((RL_iff _ _ _ _).1 b8)
 have hx1':=onecells_of b8 (by rw [LV.l_of];intro v hv;rw [List.mem_singleton.1 hv];exact hxf)
 obtain ⟨xv,rfl⟩:=List.length_eq_one_iff.1 hl1
 have hxR:R S w none x xv:=by
  obtain ⟨_,_,e,h1,h2⟩:=b8
  cases e;exact h1
 rcases b9 with b9 | ⟨ad,rfl,had,hSa,hcell⟩
 ·cases b9
 obtain ⟨K',vo,sp⟩:=ad
 simp only at had hSa
 subst had
 have hKK:K'≠K:=fun e=>(hh.own b loc K a1 (.inl a2)).1 (e ▸ hSa)
 have hx2:=(hcell 0 xv rfl).1
 have hx1:=hx1' xv (by simp)
 have hxV:∀ (j:Nat) (c:Value),xv.cells[j]?=some c→w.cell? ⟨K',vo+j,none⟩=some c:=fun j c hc=>by
  have:=(hcell 0 xv rfl).2 j c hc
  rw [Nat.zero_mul,Nat.zero_add] at this
  exact this
 have fl:=flat_length a11
 have hone:∀ e∈evs.take i++[xv]++evs.drop i,∀ u∈e.cells.toList,u.oneCell'=true:=fun e he=>by
  rcases List.mem_append.1 he with he | he
  ·rcases List.mem_append.1 he with he | he
   ·exact a10 e (List.mem_of_mem_take he)
   ·rw [List.mem_singleton.1 he];exact hx1
  ·exact a10 e (List.mem_of_mem_drop he)
 have hsz:∀ e∈evs.take i++[xv]++evs.drop i,e.cells.size=q:=fun e he=>by
  rcases List.mem_append.1 he with he | he
  ·rcases List.mem_append.1 he with he | he
   ·exact a11 e (List.mem_of_mem_take he)
   ·rw [List.mem_singleton.1 he];exact hx2
  ·exact a11 e (List.mem_of_mem_drop he)
 have hlen:(evs.take i++[xv]++evs.drop i).length=n+1:=by simp;omega
 have fl2:=flat_length hsz
 rw [hlen] at fl2
 have hblt:=(List.getElem?_eq_some_iff.1 a1).1
 by_cases hroom:n+1≤cap
 ·have hmul:(n+1) * q≤cap * q:=Nat.mul_le_mul_right _ hroom
  rw [Nat.add_mul,Nat.one_mul] at hmul
  rw [List.length_append,fl,a9] at a13
  obtain ⟨w',⟨c1,c2,c3⟩,c4⟩:=room K n cap i K' vo cap' evs Z ct xv w a12 hKK a9 a11 a10 hx2 hx1 hxV hi hroom (by omega) hn6
  refine c4.mono fun e w1 ⟨h1,h2⟩=>?_
  subst h2
  have hS:SameOn S w w1:=fun k hk=>c2 k fun e=>(hh.own b loc K a1 (.inl a2)).1 (e ▸ hk)
  have hup:=hh.upd (loc':={ loc with g:=g+1 }) (blk':=.run (g+1) q fun _=>LV.of (l.take i++x :: l.drop i)) (w':=w1) a1 (.inr (.inl ⟨a5,a5,by show loc.g<g+1;omega,rfl⟩)) (fun K' hK'=>.inl hK') c1
   (fun k _ hk=>c2 k fun e=>hk (by rw [a2,e])) (by
   refine ⟨a5,rfl,a4,_,RL.mono (fun _ h=>h) hS _ _ (RL_insert a8 hxR i),hone,.inr ⟨K,_,ct,a2,c3,?_,?_,?_⟩⟩
   ·rw [List.size_toArray,List.length_append,fl2,List.length_drop,Nat.add_mul,Nat.one_mul];show _=loc.size;omega
   ·show _ * loc.e≤loc.size
    rw [hlen,a4,Nat.add_mul,Nat.one_mul];omega
   ·show ∀ (i:Nat) (e:Value),_→e.cells.size=loc.e∧∀ (j:Nat) (x:Value),_→_[i * loc.e+j]?=_
    rw [a4];exact grown_row hsz _)
  exact ⟨_,_,S,_,_,h1,hQ,⟨_,{ loc with g:=g+1 },_,cap,rfl,by rw [List.getElem?_set_self hblt],a5,a4,Nat.le_refl _,rfl,hroom,.inr ⟨_,_,rfl⟩,fun _=>.inr ⟨K,a2,.inr (by rw [Nat.zero_mul]),by rw [Nat.zero_add];show cap * loc.e≤loc.size;rw [a4];exact a7⟩⟩,hup.1,hup.2⟩
 ·refine (grow K n cap i K' vo cap' evs Z ct xv w a12 hKK a9 a11 a10 hx2 hx1 hxV hi a6 (by omega) hn6).mono fun e w1 ⟨G,R',c1,c2,c3,c4,c5,c6,c7⟩=>?_
  have hS:SameOn S w w1:=fun k hk=>c6 k (hh.sle k hk)
  have hG:(n+1) * q+(G-(n+1)) * q=G * q:=by rw [←Nat.add_mul];congr 1;omega
  have hup:=hh.upd (loc':=⟨false,g+1,some w.heap.size,q,G * q,[]⟩) (blk':=.run (g+1) q fun _=>LV.of (l.take i++x :: l.drop i)) (w':=w1) a1 (.inr (.inl ⟨a5,rfl,by show loc.g<g+1;omega,a4⟩)) (fun K' hK'=>by cases hK';exact .inr ⟨Nat.le_refl _,c5⟩) c4
   (fun k hk _=>c6 k hk) (by
   refine ⟨rfl,rfl,rfl,_,RL.mono (fun _ h=>h) hS _ _ (RL_insert a8 hxR i),hone,.inr ⟨w.heap.size,_,ty,rfl,c7,?_,?_,?_⟩⟩
   ·rw [List.size_toArray,List.length_append,fl2,c2];exact hG
   ·show _ * q≤G * q
    rw [hlen];exact Nat.mul_le_mul_right _ c1
   ·exact grown_row hsz _)
  exact ⟨_,_,S,_,_,c3,hQ,⟨_,_,_,G,rfl,by rw [List.getElem?_set_self hblt],rfl,rfl,Nat.le_refl _,rfl,c1,.inr ⟨_,_,rfl⟩,fun _=>.inr ⟨w.heap.size,rfl,.inr (by rw [Nat.zero_mul]),by rw [Nat.zero_add];exact Nat.le_refl _⟩⟩,hup.1,hup.2⟩
theorem SCalls.ghostNest {f:FuncId} {args args':List AV} {q g b:Nat} {ess:Unit→List LV} {len:Unit→Nat} {h:List Blk} {es0:Unit→LV} (ho:Owns P γ f args' (.sl 0 0 1 (fun _=>0) len) [.nest 0 q ess none]) (hs:leVs 0 args' args)
  (hb:h[b]?=some (.run g 1 es0)):SCalls P γ f args h fun v h''=>v=.sl b (g+1) 1 (fun _=>0) len∧h''=h.set b (.nest (g+1) q ess none):=by
 refine ⟨ho.1,fun B S ρ w vals hh hr=>?_⟩
 have hh0:HeapR w.heap.size S γ [] [] w:=⟨rfl,fun b blk loc h _=>by simp at h,fun b loc K h _=>by simp at h,fun b b' loc loc' K h _ _ _=>by simp at h,hh.sle,hh.gok,Nat.le_refl _,fun b loc h=>by simp at h⟩
 have hr0:Rs S w (some []) args' vals:=Rs_stable (m:=some (ρ.take 0)) (m':=some []) _ _ (leVs_stable _ _ hs) (Rs_le _ _ _ hs hr)
 refine (ho.2 w.heap.size S [] w vals hh0 hr0).mono fun e w' ⟨v',h',S',ρ',val,h1,⟨h2,h3⟩,h4,h5,h6⟩=>?_
 have hv:=R_le _ _ _ h2 h4
 have hbk:=h5.le h3 rfl
 generalize hρ:ρ'.take [Blk.nest 0 q ess none].length=ρ2 at hv hbk
 obtain ⟨l,loc,a,cap,hl,c1,c2,c3,c4,c5,c6,c7,c8⟩:=hv
 cases hl
 obtain ⟨d1,d2,d3,evs,d4,d5,d6,d7⟩:=hbk.blk 0 _ loc rfl c1
 have hlt:b<ρ.length:=by rw [hh.len];exact (List.getElem?_eq_some_iff.1 hb).1
 obtain ⟨loc0,hl0⟩:∃ loc0,ρ[b]?=some loc0:=⟨_,List.getElem?_eq_getElem hlt⟩
 obtain ⟨f1,f2,f3,_⟩:=hh.blk b _ _ hb hl0
 have hup:loc0.up { loc with g:=g+1 }:=.inr (.inl ⟨f1,d1,by show loc0.g<g+1;omega,by show loc0.e=loc.e;rw [f3];exact d3.symm⟩)
 have hlocs:=LocsUp.set1 hl0 hup
 have hsz:=h6.fr.size
 have old:∀ (b:Nat) (loc:Loc) (K:Nat),ρ[b]?=some loc→loc.has K→¬ S' K∧K<w.heap.size∧B≤K:=fun b loc K e1 e2=>by
  obtain ⟨m1,m2,m3⟩:=hh.own b loc K e1 e2
  refine ⟨fun hs'=>?_,m2,m3⟩
  rcases h6.grow K hs' with h7 | h7
  ·exact m1 h7
  ·omega
 have which:∀ (c:Nat) (l:Loc),(ρ.set b { loc with g:=g+1 })[c]?=some l→(c=b∧l={ loc with g:=g+1 })∨(c≠b∧ρ[c]?=some l):=fun c l e=>by
  by_cases hc:b=c
  ·subst hc
   rw [List.getElem?_set_self hlt] at e
   cases e;exact .inl ⟨rfl,rfl⟩
  ·rw [List.getElem?_set_ne hc] at e;exact .inr ⟨fun h=>hc h.symm,e⟩
 refine ⟨_,_,S',ρ.set b { loc with g:=g+1 },val,h1,⟨rfl,rfl⟩,?_,?_,?_⟩
 ·exact ⟨_,_,a,cap,rfl,List.getElem?_set_self hlt,d1,c3,Nat.le_refl _,c5,c6,c7,fun _=>c8 d2⟩
 ·refine ⟨by simp [hh.len],fun c blk l e1 e2=>?_,fun c l K e1 e2=>?_,fun c c' l l' K e1 e2 e3 e4=>?_,h5.sle,h5.gok,Nat.le_trans hh.bsz hsz,fun c l e1=>?_⟩
  ·rcases which c l e2 with ⟨rfl,rfl⟩ | ⟨hc,e2⟩
   ·rw [List.getElem?_set_self (List.getElem?_eq_some_iff.1 hb).1] at e1
    cases e1
    exact ⟨d1,rfl,d3,evs,d4,d5,d6,d7⟩
   ·rw [List.getElem?_set_ne (fun h=>hc h.symm)] at e1
    exact (hh.blk c blk l e1 e2).mono h6.sub h6.same hlocs fun K hK=>h6.below K (old c l K e2 hK).2.1
  ·rcases which c l e1 with ⟨rfl,rfl⟩ | ⟨hc,e1⟩
   ·obtain ⟨m1,m2,m3⟩:=hbk.own 0 loc K c1 e2
    exact ⟨m1,m2,Nat.le_trans hh.bsz m3⟩
   ·obtain ⟨m1,m2,m3⟩:=old c l K e1 e2
    exact ⟨m1,by omega,m3⟩
  ·rcases which c l e1 with ⟨q1,q2⟩ | ⟨hc,g1⟩<;>rcases which c' l' e2 with ⟨q3,q4⟩ | ⟨hc',g2⟩
   ·rw [q1,q3]
   ·subst q2
    have m:=(old c' l' K g2 e4).2.1;have m':=(hbk.own 0 loc K c1 e3).2.2;omega
   ·subst q4
    have m:=(old c l K g1 e3).2.1;have m':=(hbk.own 0 loc K c1 e4).2.2;omega
   ·exact hh.inj c c' l l' K g1 g2 e3 e4
  ·rcases which c l e1 with ⟨rfl,rfl⟩ | ⟨hc,e1⟩
   ·have:=hbk.sok 0 loc c1
    exact ⟨this.out,this.one⟩
   ·exact hh.sok c l e1
 ·exact ⟨h6.fr,fun k hk=>h6.below k (Nat.lt_of_lt_of_le hk hh.bsz),h6.sub,h6.same,hlocs,fun k hk=>(h6.grow k hk).imp id fun h=>Nat.le_trans hh.bsz h⟩
end
end Go.AL
namespace Go.AL
open Go Go.RowKit
section
variable {P:Program} {γ:Nat→Option AV}
theorem Step.short {A:St} (b:Nat) {g q:Nat} {es:Unit→LV} (k:Unit→Nat) (hb:A.h[b]?=some (.run g q es)):Step γ A ⟨A.n,A.s,A.h.set b (.run g q fun _=>LV.of ((es ()).l.take (k ())))⟩:=
 Step.heap fun B S ρ w hh=>by
  refine ⟨S,ρ,hh.retell b _ fun loc hl=>?_,Ext.refl _ _ _ _⟩
  obtain ⟨f1,f2,f3,evs,f4,f5,f6⟩:=hh.blk b _ loc hb hl
  refine ⟨f1,f2,f3,evs.take (k ()),?_,fun e he=>f5 e (List.mem_of_mem_take he),?_⟩
  ·rw [RL_iff] at f4 ⊢
   rw [LV.l_of]
   exact Rs_take f4 _
  ·rcases f6 with ⟨e1,rfl⟩ | ⟨K,c,ty,e1,e2,e3,e4,e5⟩
   ·exact .inl ⟨e1,by simp⟩
   ·refine .inr ⟨K,c,ty,e1,e2,e3,Nat.le_trans (Nat.mul_le_mul_right _ (by rw [List.length_take];exact Nat.min_le_right _ _)) e4,fun i e h=>e5 i e ?_⟩
    rw [List.getElem?_take] at h
    split at h
    ·exact h
    ·cases h
theorem st_go {K:St→Prop} {A A2:St} (h:Step γ A A2) (k:∃ A'',Step γ A2 A''∧K A''):∃ A'',Step γ A A''∧K A'':=by
 obtain ⟨A'',h1,h2⟩:=k
 exact ⟨A'',h.trans h1,h2⟩
theorem st_last {K:St→Prop} {A A2:St} (h:Step γ A A2) (k:K A2):∃ A'',Step γ A A''∧K A'':=⟨A2,h,k⟩
theorem st_J {J K:St→Prop} {A:St} (hJ:∀ {A' A''},Step γ A' A''→K A''→J A') (k:∃ A'',Step γ A A''∧K A''):J A:=by
 obtain ⟨A'',h1,h2⟩:=k
 exact hJ h1 h2
theorem Step.forget {A A':St} (hl:leSt A.h.length A' A) (hn:A'.h.length=A.h.length):Step γ A A':=fun B S ρ a w hs=>by
 obtain ⟨hs0,hg0⟩:=hs.le hl hn
 rw [List.take_of_length_le (by rw [hs.heap.len];omega)] at hs0
 exact ⟨_,ρ,hs0,Fr.refl w,fun _ _=>rfl,fun k hk=>.inl hk,fun _ _=>rfl,LocsUp.refl ρ,hg0⟩
end
end Go.AL
