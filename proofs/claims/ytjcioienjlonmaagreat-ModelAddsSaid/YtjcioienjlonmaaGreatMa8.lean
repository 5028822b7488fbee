import Derived.Test.YtjcioienjlonmaaGreatMa7
set_option linter.unusedVariables false
set_option linter.unusedSimpArgs false
namespace Go.AL.Rl
open Go Go.AL Go.Proofs
set_option maxRecDepth 100000
set_option maxHeartbeats 3200000
variable {γ:Nat→Option AV}
theorem wsw_ok (g:Gr) (h:GOk g):Pure Tryz.prog γ false 89 [pW g] (encRel (nG g:Nat) (swF (viewG g) (nG g))):=by
 have hn:=(viewG_wf h).small
 have hEl:=evsG_l g
 have hVl:(viewG g).ev=evsG g:=rfl
 have hfr0:=fun i hi=>fr_iff h i hi
 have hfrl:=(viewG_wf h).frl
 have q1:=wreads_ok (γ:=γ) g
 have q2:=wwrites_ok (γ:=γ) g
 have q3:=wacq_ok (γ:=γ) g
 have q4:=wrel_ok (γ:=γ) g
 have q5:=wsequence_ok (γ:=γ) g h
 have q6:=wfrom_ok (γ:=γ) g h
 have q7:=wpo_ok (γ:=γ) g
 have e1:∀ w,cwM (viewG g) w=(writesM ((evsG g).getD w ⟨0,0,0,0,0⟩) && decide (((evsG g).getD w ⟨0,0,0,0,0⟩).order≠1)):=fun _=>rfl
 have e2:∀ s b,rdrM (viewG g) s b=(readsM ((evsG g).getD b ⟨0,0,0,0,0⟩) && decide (((evsG g).getD b ⟨0,0,0,0,0⟩).order≠1) && s.getLsbD ((viewG g).fr.getD b 0).toNat):=fun _ _=>rfl
 have e3:∀ w r,crM (viewG g) w r=(relM ((evsG g).getD r ⟨0,0,0,0,0⟩) && (decide (r=w) || decide (((evsG g).getD r ⟨0,0,0,0,0⟩).kind=4) && poM (viewG g) r w)):=fun _ _=>rfl
 have e4:∀ b a,caM (viewG g) b a=(acqM ((evsG g).getD a ⟨0,0,0,0,0⟩) && (decide (a=b) || decide (((evsG g).getD a ⟨0,0,0,0,0⟩).kind=4) && poM (viewG g) b a)):=fun _ _=>rfl
 rw [hVl] at q1 q2 q3 q4
 obtain ⟨L,hL⟩:∃ L:Nat→Nat→Nat→Nat→List (Int × Int),∀ w b r a,L w b r a=lAll (viewG g) (nG g) w b r a:=⟨_,fun _ _ _ _=>rfl⟩
 obtain ⟨G,hG⟩:∃ G:List (Int × Int)→Nat,∀ l,G l=l.length:=⟨_,fun _=>rfl⟩
 have hG0:G []=0:=by rw [hG];rfl
 have l0:L 0 0 0 0=[]:=by rw [hL];rfl
 have lL:∀ w b r a,w≤nG g→b≤nG g→r≤nG g→a≤nG g→(L w b r a).length≤100000000:=fun w b r a h1 h2 h3 h4=>by rw [hL];exact lAll_len _ _ _ _ _ _ hn h1 h2 h3 h4
 have a1:∀ w b r a,caM (viewG g) b a=true→L w b r (a+1)=L w b r a++[((r:Int),(a:Int))]:=fun w b r a hc=>by rw [hL,hL];exact lAll_a1 _ _ _ _ _ _ hc
 have a0:∀ w b r a,¬ caM (viewG g) b a=true→L w b r (a+1)=L w b r a:=fun w b r a hc=>by rw [hL,hL];exact lAll_a0 _ _ _ _ _ _ hc
 have r1:∀ w b r,crM (viewG g) w r=true→L w b (r+1) 0=L w b r (nG g):=fun w b r hc=>by rw [hL,hL];exact lAll_r1 _ _ _ _ _ hc
 have r0:∀ w b r,¬ crM (viewG g) w r=true→L w b (r+1) 0=L w b r 0:=fun w b r hc=>by rw [hL,hL];exact lAll_r0 _ _ _ _ _ hc
 have b1:∀ w b,rdrM (viewG g) (seqM (viewG g) (nG g) w) b=true→L w (b+1) 0 0=L w b (nG g) 0:=fun w b hc=>by rw [hL,hL];exact lAll_b1 _ _ _ _ hc
 have b0:∀ w b,¬ rdrM (viewG g) (seqM (viewG g) (nG g) w) b=true→L w (b+1) 0 0=L w b 0 0:=fun w b hc=>by rw [hL,hL];exact lAll_b0 _ _ _ _ hc
 have w1:∀ w,cwM (viewG g) w=true→L (w+1) 0 0 0=L w (nG g) 0 0:=fun w hc=>by rw [hL,hL];exact lAll_w1 _ _ _ hc
 have w0:∀ w,¬ cwM (viewG g) w=true→L (w+1) 0 0 0=L w 0 0 0:=fun w hc=>by rw [hL,hL];exact lAll_w0 _ _ _ hc
 have eO:swF (viewG g) (nG g)=ofTo (nG g) (L (nG g) 0 0 0) (L (nG g) 0 0 0).length:=by rw [hL];exact (ofTo_sw (viewG g) (nG g) hn).symm
 have lN:=lL (nG g) 0 0 0 (Nat.le_refl _) (Nat.zero_le _) (Nat.zero_le _) (Nat.zero_le _)
 have kO:=rof_in (γ:=γ) (nG g:Int) (L (nG g) 0 0 0) (by omega) (by omega) (by omega)
 rw [eO]
 clear eO hL
 generalize hS:seqM (viewG g) (nG g)=S at *
 generalize hF':(viewG g).fr=FR at *
 generalize hP:poM (viewG g)=PO at *
 refine Pure.goL (ty:=ty) ty_eq mo Tryz.func89 rfl Tryz.ntmps89 Tryz.results89 Tryz.call89 (by simp) fun P C CQ D W F E hF=>?_
 refine E.cut 4 (told 148 [(0,pW g),(2,.ptr 0 0),(3,.vs 2 fun _=>ps (L (nG g) 0 0 0))] [.box (.agg [.lit 0,.nils])]) (by kernel_rfl) (Nat.zero_le _) (fun I hI=>?_) (E.bl ?_)
 ·cbv
  repeat' (first
   |(refine ⟨fun _ h_s=>?_,fun _ h_s=>?_⟩<;>(cbv;(try simp only [nc] at *);try simp (disch:=(first|omega|(simp only [lnS];omega))) only [rdT,rdS,reduceCtorEq,trT] at h_s))
   |(refine hF ?_;intro _;clear hF)
   |(refine hF ?_;cbv;clear hF)
   |(refine ⟨fun _=>?_,?_⟩;(· ((try simp only [nc] at *);first|done|omega|exact ⟨by omega,rfl⟩|(simp (disch:=(first|omega|(simp only [lnS];omega))) only [rdT,rdS];first|done|omega|rfl|exact ⟨by omega,rfl⟩|(simp;done)|(simp;omega))|(intros;trivial)));(try (simp only [nc] at *));(try simp (disch:=(first|omega|(simp only [lnS];omega))) only [rdT,rdS]);(try cbv))
   | fail
  )
  refine E.w (AWP.ghostSlot 3 2 rfl (by omega) (E.loopSA (ι:=Nat) (fun w=>w≤(nG g)) (fun w=>(nG g)-w) (fun w=>[(4,.i fun _=>((w:Nat):Int)),(3,.sl 1 (G (L w 0 0 0)) 2 (fun _=>0) fun _=>(L w 0 0 0).length)]) (fun w h=>h.set 1 (.run (G (L w 0 0 0)) 2 fun _=>ps (L w 0 0 0))) 0 (fun _=>by first | rfl | simp) (Nat.zero_le _) ?_ fun w hw I1 hJ=>?_))
  ·cbv;simp [l0,hG0,ps,LV.of]
  cbv
  have k2:=q2 w
  have k5:=q5 w
  have kw0:=w0 w
  have kw1:=w1 w
  have ew:=e1 w
  repeat' (first
   |(refine hJ (w+1) ?_ ?_ ?_;rotate_left 1;(· ((try simp only [nc] at *);omega));(cbv;clear hJ;(try clear hF);(try simp only [nc] at *);(try simp (disch:=(first|omega|(simp only [lnS];omega))) only [rdT,rdS,anT]));rotate_left 1;(try ((try simp only [nc] at *);omega)))
   |(refine E.c (SCalls.of_le (k5 (by ((try simp only [nc] at *);omega))) ?_ ?_);(· (cbv;(try simp only [nc] at *);first|done|(simp;done)|(simp (disch:=(first|omega|(simp only [lnS];omega))) only [rdT,rdS,anT];first|done|omega|(refine ⟨?_,?_⟩<;>omega))|(simp (disch:=(first|omega|(simp only [lnS];omega))) [rdT,rdS];done)));cbv)
   |(refine E.c (SCalls.of_le (k2 (by ((try simp only [nc] at *);omega))) ?_ ?_);(· (cbv;(try simp only [nc] at *);first|done|(simp;done)|(simp (disch:=(first|omega|(simp only [lnS];omega))) only [rdT,rdS,anT];first|done|omega|(refine ⟨?_,?_⟩<;>omega))|(simp (disch:=(first|omega|(simp only [lnS];omega))) [rdT,rdS];done)));cbv)
   |(refine ⟨fun _ h_s=>?_,fun _ h_s=>?_⟩<;>(cbv;(try simp only [nc] at *);try simp (disch:=(first|omega|(simp only [lnS];omega))) only [rdT,rdS,reduceCtorEq,trT] at h_s))
   |(refine hF ?_;intro _;clear hF)
   |(refine hF ?_;cbv;clear hF)
   |(refine ⟨fun _=>?_,?_⟩;(· ((try simp only [nc] at *);first|done|omega|exact ⟨by omega,rfl⟩|(simp (disch:=(first|omega|(simp only [lnS];omega))) only [rdT,rdS];first|done|omega|rfl|exact ⟨by omega,rfl⟩|(simp;done)|(simp;omega))|(intros;trivial)));(try (simp only [nc] at *));(try simp (disch:=(first|omega|(simp only [lnS];omega))) only [rdT,rdS]);(try cbv))
   | fail
  )
  iterate 2
   ·have hc:¬ cwM (viewG g) w=true:=by
     clear kw0 kw1 w0 w1 r0 r1 b0 b1 a0 a1 lL
     rw [ew];simp_all
    rw [kw0 hc]
    exact ⟨⟨⟨rfl,rfl⟩,by push_cast;rfl⟩,rfl,rfl⟩
  ·have hcw:cwM (viewG g) w=true:=by
    clear kw0 kw1 w0 w1 r0 r1 b0 b1 a0 a1 lL
    rw [ew];simp_all
   replace kw1:=kw1 hcw
   clear kw0 ew
   refine E.loopS (ι:=Nat) (fun b=>b≤(nG g)) (fun b=>(nG g)-b) (fun b=>[(6,.i fun _=>((b:Nat):Int)),(3,.sl 1 (G (L w b 0 0)) 2 (fun _=>0) fun _=>(L w b 0 0).length)]) (fun b h=>h.set 1 (.run (G (L w b 0 0)) 2 fun _=>ps (L w b 0 0))) 0 (fun _=>by first|rfl|simp) (Nat.zero_le _) ?_ fun b hb I2 hI2=>?_
   ·cbv;simp
   cbv
   have k1:=q1 b
   have k6:=q6 b
   have kb0:=b0 w b
   have kb1:=b1 w b
   have eb:=e2 (S w) b
   have hf1:=hfr0 b
   have hf2:=hfrl b
   repeat' (first
    |(refine hJ (w+1) ?_ ?_ ?_;rotate_left 1;(· ((try simp only [nc] at *);omega));(cbv;clear hJ;(try clear hF);(try simp only [nc] at *);(try simp (disch:=(first|omega|(simp only [lnS];omega))) only [rdT,rdS,anT]));rotate_left 1;(try ((try simp only [nc] at *);omega)))
    |(refine hI2 (b+1) ?_ ?_ ?_;rotate_left 1;(· ((try simp only [nc] at *);omega));(cbv;clear hI2;(try clear hF);(try simp only [nc] at *);(try simp (disch:=(first|omega|(simp only [lnS];omega))) only [rdT,rdS,anT]));rotate_left 1;(try ((try simp only [nc] at *);omega)))
    |(refine E.c (SCalls.of_le (k6 (by ((try simp only [nc] at *);omega))) ?_ ?_);(· (cbv;(try simp only [nc] at *);first|done|(simp;done)|(simp (disch:=(first|omega|(simp only [lnS];omega))) only [rdT,rdS,anT];first|done|omega|(refine ⟨?_,?_⟩<;>omega))|(simp (disch:=(first|omega|(simp only [lnS];omega))) [rdT,rdS];done)));cbv)
    |(refine E.c (SCalls.of_le (k1 (by ((try simp only [nc] at *);omega))) ?_ ?_);(· (cbv;(try simp only [nc] at *);first|done|(simp;done)|(simp (disch:=(first|omega|(simp only [lnS];omega))) only [rdT,rdS,anT];first|done|omega|(refine ⟨?_,?_⟩<;>omega))|(simp (disch:=(first|omega|(simp only [lnS];omega))) [rdT,rdS];done)));cbv)
    |(refine ⟨fun _ h_s=>?_,fun _ h_s=>?_⟩<;>(cbv;(try simp only [nc] at *);try simp (disch:=(first|omega|(simp only [lnS];omega))) only [rdT,rdS,reduceCtorEq,trT] at h_s))
    |(refine hF ?_;intro _;clear hF)
    |(refine hF ?_;cbv;clear hF)
    |(refine ⟨fun _=>?_,?_⟩;(· ((try simp only [nc] at *);first|done|omega|exact ⟨by omega,rfl⟩|(simp (disch:=(first|omega|(simp only [lnS];omega))) only [rdT,rdS];first|done|omega|rfl|exact ⟨by omega,rfl⟩|(simp;done)|(simp;omega))|(intros;trivial)));(try (simp only [nc] at *));(try simp (disch:=(first|omega|(simp only [lnS];omega))) only [rdT,rdS]);(try cbv))
    | fail
   )
   iterate 3
    ·have hc:¬ rdrM (viewG g) (S w) b=true:=by
      clear kb0 kb1 w0 w1 r0 r1 b0 b1 a0 a1 lL
      rw [eb]
      first
       | (simp_all;done)
       | (rw [bofZ (by simp_all) (by omega),mod2_bit0] at h_s;rw [Bool.and_eq_true];rintro ⟨_,hx⟩;rw [h_s] at hx;cases hx)
     rw [kb0 hc]
     exact ⟨⟨⟨rfl,rfl⟩,by push_cast;rfl⟩,rfl,rfl⟩
   ·have hcb:rdrM (viewG g) (S w) b=true:=by
     clear kb0 kb1 w0 w1 r0 r1 b0 b1 a0 a1 lL
     rw [eb]
     rw [bofZ (by simp_all) (by omega),mod2_bit0] at h_s
     simp_all
    replace kb1:=kb1 hcb
    clear kb0 eb
    refine E.loopS (ι:=Nat) (fun r=>r≤(nG g)) (fun r=>(nG g)-r) (fun r=>[(7,.i fun _=>((r:Nat):Int)),(3,.sl 1 (G (L w b r 0)) 2 (fun _=>0) fun _=>(L w b r 0).length)]) (fun r h=>h.set 1 (.run (G (L w b r 0)) 2 fun _=>ps (L w b r 0))) 0 (fun _=>by first|rfl|simp) (Nat.zero_le _) ?_ fun r hr I3 hI3=>?_
    ·cbv;simp
    cbv
    have k4:=q4 r
    have k7:=q7 r w
    have kr0:=r0 w b r
    have kr1:=r1 w b r
    have er:=e3 w r
    repeat' (first
     |(refine hI2 (b+1) ?_ ?_ ?_;rotate_left 1;(· ((try simp only [nc] at *);omega));(cbv;clear hI2;(try clear hF);(try simp only [nc] at *);(try simp (disch:=(first|omega|(simp only [lnS];omega))) only [rdT,rdS,anT]));rotate_left 1;(try ((try simp only [nc] at *);omega)))
     |(refine hI3 (r+1) ?_ ?_ ?_;rotate_left 1;(· ((try simp only [nc] at *);omega));(cbv;clear hI3;(try clear hF);(try simp only [nc] at *);(try simp (disch:=(first|omega|(simp only [lnS];omega))) only [rdT,rdS,anT]));rotate_left 1;(try ((try simp only [nc] at *);omega)))
     |(refine E.c (SCalls.of_le (k7 (by ((try simp only [nc] at *);omega)) (by ((try simp only [nc] at *);omega))) ?_ ?_);(· (cbv;(try simp only [nc] at *);first|done|(simp;done)|(simp (disch:=(first|omega|(simp only [lnS];omega))) only [rdT,rdS,anT];first|done|omega|(refine ⟨?_,?_⟩<;>omega))|(simp (disch:=(first|omega|(simp only [lnS];omega))) [rdT,rdS];done)));cbv)
     |(refine E.c (SCalls.of_le (k4 (by ((try simp only [nc] at *);omega))) ?_ ?_);(· (cbv;(try simp only [nc] at *);first|done|(simp;done)|(simp (disch:=(first|omega|(simp only [lnS];omega))) only [rdT,rdS,anT];first|done|omega|(refine ⟨?_,?_⟩<;>omega))|(simp (disch:=(first|omega|(simp only [lnS];omega))) [rdT,rdS];done)));cbv)
     |(refine ⟨fun _ h_s=>?_,fun _ h_s=>?_⟩<;>(cbv;(try simp only [nc] at *);try simp (disch:=(first|omega|(simp only [lnS];omega))) only [rdT,rdS,reduceCtorEq,trT] at h_s))
     |(refine hF ?_;intro _;clear hF)
     |(refine hF ?_;cbv;clear hF)
     |(refine ⟨fun _=>?_,?_⟩;(· ((try simp only [nc] at *);first|done|omega|exact ⟨by omega,rfl⟩|(simp (disch:=(first|omega|(simp only [lnS];omega))) only [rdT,rdS];first|done|omega|rfl|exact ⟨by omega,rfl⟩|(simp;done)|(simp;omega))|(intros;trivial)));(try (simp only [nc] at *));(try simp (disch:=(first|omega|(simp only [lnS];omega))) only [rdT,rdS]);(try cbv))
     | fail
    )
    have eri:((r:Int)=w)↔r=w:=Int.ofNat_inj
    iterate 3
     ·have hc:¬ crM (viewG g) w r=true:=by
       clear kr0 kr1 w0 w1 r0 r1 b0 b1 a0 a1 lL
       rw [er]
       first
        | (simp_all;done)
        | (simp_all;omega)
      rw [kr0 hc]
      exact ⟨⟨⟨rfl,rfl⟩,by push_cast;rfl⟩,rfl,rfl⟩
    iterate 2
     ·have hcr:crM (viewG g) w r=true:=by
       clear kr0 kr1 w0 w1 r0 r1 b0 b1 a0 a1 lL
       rw [er]
       first
        | (simp_all;done)
        | (simp_all;omega)
        | (
          have e:r=w:=by omega
          simp_all;done)
      replace kr1:=kr1 hcr
      clear kr0 er
      refine E.loopS (ι:=Nat) (fun a=>a≤(nG g)) (fun a=>(nG g)-a) (fun a=>[(8,.i fun _=>((a:Nat):Int)),(3,.sl 1 (G (L w b r a)) 2 (fun _=>0) fun _=>(L w b r a).length)]) (fun a h=>h.set 1 (.run (G (L w b r a)) 2 fun _=>ps (L w b r a))) 0 (fun _=>by first|rfl|simp) (Nat.zero_le _) ?_ fun a ha I4 hI4=>?_
      ·cbv;simp
      cbv
      have k3:=q3 a
      have k7:=q7 b a
      have ka0:=a0 w b r a
      have ka1:=a1 w b r a
      have ea:=e4 b a
      have d1:=lL w b r a (by omega) (by omega) (by omega) (by omega)
      skip
      repeat' (first
       |(refine hI3 (r+1) ?_ ?_ ?_;rotate_left 1;(· ((try simp only [nc] at *);omega));(cbv;clear hI3;(try clear hF);(try simp only [nc] at *);(try simp (disch:=(first|omega|(simp only [lnS];omega))) only [rdT,rdS,anT]));rotate_left 1;(try ((try simp only [nc] at *);omega)))
       |(refine hI4 (a+1) ?_ ?_ ?_;rotate_left 1;(· ((try simp only [nc] at *);omega));(cbv;clear hI4;(try clear hF);(try simp only [nc] at *);(try simp (disch:=(first|omega|(simp only [lnS];omega))) only [rdT,rdS,anT]));rotate_left 1;(try ((try simp only [nc] at *);omega)))
       |(refine E.c (SCalls.of_le (k7 (by ((try simp only [nc] at *);omega)) (by ((try simp only [nc] at *);omega))) ?_ ?_);(· (cbv;(try simp only [nc] at *);first|done|(simp;done)|(simp (disch:=(first|omega|(simp only [lnS];omega))) only [rdT,rdS,anT];first|done|omega|(refine ⟨?_,?_⟩<;>omega))|(simp (disch:=(first|omega|(simp only [lnS];omega))) [rdT,rdS];done)));cbv)
       |(refine E.c (SCalls.of_le (k3 (by ((try simp only [nc] at *);omega))) ?_ ?_);(· (cbv;(try simp only [nc] at *);first|done|(simp;done)|(simp (disch:=(first|omega|(simp only [lnS];omega))) only [rdT,rdS,anT];first|done|omega|(refine ⟨?_,?_⟩<;>omega))|(simp (disch:=(first|omega|(simp only [lnS];omega))) [rdT,rdS];done)));cbv)
       |(refine ⟨fun _ h_s=>?_,fun _ h_s=>?_⟩<;>(cbv;(try simp only [nc] at *);try simp (disch:=(first|omega|(simp only [lnS];omega))) only [rdT,rdS,reduceCtorEq,trT] at h_s))
       |(refine hF ?_;intro _;clear hF)
       |(refine hF ?_;cbv;clear hF)
       |(refine ⟨fun _=>?_,?_⟩;(· ((try simp only [nc] at *);first|done|omega|exact ⟨by omega,rfl⟩|(simp (disch:=(first|omega|(simp only [lnS];omega))) only [rdT,rdS];first|done|omega|rfl|exact ⟨by omega,rfl⟩|(simp;done)|(simp;omega))|(intros;trivial)|exact ⟨by first|trivial|rfl,by first|trivial|rfl|simp,by first|trivial|simp,by simp;omega,by simp;omega,by simp [AV.flat,AV.cells,AV.one]⟩));(try (simp only [nc] at *));(try simp (disch:=(first|omega|(simp only [lnS];omega))) only [rdT,rdS]);(try cbv))
       | fail
      )
      all_goals (have eai:((a:Int)=b)↔a=b:=Int.ofNat_inj)
      iterate 2
       ·have hc:caM (viewG g) b a=true:=by
         clear ka0 ka1 w0 w1 r0 r1 b0 b1 a0 a1 lL
         rw [ea]
         first
          | (simp_all;done)
          | (simp_all;omega)
          | (
            have e:a=b:=by omega
            simp_all;done)
        replace ka1:=ka1 hc
        clear w0 w1 r0 r1 b0 b1 a0 a1 lL
        rw [ka1]
        simp [hG,ps,setAll,AV.nrm]
      iterate 3
       ·have hc:¬ caM (viewG g) b a=true:=by
         clear ka0 ka1 w0 w1 r0 r1 b0 b1 a0 a1 lL
         rw [ea]
         first
          | (simp_all;done)
          | (simp_all;omega)
        rw [ka0 hc]
        exact ⟨⟨⟨rfl,rfl⟩,by push_cast;rfl⟩,rfl,rfl⟩
      ·have e:a=nG g:=by ((try simp only [nc] at *);omega)
       subst e
       rw [kr1]
       exact ⟨⟨⟨rfl,rfl⟩,by push_cast;rfl⟩,rfl,rfl⟩
    ·have e:r=nG g:=by ((try simp only [nc] at *);omega)
     subst e
     rw [kb1]
     exact ⟨⟨⟨rfl,rfl⟩,by push_cast;rfl⟩,rfl,rfl⟩
   ·have e:b=nG g:=by ((try simp only [nc] at *);omega)
    subst e
    rw [kw1]
    exact ⟨⟨⟨rfl,rfl⟩,by push_cast;rfl⟩,rfl,rfl⟩
  ·have ew:w=nG g:=by ((try simp only [nc] at *);omega)
   subst ew
   refine hI ?_
   cbv
   clear hI hJ
   simp only [List.drop_zero,nc]
   simp
   exact List.take_of_length_le (by simp)
 ·cbv
  repeat' (first
   |(refine E.c (SCalls.of_le (kO) ?_ ?_);(· (cbv;(try simp only [nc] at *);first|done|(simp;done)|(simp (disch:=(first|omega|(simp only [lnS];omega))) only [rdT,rdS,anT];first|done|omega|(refine ⟨?_,?_⟩<;>omega))|(simp (disch:=(first|omega|(simp only [lnS];omega))) [rdT,rdS];done)));cbv)
   |(refine ⟨fun _ h_s=>?_,fun _ h_s=>?_⟩<;>(cbv;(try simp only [nc] at *);try simp (disch:=(first|omega|(simp only [lnS];omega))) only [rdT,rdS,reduceCtorEq,trT] at h_s))
   |(refine hF ?_;intro _;clear hF)
   |(refine hF ?_;cbv;clear hF)
   |(refine ⟨fun _=>?_,?_⟩;(· ((try simp only [nc] at *);first|done|omega|exact ⟨by omega,rfl⟩|(simp (disch:=(first|omega|(simp only [lnS];omega))) only [rdT,rdS];first|done|omega|rfl|exact ⟨by omega,rfl⟩|(simp;done)|(simp;omega))|(intros;trivial)|exact ⟨by first|trivial|rfl,by first|trivial|rfl|simp,by first|trivial|simp,by simp;omega,by simp;omega,by simp [AV.flat,AV.cells,AV.one]⟩));(try (simp only [nc] at *));(try simp (disch:=(first|omega|(simp only [lnS];omega))) only [rdT,rdS]);(try cbv))
   | fail
  )
end Go.AL.Rl
namespace Go.AL.Rl
open Go Go.AL Go.Proofs
set_option maxRecDepth 100000
set_option maxHeartbeats 3200000
variable {γ:Nat→Option AV}
theorem ror3 (n:Nat) (a b c:List (BitVec 64)) (ha:Fits n a) (hb:Fits n b) (hc:Fits n c):Pure Tryz.prog γ false 87 [.vs 2 fun _=>rls [((n:Int),a),((n:Int),b),((n:Int),c)]] (encRel n (orM n [((n:Int),a),((n:Int),b),((n:Int),c)])):=
 ror_yes _ (by simp) (alike3 n a b c ha hb hc) n rfl
theorem w15All_yes (g:Gr) (hg:Rd g) (h:GOk g):Pure Tryz.prog γ false 55 [aGr g] (.tup [aDer (nG g:Nat) (poF (viewG g) (nG g)) (rfF (viewG g) (nG g)) (coF (viewG g) (nG g)) (frF (viewG g) (nG g)) (ecoF (viewG g) (nG g)) (porfF (viewG g) (nG g)) (locF (viewG g) (nG g)) (swF (viewG g) (nG g)) (hbF (viewG g) (nG g)),.i fun _=>0]):=by
 have hV:=viewG_wf h
 have hn:=hV.small
 have kl:=look15_yes (γ:=γ) g hg h
 have kg:=wgiven_ok (γ:=γ) g hg h
 have ks:=wsw_ok (γ:=γ) g h
 have f1:=fits_poF (viewG g) hV.small
 have f2:=fits_rfF (viewG g) hV.small
 have f3:=fits_coF (viewG g) hV.small
 have f4:=fits_frF (viewG g) hV.small
 have f6:=fits_swF (viewG g) hV.small
 have o1:=ror3 (γ:=γ) (nG g) _ _ _ f2 f3 f4
 have o2:=ror2 (γ:=γ) (nG g) _ _ f1 f2
 have o3:=ror2 (γ:=γ) (nG g) _ _ f1 f6
 have p1:=rplus_yes (γ:=γ) (nG g) _ (fits_or (by omega) (l:=[((nG g:Int),rfF (viewG g) (nG g)),((nG g:Int),coF (viewG g) (nG g)),((nG g:Int),frF (viewG g) (nG g))]) (by simp [f2,f3,f4]))
 have p2:=rplus_yes (γ:=γ) (nG g) _ (fits_or2 f1 f2)
 have p3:=rplus_yes (γ:=γ) (nG g) _ (fits_or2 f1 f6)
 have c1:=wloc_ok (γ:=γ) g
 have e1:plusM (nG g) (orM (nG g) [((nG g:Int),rfF (viewG g) (nG g)),((nG g:Int),coF (viewG g) (nG g)),((nG g:Int),frF (viewG g) (nG g))])=ecoF (viewG g) (nG g):=by simp [ecoF]
 have e2:plusM (nG g) (orM (nG g) [((nG g:Int),poF (viewG g) (nG g)),((nG g:Int),rfF (viewG g) (nG g))])=porfF (viewG g) (nG g):=by simp [porfF]
 have e3:plusM (nG g) (orM (nG g) [((nG g:Int),poF (viewG g) (nG g)),((nG g:Int),swF (viewG g) (nG g))])=hbF (viewG g) (nG g):=by simp [hbF]
 rw [e1] at p1
 rw [e2] at p2
 rw [e3] at p3
 have eL:locF (viewG g) (nG g)=relRows (nG g) (locM (viewG g)):=rfl
 rw [eL]
 clear e1 e2 e3 eL f1 f2 f3 f4 f6
 generalize locM (viewG g)=p at *
 generalize poF (viewG g) (nG g)=q1 at *
 generalize rfF (viewG g) (nG g)=q2 at *
 generalize coF (viewG g) (nG g)=q3 at *
 generalize frF (viewG g) (nG g)=q4 at *
 generalize swF (viewG g) (nG g)=q5 at *
 generalize ecoF (viewG g) (nG g)=q6 at *
 generalize porfF (viewG g) (nG g)=q7 at *
 generalize hbF (viewG g) (nG g)=q8 at *
 obtain ⟨L,hL⟩:∃ L:Nat→Nat→List (Int × Int),∀ a b,L a b=prA p (nG g) a++prE p a b:=⟨_,fun _ _=>rfl⟩
 obtain ⟨G,hG⟩:∃ G:List (Int × Int)→Nat,∀ l,G l=l.length:=⟨_,fun _=>rfl⟩
 have hG0:G []=0:=by rw [hG];rfl
 have l0:L 0 0=[]:=by rw [hL];rfl
 have lS:∀ a b,L a (b+1)=L a b++if p a b=true then [((a:Int),(b:Int))] else []:=fun a b=>by rw [hL,hL,prE_succ];simp only [List.append_assoc]
 have lE:∀ a,L a (nG g)=L (a+1) 0:=fun a=>by rw [hL,hL,prA_succ];simp [prE]
 have lL:∀ a b,a≤nG g→b≤nG g→(L a b).length≤4000:=fun a b ha hb=>by
  have q1:=prA_len p (nG g) a
  have q2:=prE_len p a b
  have q3:a * nG g≤62 * 62:=Nat.mul_le_mul (by omega) hn
  rw [hL,List.length_append];omega
 have lF:L (nG g) 0=prA p (nG g) (nG g):=by rw [hL];simp [prE]
 have lN:=lL (nG g) 0 (Nat.le_refl _) (Nat.zero_le _)
 have kO:=rof_in (γ:=γ) (nG g:Int) (prA p (nG g) (nG g)) (by omega) (by omega) (by rw [←lF];omega)
 rw [ofTo_rel (nG g) (by omega) p,←lF] at kO
 clear hL lF
 refine Pure.goL (ty:=ty) ty_eq mo Tryz.func55 rfl Tryz.ntmps55 Tryz.results55 Tryz.call55 (by simp) fun P C CQ D W F E hF=>?_
 refine E.cut 7 (told 96 [(1,.ptr 0 0),(2,.ptr 1 0),(3,.lit 0),(4,pW g),(6,.vs 2 fun _=>ps (L (nG g) 0))] [.box (aGr g),.box (.agg [.lit 0,.nils,.lit 0,.nils,.lit 0,.nils,.lit 0,.nils,.lit 0,.nils,.lit 0,.nils,.lit 0,.nils,.lit 0,.nils,.lit 0,.nils])]) (by kernel_rfl) (Nat.zero_le _) (fun I hI=>?_) (E.bl ?_)
 ·cbv
  repeat' (first
   |(refine E.c (SCalls.of_le (kl) ?_ ?_);(· (cbv;(try simp only [nc] at *);first|done|(simp;done)|(simp (disch:=(first|omega|(simp only [lnS];omega))) only [rdT,rdS,anT];first|done|omega|(refine ⟨?_,?_⟩<;>omega))|(simp (disch:=(first|omega|(simp only [lnS];omega))) [rdT,rdS];done)));cbv)
   |(refine ⟨fun _ h_s=>?_,fun _ h_s=>?_⟩<;>(cbv;(try simp only [nc] at *);try simp (disch:=(first|omega|(simp only [lnS];omega))) only [rdT,rdS,reduceCtorEq,trT] at h_s))
   |(refine hF ?_;intro _;clear hF)
   |(refine hF ?_;cbv;clear hF)
   |(refine ⟨fun _=>?_,?_⟩;(· ((try simp only [nc] at *);first|done|omega|exact ⟨by omega,rfl⟩|(simp (disch:=(first|omega|(simp only [lnS];omega))) only [rdT,rdS];first|done|omega|rfl|exact ⟨by omega,rfl⟩|(simp;done)|(simp;omega))|(intros;trivial)));(try (simp only [nc] at *));(try simp (disch:=(first|omega|(simp only [lnS];omega))) only [rdT,rdS]);(try cbv))
   | fail
  )
  refine E.w (AWP.ghostSlot 6 2 rfl (by omega) (E.loopSA (ι:=Nat) (fun a=>a≤(nG g)) (fun a=>(nG g)-a) (fun a=>[(7,.i fun _=>((a:Nat):Int)),(6,.sl 2 (G (L a 0)) 2 (fun _=>0) fun _=>(L a 0).length)]) (fun a h=>h.set 2 (.run (G (L a 0)) 2 fun _=>ps (L a 0))) 0 (fun _=>by first | rfl | simp) (Nat.zero_le _) ?_ fun a ha I1 hJ=>?_))
  ·cbv;simp [l0,hG0,ps,LV.of]
  cbv
  repeat' (first
   |(refine ⟨fun _ h_s=>?_,fun _ h_s=>?_⟩<;>(cbv;(try simp only [nc] at *);try simp (disch:=(first|omega|(simp only [lnS];omega))) only [rdT,rdS,reduceCtorEq,trT] at h_s))
   |(refine hF ?_;intro _;clear hF)
   |(refine hF ?_;cbv;clear hF)
   |(refine ⟨fun _=>?_,?_⟩;(· ((try simp only [nc] at *);first|done|omega|exact ⟨by omega,rfl⟩|(simp (disch:=(first|omega|(simp only [lnS];omega))) only [rdT,rdS];first|done|omega|rfl|exact ⟨by omega,rfl⟩|(simp;done)|(simp;omega))|(intros;trivial)));(try (simp only [nc] at *));(try simp (disch:=(first|omega|(simp only [lnS];omega))) only [rdT,rdS]);(try cbv))
   | fail
  )
  ·refine E.loopS (ι:=Nat) (fun b=>b≤(nG g)) (fun b=>(nG g)-b) (fun b=>[(8,.i fun _=>((b:Nat):Int)),(6,.sl 2 (G (L a b)) 2 (fun _=>0) fun _=>(L a b).length)]) (fun b h=>h.set 2 (.run (G (L a b)) 2 fun _=>ps (L a b))) 0 (fun _=>by first|rfl|simp) (Nat.zero_le _) ?_ fun b hb I2 hI2=>?_
   ·cbv;simp
   cbv
   have c2:=c1 a b
   have d1:=lL a b ha hb
   have hsb:=lS a b
   have hle:=lE a
   skip
   repeat' (first
    |(refine hJ (a+1) ?_ ?_ ?_;rotate_left 1;(· ((try simp only [nc] at *);omega));(cbv;clear hJ;(try clear hF);(try simp only [nc] at *);(try simp (disch:=(first|omega|(simp only [lnS];omega))) only [rdT,rdS,anT]));rotate_left 1;(try ((try simp only [nc] at *);omega)))
    |(refine hI2 (b+1) ?_ ?_ ?_;rotate_left 1;(· ((try simp only [nc] at *);omega));(cbv;clear hI2;(try clear hF);(try simp only [nc] at *);(try simp (disch:=(first|omega|(simp only [lnS];omega))) only [rdT,rdS,anT]));rotate_left 1;(try ((try simp only [nc] at *);omega)))
    |(refine E.c (SCalls.of_le (c2 (by ((try simp only [nc] at *);omega)) (by ((try simp only [nc] at *);omega))) ?_ ?_);(· (cbv;(try simp only [nc] at *);first|done|(simp;done)|(simp (disch:=(first|omega|(simp only [lnS];omega))) only [rdT,rdS,anT];first|done|omega|(refine ⟨?_,?_⟩<;>omega))|(simp (disch:=(first|omega|(simp only [lnS];omega))) [rdT,rdS];done)));cbv)
    |(refine ⟨fun _ h_s=>?_,fun _ h_s=>?_⟩<;>(cbv;(try simp only [nc] at *);try simp (disch:=(first|omega|(simp only [lnS];omega))) only [rdT,rdS,reduceCtorEq,trT] at h_s))
    |(refine hF ?_;intro _;clear hF)
    |(refine hF ?_;cbv;clear hF)
    |(refine ⟨fun _=>?_,?_⟩;(· ((try simp only [nc] at *);first|done|omega|exact ⟨by omega,rfl⟩|(simp (disch:=(first|omega|(simp only [lnS];omega))) only [rdT,rdS];first|done|omega|rfl|exact ⟨by omega,rfl⟩|(simp;done)|(simp;omega))|(intros;trivial)|exact ⟨by first|trivial|rfl,by first|trivial|rfl|simp,by first|trivial|simp,by simp;omega,by simp;omega,by simp [AV.flat,AV.cells,AV.one]⟩));(try (simp only [nc] at *));(try simp (disch:=(first|omega|(simp only [lnS];omega))) only [rdT,rdS]);(try cbv))
    | fail
   )
   all_goals clear c1 c2 kl kg ks o1 o2 o3 p1 p2 p3 kO
   ·rw [if_pos (by assumption)] at hsb
    simp [hG,hsb,ps,setAll]
   ·rw [if_neg (by simp_all)] at hsb
    simp [hG,hsb]
   ·have e:b=nG g:=by omega
    subst e
    rw [hle]
    exact ⟨⟨by push_cast;rfl,rfl,rfl⟩,rfl,rfl⟩
  ·have ea:a=nG g:=by ((try simp only [nc] at *);omega)
   subst ea
   refine hI ?_
   cbv
   clear hI hJ
   simp only [List.drop_zero,nc]
   simp
   exact List.take_of_length_le (by simp)
 ·cbv
  repeat' (first
   |(refine E.c (SCalls.of_le (p3) ?_ ?_);(· (cbv;(try simp only [nc] at *);first|done|(simp;done)|(simp (disch:=(first|omega|(simp only [lnS];omega))) only [rdT,rdS,anT];first|done|omega|(refine ⟨?_,?_⟩<;>omega))|(simp (disch:=(first|omega|(simp only [lnS];omega))) [rdT,rdS];done)));cbv)
   |(refine E.c (SCalls.of_le (p2) ?_ ?_);(· (cbv;(try simp only [nc] at *);first|done|(simp;done)|(simp (disch:=(first|omega|(simp only [lnS];omega))) only [rdT,rdS,anT];first|done|omega|(refine ⟨?_,?_⟩<;>omega))|(simp (disch:=(first|omega|(simp only [lnS];omega))) [rdT,rdS];done)));cbv)
   |(refine E.c (SCalls.of_le (p1) ?_ ?_);(· (cbv;(try simp only [nc] at *);first|done|(simp;done)|(simp (disch:=(first|omega|(simp only [lnS];omega))) only [rdT,rdS,anT];first|done|omega|(refine ⟨?_,?_⟩<;>omega))|(simp (disch:=(first|omega|(simp only [lnS];omega))) [rdT,rdS];done)));cbv)
   | (refine E.c (SCalls.of_bare (o3) rfl ?_ ?_);(· (cbv;simp [rls,ps,us,is,LV.of];done));cbv)
   | (refine E.c (SCalls.of_le (o3) ?_ ?_);(· (cbv;simp [rls,ps,us,is,LV.of];done));cbv)
   | (refine E.q (QCalls.of_le (o3) ?_ ?_);(· (cbv;simp [rls,ps,us,is,LV.of];done));cbv)
   | (refine E.c (SCalls.of_bare (o2) rfl ?_ ?_);(· (cbv;simp [rls,ps,us,is,LV.of];done));cbv)
   | (refine E.c (SCalls.of_le (o2) ?_ ?_);(· (cbv;simp [rls,ps,us,is,LV.of];done));cbv)
   | (refine E.q (QCalls.of_le (o2) ?_ ?_);(· (cbv;simp [rls,ps,us,is,LV.of];done));cbv)
   | (refine E.c (SCalls.of_bare (o1) rfl ?_ ?_);(· (cbv;simp [rls,ps,us,is,LV.of];done));cbv)
   | (refine E.c (SCalls.of_le (o1) ?_ ?_);(· (cbv;simp [rls,ps,us,is,LV.of];done));cbv)
   | (refine E.q (QCalls.of_le (o1) ?_ ?_);(· (cbv;simp [rls,ps,us,is,LV.of];done));cbv)
   |(refine E.c (SCalls.of_le (kO) ?_ ?_);(· (cbv;(try simp only [nc] at *);first|done|(simp;done)|(simp (disch:=(first|omega|(simp only [lnS];omega))) only [rdT,rdS,anT];first|done|omega|(refine ⟨?_,?_⟩<;>omega))|(simp (disch:=(first|omega|(simp only [lnS];omega))) [rdT,rdS];done)));cbv)
   |(refine E.c (SCalls.of_le (ks) ?_ ?_);(· (cbv;(try simp only [nc] at *);first|done|(simp;done)|(simp (disch:=(first|omega|(simp only [lnS];omega))) only [rdT,rdS,anT];first|done|omega|(refine ⟨?_,?_⟩<;>omega))|(simp (disch:=(first|omega|(simp only [lnS];omega))) [rdT,rdS];done)));cbv)
   |(refine E.c (SCalls.of_le (kg) ?_ ?_);(· (cbv;(try simp only [nc] at *);first|done|(simp;done)|(simp (disch:=(first|omega|(simp only [lnS];omega))) only [rdT,rdS,anT];first|done|omega|(refine ⟨?_,?_⟩<;>omega))|(simp (disch:=(first|omega|(simp only [lnS];omega))) [rdT,rdS];done)));cbv)
   |(refine ⟨fun _ h_s=>?_,fun _ h_s=>?_⟩<;>(cbv;(try simp only [nc] at *);try simp (disch:=(first|omega|(simp only [lnS];omega))) only [rdT,rdS,reduceCtorEq,trT] at h_s))
   |(refine hF ?_;intro _;clear hF)
   |(refine hF ?_;cbv;clear hF)
   |(refine ⟨fun _=>?_,?_⟩;(· ((try simp only [nc] at *);first|done|omega|exact ⟨by omega,rfl⟩|(simp (disch:=(first|omega|(simp only [lnS];omega))) only [rdT,rdS];first|done|omega|rfl|exact ⟨by omega,rfl⟩|(simp;done)|(simp;omega))|(intros;trivial)|exact ⟨by first|trivial|rfl,by first|trivial|rfl|simp,by first|trivial|simp,by simp;omega,by simp;omega,by simp [AV.flat,AV.cells,AV.one]⟩));(try (simp only [nc] at *));(try simp (disch:=(first|omega|(simp only [lnS];omega))) only [rdT,rdS]);(try cbv))
   | fail
  )
  simp
theorem w15All_no (g:Gr) (hg:Rd g) (h:¬ GOk g):Pure Tryz.prog γ false 55 [aGr g] (.tup [aDer 0 [] [] [] [] [] [] [] [] [],.i fun _=>2]):=by
 have kl:=look15_no (γ:=γ) g hg h
 refine Pure.go (ty:=ty) ty_eq mo Tryz.func55 rfl Tryz.ntmps55 Tryz.results55 Tryz.call55 (by simp) fun P C CQ D W F E hF=>?_
 cbv
 repeat' (first
  |(refine E.c (SCalls.of_le (kl) ?_ ?_);(· (cbv;(try simp only [nc] at *);first|done|(simp;done)|(simp (disch:=(first|omega|(simp only [lnS];omega))) only [rdT,rdS,anT];first|done|omega|(refine ⟨?_,?_⟩<;>omega))|(simp (disch:=(first|omega|(simp only [lnS];omega))) [rdT,rdS];done)));cbv)
  |(refine ⟨fun _ h_s=>?_,fun _ h_s=>?_⟩<;>(cbv;(try simp only [nc] at *);try simp (disch:=(first|omega|(simp only [lnS];omega))) only [rdT,rdS,reduceCtorEq,trT] at h_s))
  |(refine hF ?_;intro _;clear hF)
  |(refine hF ?_;cbv;clear hF)
  |(refine ⟨fun _=>?_,?_⟩;(· ((try simp only [nc] at *);first|done|omega|exact ⟨by omega,rfl⟩|(simp (disch:=(first|omega|(simp only [lnS];omega))) only [rdT,rdS];first|done|omega|rfl|exact ⟨by omega,rfl⟩|(simp;done)|(simp;omega))|(intros;trivial)|exact ⟨by first|trivial|rfl,by first|trivial|rfl|simp,by first|trivial|simp,by simp;omega,by simp;omega,by simp [AV.flat,AV.cells,AV.one]⟩));(try (simp only [nc] at *));(try simp (disch:=(first|omega|(simp only [lnS];omega))) only [rdT,rdS]);(try cbv))
  | fail
 )
 all_goals (try simp only [nc] at *)
 all_goals (try simp (disch:=(first|omega|(simp only [lnS];omega))) only [rdT,rdS])
 all_goals simp [us,LV.of,LV.l]
end Go.AL.Rl
namespace Go.AL.Rl
open Go Go.AL Go.Proofs
set_option maxRecDepth 100000
set_option maxHeartbeats 3200000
variable {γ:Nat→Option AV}
noncomputable def pairC (g:Gr):List (Int × Int):=pairsM (andM (nG g) (hbF (viewG g) (nG g)) (turnM (ecoF (viewG g) (nG g))))
noncomputable def brkP (g:Gr) (k:Int):Int × Int:=
 if k=2 then (fstI (leadM (updB (viewG g)) (nG g)),-1)
 else if k=3 then (fstI (leadM (fun i=>bit (plusM (nG g) (porfF (viewG g) (nG g))) i i) (nG g)),-1)
 else if k=4 then (fstI (leadM (fun i=>bit (plusM (nG g) (hbF (viewG g) (nG g))) i i) (nG g)),-1)
 else if k=6 then (fstI (leadM (fun i=>bit (plusM (nG g) (togF (viewG g) (nG g))) i i) (nG g)),-1)
 else if k=5 then ((pairC g).find? fun p=>decide (p.1≠p.2)).getD (-1,-1)
 else (-1,-1)
noncomputable abbrev aDg (g:Gr):AV:=aDer (nG g:Nat) (poF (viewG g) (nG g)) (rfF (viewG g) (nG g)) (coF (viewG g) (nG g)) (frF (viewG g) (nG g)) (ecoF (viewG g) (nG g)) (porfF (viewG g) (nG g)) (locF (viewG g) (nG g)) (swF (viewG g) (nG g)) (hbF (viewG g) (nG g))
theorem alike4E (n:Int) (a b c d:List (BitVec 64)) (ha:Fits n a) (hb:Fits n b) (hc:Fits n c) (hd:Fits n d):Alike [(n,a),(n,b),(n,c),(n,d)]:=by
 refine ⟨by simp,fun i hi=>?_⟩
 have:i=0∨i=1∨i=2∨i=3:=by simp at hi;omega
 rcases this with rfl | rfl | rfl | rfl
 ·simp [ha]
 ·simp [hb]
 ·simp [hc]
 ·simp [hd]
theorem find_atE {α:Type} {L:List α} {p:α→Bool} {d:α} {i:Nat} (hi:i<L.length) (h:p (L.getD i d)=true) (hb:∀ j<i,p (L.getD j d)=false):L.find? p=some (L.getD i d):=by
 rw [List.find?_eq_some_iff_getElem]
 refine ⟨h,i,hi,by simp [hi],fun j hj=>?_⟩
 have:=hb j hj
 rw [show L.getD j d=L[j] by simp [show j<L.length by omega]] at this
 rw [this];rfl
theorem rbroken_ok (g:Gr) (hg:Rd g) (h:GOk g) (k:Int):Pure Tryz.prog γ false 56 [.i fun _=>k,aGr g,aDg g] (.tup [.agg [.i fun _=>k,.i fun _=>(brkP g k).1,.i fun _=>(brkP g k).2],.b fun _=>decide (0≤(brkP g k).1)]):=by
 unfold aDg
 have hn:=(viewG_wf h).small
 have f1:=fits_poF (viewG g) hn
 have f2:=fits_rfF (viewG g) hn
 have f3:=fits_coF (viewG g) hn
 have f4:=fits_frF (viewG g) hn
 have f5:=eco_fits (viewG g) hn
 have f6:Fits (nG g:Nat) (porfF (viewG g) (nG g)):=fits_plus (fits_or2 f1 f2)
 have f7:=hb_fits (viewG g) hn
 have kU:=rupdate_ok (γ:=γ) g hg h
 have kp:=rround_ok (γ:=γ) (nG g) (porfF (viewG g) (nG g)) f6
 have kh:=rround_ok (γ:=γ) (nG g) (hbF (viewG g) (nG g)) f7
 have ko:=ror_yes (γ:=γ) [((nG g:Int),poF (viewG g) (nG g)),((nG g:Int),rfF (viewG g) (nG g)),((nG g:Int),coF (viewG g) (nG g)),((nG g:Int),frF (viewG g) (nG g))] (by simp) (alike4E _ _ _ _ _ f1 f2 f3 f4) (nG g) rfl
 have kg:=rround_ok (γ:=γ) (nG g) (togF (viewG g) (nG g)) (fits_tog (viewG_wf h))
 have kt:=rturn_yes (γ:=γ) (nG g) (ecoF (viewG g) (nG g)) f5
 have ka:=rand_yes (γ:=γ) (nG g) (hbF (viewG g) (nG g)) (turnM (ecoF (viewG g) (nG g))) f7 (fits_turn f5)
 have kq:=rpairs_yes (γ:=γ) (nG g) (andM (nG g) (hbF (viewG g) (nG g)) (turnM (ecoF (viewG g) (nG g)))) (fits_and f7)
 have hq:pairsM (andM (nG g) (hbF (viewG g) (nG g)) (turnM (ecoF (viewG g) (nG g))))=pairC g:=rfl
 have ht:togF (viewG g) (nG g)=orM (nG g) [((nG g:Int),poF (viewG g) (nG g)),((nG g:Int),rfF (viewG g) (nG g)),((nG g:Int),coF (viewG g) (nG g)),((nG g:Int),frF (viewG g) (nG g))]:=rfl
 rw [←ht] at ko
 rw [hq] at kq
 have b2:brkP g 2=(fstI (leadM (updB (viewG g)) (nG g)),-1):=rfl
 have b3:brkP g 3=(fstI (leadM (fun i=>bit (plusM (nG g) (porfF (viewG g) (nG g))) i i) (nG g)),-1):=rfl
 have b4:brkP g 4=(fstI (leadM (fun i=>bit (plusM (nG g) (hbF (viewG g) (nG g))) i i) (nG g)),-1):=rfl
 have b6:brkP g 6=(fstI (leadM (fun i=>bit (plusM (nG g) (togF (viewG g) (nG g))) i i) (nG g)),-1):=rfl
 have b5:brkP g 5=((pairC g).find? fun p=>decide (p.1≠p.2)).getD (-1,-1):=rfl
 have b0:¬ k=2→¬ k=3→¬ k=4→¬ k=6→¬ k=5→brkP g k=(-1,-1):=fun h2 h3 h4 h6 h5=>by
  unfold brkP;rw [if_neg h2,if_neg h3,if_neg h4,if_neg h6,if_neg h5]
 have hLl:(pairC g).length≤100000:=by
  have f8:=fits_and (b:=turnM (ecoF (viewG g) (nG g))) f7
  have e8:((andM (nG g) (hbF (viewG g) (nG g)) (turnM (ecoF (viewG g) (nG g)))).length:Int)=nG g:=f8.2.2.1
  have:=prows_len (andM (nG g) (hbF (viewG g) (nG g)) (turnM (ecoF (viewG g) (nG g)))) (andM (nG g) (hbF (viewG g) (nG g)) (turnM (ecoF (viewG g) (nG g)))).length
  unfold pairC pairsM
  omega
 generalize brkP g=B at *
 generalize fstI (leadM (updB (viewG g)) (nG g))=v2 at *
 generalize fstI (leadM (fun i=>bit (plusM (nG g) (porfF (viewG g) (nG g))) i i) (nG g))=v3 at *
 generalize fstI (leadM (fun i=>bit (plusM (nG g) (hbF (viewG g) (nG g))) i i) (nG g))=v4 at *
 generalize fstI (leadM (fun i=>bit (plusM (nG g) (togF (viewG g) (nG g))) i i) (nG g))=v6 at *
 generalize pairC g=L at *
 clear f1 f2 f3 f4 f5 f6 f7 hq ht
 generalize andM (nG g) (hbF (viewG g) (nG g)) (turnM (ecoF (viewG g) (nG g)))=r1 at *
 generalize turnM (ecoF (viewG g) (nG g))=r2 at *
 generalize togF (viewG g) (nG g)=r3 at *
 generalize poF (viewG g) (nG g)=q1 at *
 generalize rfF (viewG g) (nG g)=q2 at *
 generalize coF (viewG g) (nG g)=q3 at *
 generalize frF (viewG g) (nG g)=q4 at *
 generalize swF (viewG g) (nG g)=q5 at *
 generalize ecoF (viewG g) (nG g)=q6 at *
 generalize porfF (viewG g) (nG g)=q7 at *
 generalize hbF (viewG g) (nG g)=q8 at *
 generalize locF (viewG g) (nG g)=q9 at *
 generalize nG g=n at *
 refine Pure.go (ty:=ty) ty_eq mo Tryz.func56 rfl Tryz.ntmps56 Tryz.results56 Tryz.call56 (by simp) fun P C CQ D W F E hF=>?_
 cbv
 repeat' (first
  |(refine E.de 12 [3] [] (by decide +kernel) ?_;cbv;(fail_if_success guard_target =~ False))
  |(refine E.de 5 [2] [] (by decide +kernel) ?_;cbv;(fail_if_success guard_target =~ False))
  |((first|refine E.c (SCalls.of_le (kq) ?_ ?_)|refine E.q (QCalls.of_le (kq) ?_ ?_));(· (cbv;(try simp only [nc] at *);first|done|(simp;done)|(simp (disch:=(first|omega|(simp only [lnS];omega))) only [rdT,rdS,anT];first|done|omega|(refine ⟨?_,?_⟩<;>omega))|(simp (disch:=(first|omega|(simp only [lnS];omega))) [rdT,rdS];done)));cbv)
  |((first|refine E.c (SCalls.of_le (ka) ?_ ?_)|refine E.q (QCalls.of_le (ka) ?_ ?_));(· (cbv;(try simp only [nc] at *);first|done|(simp;done)|(simp (disch:=(first|omega|(simp only [lnS];omega))) only [rdT,rdS,anT];first|done|omega|(refine ⟨?_,?_⟩<;>omega))|(simp (disch:=(first|omega|(simp only [lnS];omega))) [rdT,rdS];done)));cbv)
  |((first|refine E.c (SCalls.of_le (kt) ?_ ?_)|refine E.q (QCalls.of_le (kt) ?_ ?_));(· (cbv;(try simp only [nc] at *);first|done|(simp;done)|(simp (disch:=(first|omega|(simp only [lnS];omega))) only [rdT,rdS,anT];first|done|omega|(refine ⟨?_,?_⟩<;>omega))|(simp (disch:=(first|omega|(simp only [lnS];omega))) [rdT,rdS];done)));cbv)
  |(refine E.c (SCalls.of_le (kg) ?_ ?_);(· (cbv;(try simp only [nc] at *);first|done|(simp;done)|(simp (disch:=(first|omega|(simp only [lnS];omega))) only [rdT,rdS,anT];first|done|omega|(refine ⟨?_,?_⟩<;>omega))|(simp (disch:=(first|omega|(simp only [lnS];omega))) [rdT,rdS];done)));cbv)
  | (refine E.c (SCalls.of_bare (ko) rfl ?_ ?_);(· (cbv;simp [rls,ps,us,is,LV.of];done));cbv)
  | (refine E.c (SCalls.of_le (ko) ?_ ?_);(· (cbv;simp [rls,ps,us,is,LV.of];done));cbv)
  | (refine E.q (QCalls.of_le (ko) ?_ ?_);(· (cbv;simp [rls,ps,us,is,LV.of];done));cbv)
  |(refine E.c (SCalls.of_le (kh) ?_ ?_);(· (cbv;(try simp only [nc] at *);first|done|(simp;done)|(simp (disch:=(first|omega|(simp only [lnS];omega))) only [rdT,rdS,anT];first|done|omega|(refine ⟨?_,?_⟩<;>omega))|(simp (disch:=(first|omega|(simp only [lnS];omega))) [rdT,rdS];done)));cbv)
  |(refine E.c (SCalls.of_le (kp) ?_ ?_);(· (cbv;(try simp only [nc] at *);first|done|(simp;done)|(simp (disch:=(first|omega|(simp only [lnS];omega))) only [rdT,rdS,anT];first|done|omega|(refine ⟨?_,?_⟩<;>omega))|(simp (disch:=(first|omega|(simp only [lnS];omega))) [rdT,rdS];done)));cbv)
  |(refine E.c (SCalls.of_le (kU) ?_ ?_);(· (cbv;(try simp only [nc] at *);first|done|(simp;done)|(simp (disch:=(first|omega|(simp only [lnS];omega))) only [rdT,rdS,anT];first|done|omega|(refine ⟨?_,?_⟩<;>omega))|(simp (disch:=(first|omega|(simp only [lnS];omega))) [rdT,rdS];done)));cbv)
  |(refine ⟨fun _ h_s=>?_,fun _ h_s=>?_⟩<;>(cbv;(try simp only [nc] at *);try simp (disch:=(first|omega|(simp only [lnS];omega))) only [rdT,rdS,reduceCtorEq,trT] at h_s))
  |(refine hF ?_;intro _;clear hF)
  |(refine hF ?_;cbv;clear hF)
  |(refine ⟨fun _=>?_,?_⟩;(· ((try simp only [nc] at *);first|done|omega|exact ⟨by omega,rfl⟩|(simp (disch:=(first|omega|(simp only [lnS];omega))) only [rdT,rdS];first|done|omega|rfl|exact ⟨by omega,rfl⟩|(simp;done)|(simp;omega))|(intros;trivial)));(try (simp only [nc] at *));(try simp (disch:=(first|omega|(simp only [lnS];omega))) only [rdT,rdS]);(try cbv))
  |(refine E.d 7 (by decide +kernel) ?_;cbv;(fail_if_success guard_target =~ False))
  |(refine E.d 10 (by decide +kernel) ?_;cbv;(fail_if_success guard_target =~ False))
  | fail
 )
 ·rw [show k=2 by assumption,b2];simp
 ·rw [show k=3 by assumption,b3];simp
 ·rw [show k=4 by assumption,b4];simp
 ·rw [show k=6 by assumption,b6];simp
 ·have b5k:B k=(L.find? fun p=>decide (p.1≠p.2)).getD (-1,-1):=by rw [show k=5 by assumption];exact b5
  clear kU kp kh ko kg kt ka kq b0 b2 b3 b4 b6 b5
  refine E.loopS (ι:=Nat) (fun i=>i≤L.length∧(∀ j<i,(L.getD j (0,0)).1=(L.getD j (0,0)).2)) (fun i=>L.length-i) (fun i=>[(10,.i fun _=>((i:Nat):Int))]) (fun i h=>h) 0 (fun _=>by first|rfl|simp) ⟨Nat.zero_le _,?_⟩ ?_ fun i hi I hI=>?_
  ·intro j hj;omega
  ·cbv;simp
  cbv
  obtain ⟨hi,hp⟩:=hi
  repeat' (first
   |(refine hI (i+1) ?_ ?_ ?_;rotate_left 1;(· ((try simp only [nc] at *);omega));(cbv;clear hI;(try clear hF);(try simp only [nc] at *);(try simp (disch:=(first|omega|(simp only [lnS];omega))) only [rdT,rdS,anT]));rotate_left 1;(try ((try simp only [nc] at *);omega)))
   |(refine E.de 5 [2] [] (by decide +kernel) ?_;cbv;(fail_if_success guard_target =~ False))
   |(refine E.de 12 [3] [] (by decide +kernel) ?_;cbv;(fail_if_success guard_target =~ False))
   |(refine ⟨fun _ h_s=>?_,fun _ h_s=>?_⟩<;>(cbv;(try simp only [nc] at *);try simp (disch:=(first|omega|(simp only [lnS];omega))) only [rdT,rdS,reduceCtorEq,trT] at h_s))
   |(refine hF ?_;intro _;clear hF)
   |(refine hF ?_;cbv;clear hF)
   |(refine ⟨fun _=>?_,?_⟩;(· ((try simp only [nc] at *);first|done|omega|exact ⟨by omega,rfl⟩|(simp (disch:=(first|omega|(simp only [lnS];omega))) only [rdT,rdS];first|done|omega|rfl|exact ⟨by omega,rfl⟩|(simp;done)|(simp;omega))|(intros;trivial)));(try (simp only [nc] at *));(try simp (disch:=(first|omega|(simp only [lnS];omega))) only [rdT,rdS]);(try cbv))
   |(refine E.d 7 (by decide +kernel) ?_;cbv;(fail_if_success guard_target =~ False))
   |(refine E.d 10 (by decide +kernel) ?_;cbv;(fail_if_success guard_target =~ False))
   | fail
  )
  ·rw [b5k,find_atE (L:=L) (p:=fun p=>decide (p.1≠p.2)) (d:=(0,0)) (i:=i) (by ((try simp only [nc] at *);omega)) (decide_eq_true h_s) fun j hj=>decide_eq_false fun x=>x (hp j hj)]
   simp
  ·refine ⟨by ((try simp only [nc] at *);omega),fun j hj=>?_⟩
   rcases Nat.lt_or_ge j i with h1 | h1
   ·exact hp j h1
   ·obtain rfl:j=i:=by omega
    exact h_s
  ·push_cast;rfl
  ·have e:i=L.length:=by ((try simp only [nc] at *);omega)
   subst e
   have hno:(L.find? fun p=>decide (p.1≠p.2))=none:=by
    rw [List.find?_eq_none]
    intro x hx
    obtain ⟨j,hj,e⟩:=List.getElem_of_mem hx
    have:=hp j hj
    rw [show L.getD j (0,0)=x by simp [hj,e]] at this
    simpa using this
   rw [b5k,hno]
   simp
 ·rw [b0 (by assumption) (by assumption) (by assumption) (by assumption) (by assumption)];simp
theorem rrules_ok (m:Int):Pure Tryz.prog γ false 32 [.i fun _=>m] (.vs 1 fun _=>is (rulesM m)):=by
 by_cases h1:m=1
 ·rw [show rulesM m=[1,2,6] by unfold rulesM;rw [if_pos h1]]
  refine Pure.go (ty:=ty) ty_eq mo Tryz.func32 rfl Tryz.ntmps32 Tryz.results32 Tryz.call32 (by simp) fun P C CQ D W F E hF=>?_
  cbv
  repeat' (first
   |(refine ⟨fun _ h_s=>?_,fun _ h_s=>?_⟩<;>(cbv;(try simp only [nc] at *);try simp (disch:=(first|omega|(simp only [lnS];omega))) only [rdT,rdS,reduceCtorEq,trT] at h_s))
   |(refine hF ?_;intro _;clear hF)
   |(refine hF ?_;cbv;clear hF)
   |(refine ⟨fun _=>?_,?_⟩;(· ((try simp only [nc] at *);first|done|omega|exact ⟨by omega,rfl⟩|(simp (disch:=(first|omega|(simp only [lnS];omega))) only [rdT,rdS];first|done|omega|rfl|exact ⟨by omega,rfl⟩|(simp;done)|(simp;omega))|(intros;trivial)));(try (simp only [nc] at *));(try simp (disch:=(first|omega|(simp only [lnS];omega))) only [rdT,rdS]);(try cbv))
   | fail
  )
  all_goals first
   | (exfalso;((try simp only [nc] at *);omega))
   | (simp [is,LV.of,LV.l,setAll,AV.nrm,nrms,nrm1];done)
 ·by_cases h2:m=2
  ·rw [show rulesM m=[1,2,3,4,5] by unfold rulesM;rw [if_neg h1,if_pos h2]]
   refine Pure.go (ty:=ty) ty_eq mo Tryz.func32 rfl Tryz.ntmps32 Tryz.results32 Tryz.call32 (by simp) fun P C CQ D W F E hF=>?_
   cbv
   repeat' (first
    |(refine ⟨fun _ h_s=>?_,fun _ h_s=>?_⟩<;>(cbv;(try simp only [nc] at *);try simp (disch:=(first|omega|(simp only [lnS];omega))) only [rdT,rdS,reduceCtorEq,trT] at h_s))
    |(refine hF ?_;intro _;clear hF)
    |(refine hF ?_;cbv;clear hF)
    |(refine ⟨fun _=>?_,?_⟩;(· ((try simp only [nc] at *);first|done|omega|exact ⟨by omega,rfl⟩|(simp (disch:=(first|omega|(simp only [lnS];omega))) only [rdT,rdS];first|done|omega|rfl|exact ⟨by omega,rfl⟩|(simp;done)|(simp;omega))|(intros;trivial)));(try (simp only [nc] at *));(try simp (disch:=(first|omega|(simp only [lnS];omega))) only [rdT,rdS]);(try cbv))
    | fail
   )
   all_goals first
    | (exfalso;((try simp only [nc] at *);omega))
    | (simp [is,LV.of,LV.l,setAll,AV.nrm,nrms,nrm1];done)
  ·rw [show rulesM m=[] by unfold rulesM;rw [if_neg h1,if_neg h2]]
   refine Pure.go (ty:=ty) ty_eq mo Tryz.func32 rfl Tryz.ntmps32 Tryz.results32 Tryz.call32 (by simp) fun P C CQ D W F E hF=>?_
   cbv
   repeat' (first
    |(refine ⟨fun _ h_s=>?_,fun _ h_s=>?_⟩<;>(cbv;(try simp only [nc] at *);try simp (disch:=(first|omega|(simp only [lnS];omega))) only [rdT,rdS,reduceCtorEq,trT] at h_s))
    |(refine hF ?_;intro _;clear hF)
    |(refine hF ?_;cbv;clear hF)
    |(refine ⟨fun _=>?_,?_⟩;(· ((try simp only [nc] at *);first|done|omega|exact ⟨by omega,rfl⟩|(simp (disch:=(first|omega|(simp only [lnS];omega))) only [rdT,rdS];first|done|omega|rfl|exact ⟨by omega,rfl⟩|(simp;done)|(simp;omega))|(intros;trivial)));(try (simp only [nc] at *));(try simp (disch:=(first|omega|(simp only [lnS];omega))) only [rdT,rdS]);(try cbv))
    | fail
   )
   all_goals first
    | (exfalso;((try simp only [nc] at *);omega))
    | (simp [is,LV.of,LV.l];done)
noncomputable def whyP (g:Gr) (R:List Int):(Int × Int × Int) × Bool:=match R.find? fun k=>decide (0≤(brkP g k).1) with
 | some k=>((k,(brkP g k).1,(brkP g k).2),true)
 | none=>((0,0,0),false)
theorem rwhy_ok (g:Gr) (hg:Rd g) (h:GOk g) (m:Int) (hm:m=1∨m=2):Pure Tryz.prog γ false 33 [.i fun _=>m,aGr g] (.tup [.agg [.i fun _=>(whyP g (rulesM m)).1.1,.i fun _=>(whyP g (rulesM m)).1.2.1,.i fun _=>(whyP g (rulesM m)).1.2.2],.b fun _=>(whyP g (rulesM m)).2]):=by
 have kr:=rrules_ok (γ:=γ) m
 have kd:=w15All_yes (γ:=γ) g hg h
 have kb:=fun k=>rbroken_ok (γ:=γ) g hg h k
 have hl:(rulesM m).length≤5∧(rulesM m).length≠0:=by
  rcases hm with rfl | rfl<;>simp [rulesM]
 unfold aDg at kb
 have wy:∀ i,i<(rulesM m).length→0≤(brkP g ((rulesM m).getD i 0)).1→(∀ j<i,¬ 0≤(brkP g ((rulesM m).getD j 0)).1)→whyP g (rulesM m)=(((rulesM m).getD i 0,(brkP g ((rulesM m).getD i 0)).1,(brkP g ((rulesM m).getD i 0)).2),true):=fun i hi h1 h2=>by
  unfold whyP
  rw [find_atE (L:=rulesM m) (p:=fun k=>decide (0≤(brkP g k).1)) (d:=0) hi (decide_eq_true h1) fun j hj=>decide_eq_false (h2 j hj)]
 have wn:(∀ j<(rulesM m).length,¬ 0≤(brkP g ((rulesM m).getD j 0)).1)→whyP g (rulesM m)=((0,0,0),false):=fun h2=>by
  have hno:((rulesM m).find? fun k=>decide (0≤(brkP g k).1))=none:=by
   rw [List.find?_eq_none]
   intro x hx
   obtain ⟨j,hj,e⟩:=List.getElem_of_mem hx
   have:=h2 j hj
   rw [show (rulesM m).getD j 0=x by simp [hj,e]] at this
   simpa using this
  unfold whyP
  rw [hno]
 generalize whyP g (rulesM m)=Y at *
 generalize rulesM m=R at *
 generalize brkP g=B at *
 generalize poF (viewG g) (nG g)=q1 at *
 generalize rfF (viewG g) (nG g)=q2 at *
 generalize coF (viewG g) (nG g)=q3 at *
 generalize frF (viewG g) (nG g)=q4 at *
 generalize swF (viewG g) (nG g)=q5 at *
 generalize ecoF (viewG g) (nG g)=q6 at *
 generalize porfF (viewG g) (nG g)=q7 at *
 generalize hbF (viewG g) (nG g)=q8 at *
 generalize locF (viewG g) (nG g)=q9 at *
 generalize nG g=n at *
 refine Pure.go (ty:=ty) ty_eq mo Tryz.func33 rfl Tryz.ntmps33 Tryz.results33 Tryz.call33 (by simp) fun P C CQ D W F E hF=>?_
 cbv
 repeat' (first
  |(refine E.c (SCalls.of_le (kd) ?_ ?_);(· (cbv;(try simp only [nc] at *);first|done|(simp;done)|(simp (disch:=(first|omega|(simp only [lnS];omega))) only [rdT,rdS,anT];first|done|omega|(refine ⟨?_,?_⟩<;>omega))|(simp (disch:=(first|omega|(simp only [lnS];omega))) [rdT,rdS];done)));cbv)
  |(refine E.c (SCalls.of_le (kr) ?_ ?_);(· (cbv;(try simp only [nc] at *);first|done|(simp;done)|(simp (disch:=(first|omega|(simp only [lnS];omega))) only [rdT,rdS,anT];first|done|omega|(refine ⟨?_,?_⟩<;>omega))|(simp (disch:=(first|omega|(simp only [lnS];omega))) [rdT,rdS];done)));cbv)
  |(refine ⟨fun _ h_s=>?_,fun _ h_s=>?_⟩<;>(cbv;(try simp only [nc] at *);try simp (disch:=(first|omega|(simp only [lnS];omega))) only [rdT,rdS,reduceCtorEq,trT] at h_s))
  |(refine hF ?_;intro _;clear hF)
  |(refine hF ?_;cbv;clear hF)
  |(refine ⟨fun _=>?_,?_⟩;(· ((try simp only [nc] at *);first|done|omega|exact ⟨by omega,rfl⟩|(simp (disch:=(first|omega|(simp only [lnS];omega))) only [rdT,rdS];first|done|omega|rfl|exact ⟨by omega,rfl⟩|(simp;done)|(simp;omega))|(intros;trivial)));(try (simp only [nc] at *));(try simp (disch:=(first|omega|(simp only [lnS];omega))) only [rdT,rdS]);(try cbv))
  | fail
 )
 ·exfalso;((try simp only [nc] at *);omega)
 ·exact absurd h_s (by simp)
 refine E.loopS (ι:=Nat) (fun i=>i≤R.length∧(∀ j<i,¬ 0≤(B (R.getD j 0)).1)) (fun i=>R.length-i) (fun i=>[(9,.i fun _=>((i:Nat):Int))]) (fun i h=>h) 0 (fun _=>by first|rfl|simp) ⟨Nat.zero_le _,?_⟩ ?_ fun i hi I hI=>?_
 ·intro j hj;omega
 ·cbv;simp
 cbv
 obtain ⟨hi,hp⟩:=hi
 have kbi:=kb (R.getD i 0)
 repeat' (first
  |(refine hI (i+1) ?_ ?_ ?_;rotate_left 1;(· ((try simp only [nc] at *);omega));(cbv;clear hI;(try clear hF);(try simp only [nc] at *);(try simp (disch:=(first|omega|(simp only [lnS];omega))) only [rdT,rdS,anT]));rotate_left 1;(try ((try simp only [nc] at *);omega)))
  |((first|refine E.c (SCalls.of_le (kbi) ?_ ?_)|refine E.q (QCalls.of_le (kbi) ?_ ?_));(· (cbv;(try simp only [nc] at *);first|done|(simp;done)|(simp (disch:=(first|omega|(simp only [lnS];omega))) only [rdT,rdS,anT];first|done|omega|(refine ⟨?_,?_⟩<;>omega))|(simp (disch:=(first|omega|(simp only [lnS];omega))) [rdT,rdS];done)));cbv)
  |(refine E.de 12 [] [none] (by decide +kernel) ?_;cbv;(fail_if_success guard_target =~ False))
  |(refine ⟨fun _ h_s=>?_,fun _ h_s=>?_⟩<;>(cbv;(try simp only [nc] at *);try simp (disch:=(first|omega|(simp only [lnS];omega))) only [rdT,rdS,reduceCtorEq,trT] at h_s))
  |(refine hF ?_;intro _;clear hF)
  |(refine hF ?_;cbv;clear hF)
  |(refine ⟨fun _=>?_,?_⟩;(· ((try simp only [nc] at *);first|done|omega|exact ⟨by omega,rfl⟩|(simp (disch:=(first|omega|(simp only [lnS];omega))) only [rdT,rdS];first|done|omega|rfl|exact ⟨by omega,rfl⟩|(simp;done)|(simp;omega))|(intros;trivial)));(try (simp only [nc] at *));(try simp (disch:=(first|omega|(simp only [lnS];omega))) only [rdT,rdS]);(try cbv))
  | fail
 )
 ·rw [wy i (by ((try simp only [nc] at *);omega)) h_s hp];simp
 ·refine ⟨by ((try simp only [nc] at *);omega),fun j hj=>?_⟩
  rcases Nat.lt_or_ge j i with h1 | h1
  ·exact hp j h1
  ·obtain rfl:j=i:=by omega
   first
    | exact h_s
    | omega
 ·push_cast;rfl
 ·have e:i=R.length:=by ((try simp only [nc] at *);omega)
  subst e
  rw [wn hp];simp
theorem rcheck16_ok (g:Gr) (hg:Rd g) (h:GOk g) (m:Int) (hm:m=1∨m=2):Pure Tryz.prog γ false 19 [.i fun _=>m,aGr g] (.tup [.b fun _=>!(whyP g (rulesM m)).2,.i fun _=>0]):=by
 have kr:=rrules_ok (γ:=γ) m
 have kw:=rwhy_ok (γ:=γ) g hg h m hm
 have hl:(rulesM m).length≤5∧(rulesM m).length≠0:=by
  rcases hm with rfl | rfl<;>simp [rulesM]
 generalize whyP g (rulesM m)=Y at *
 generalize rulesM m=R at *
 refine Pure.go (ty:=ty) ty_eq mo Tryz.func19 rfl Tryz.ntmps19 Tryz.results19 Tryz.call19 (by simp) fun P C CQ D W F E hF=>?_
 cbv
 repeat' (first
  |(refine E.c (SCalls.of_le (kw) ?_ ?_);(· (cbv;(try simp only [nc] at *);first|done|(simp;done)|(simp (disch:=(first|omega|(simp only [lnS];omega))) only [rdT,rdS,anT];first|done|omega|(refine ⟨?_,?_⟩<;>omega))|(simp (disch:=(first|omega|(simp only [lnS];omega))) [rdT,rdS];done)));cbv)
  |(refine E.c (SCalls.of_le (kr) ?_ ?_);(· (cbv;(try simp only [nc] at *);first|done|(simp;done)|(simp (disch:=(first|omega|(simp only [lnS];omega))) only [rdT,rdS,anT];first|done|omega|(refine ⟨?_,?_⟩<;>omega))|(simp (disch:=(first|omega|(simp only [lnS];omega))) [rdT,rdS];done)));cbv)
  |(refine ⟨fun _ h_s=>?_,fun _ h_s=>?_⟩<;>(cbv;(try simp only [nc] at *);try simp (disch:=(first|omega|(simp only [lnS];omega))) only [rdT,rdS,reduceCtorEq,trT] at h_s))
  |(refine hF ?_;intro _;clear hF)
  |(refine hF ?_;cbv;clear hF)
  |(refine ⟨fun _=>?_,?_⟩;(· ((try simp only [nc] at *);first|done|omega|exact ⟨by omega,rfl⟩|(simp (disch:=(first|omega|(simp only [lnS];omega))) only [rdT,rdS];first|done|omega|rfl|exact ⟨by omega,rfl⟩|(simp;done)|(simp;omega))|(intros;trivial)));(try (simp only [nc] at *));(try simp (disch:=(first|omega|(simp only [lnS];omega))) only [rdT,rdS]);(try cbv))
  | fail
 )
 all_goals first
  | (exfalso;((try simp only [nc] at *);omega))
  | (simp;done)
end Go.AL.Rl
namespace Go.AL.Rl
open Go Go.AL Go.Proofs
set_option maxRecDepth 100000
set_option maxHeartbeats 3200000
end Go.AL.Rl
namespace Go.AL.Rl
open Go Go.AL Go.Proofs
set_option maxRecDepth 100000
set_option maxHeartbeats 3200000
variable {γ:Nat→Option AV}
theorem pairs_in {rows:List (BitVec 64)} {a b:Nat} (h:bit rows a b=true):((a:Int),(b:Int))∈pairsM rows:=by
 have ha:a<rows.length:=by
  rcases Nat.lt_or_ge a rows.length with h1 | h1
  ·exact h1
  ·rw [bit_out h1] at h;cases h
 have hb:b<64:=by
  rcases Nat.lt_or_ge b 64 with h1 | h1
  ·exact h1
  ·unfold bit at h;rw [BitVec.getLsbD_of_ge _ b h1] at h;cases h
 unfold pairsM prows
 simp only [List.mem_flatMap,List.mem_range,prow,List.mem_map,List.mem_filter]
 exact ⟨a,ha,b,⟨hb,h⟩,rfl⟩
theorem circ_lead {n:Nat} {rows:List (BitVec 64)} (h:rows.length=n):(circF rows).br=(leadM (fun i=>bit rows i i) n).isSome:=by
 unfold circF
 rw [h]
 cases leadM (fun i=>bit rows i i) n<;>rfl
theorem brk_flt {g:Gr} (h:GOk g) (k:Int):0≤(brkP g k).1↔(fltM (viewG g) (nG g) k).br=true:=by
 have hn:=(viewG_wf h).small
 have f1:=fits_poF (viewG g) hn
 have f2:=fits_rfF (viewG g) hn
 have f6:Fits (nG g:Nat) (porfF (viewG g) (nG g)):=fits_plus (fits_or2 f1 f2)
 have f7:=hb_fits (viewG g) hn
 have f8:=fits_plus (fits_tog (viewG_wf h))
 have e6:(porfF (viewG g) (nG g)).length=nG g:=by have:=f6.2.2.1;omega
 have e7:(hbF (viewG g) (nG g)).length=nG g:=by have:=f7.2.2.1;omega
 have e8:(plusM (nG g) (togF (viewG g) (nG g))).length=nG g:=by have:=f8.2.2.1;omega
 unfold brkP fltM
 by_cases h2:k=2
 ·rw [if_pos h2,if_pos h2,fstI_iff]
  unfold updF
  cases leadM (updB (viewG g)) (nG g)<;>simp [ftOf,ft0]
 rw [if_neg h2,if_neg h2]
 by_cases h3:k=3
 ·rw [if_pos h3,if_pos h3,fstI_iff,plus_porf _ hn,circ_lead e6]
 rw [if_neg h3,if_neg h3]
 by_cases h4:k=4
 ·rw [if_pos h4,if_pos h4,fstI_iff,plus_hb _ hn,circ_lead e7]
 rw [if_neg h4,if_neg h4]
 by_cases h6:k=6
 ·rw [if_pos h6,if_neg (by omega),if_pos h6,fstI_iff,circ_lead e8]
 rw [if_neg h6]
 by_cases h5:k=5
 ·rw [if_pos h5,if_pos h5,coh_br]
  have hand:=fun i j=>bit_and (a:=hbF (viewG g) (nG g)) (b:=turnM (ecoF (viewG g) (nG g))) f7 i j
  constructor
  ·intro hge
   cases e:(pairC g).find? fun p=>decide (p.1≠p.2) with
   | none=>rw [e] at hge;simp at hge
   | some p=>
    have hm:=List.mem_of_find?_eq_some e
    have hne:=List.find?_some e
    simp only [decide_eq_true_eq] at hne
    obtain ⟨a,b,rfl,hb⟩:=pairs_mem hm
    obtain ⟨b1,b2⟩:=(hand a b).1 hb
    rw [bit_turn (eco_fits (viewG g) hn)] at b2
    refine ⟨a,(fits_bits f7 b1).1,b,(fits_bits (eco_fits (viewG g) hn) b2).1,?_⟩
    unfold cohB
    have hab:a≠b:=fun e=>hne (by simp only;omega)
    simp [b1,b2,hab]
  ·rintro ⟨a,_,b,_,hc⟩
   unfold cohB at hc
   simp only [Bool.and_eq_true,decide_eq_true_eq] at hc
   have hin:((a:Int),(b:Int))∈pairC g:=pairs_in ((hand a b).2 ⟨hc.1.2,(bit_turn (eco_fits (viewG g) hn) _ _).2 hc.2⟩)
   cases e:(pairC g).find? fun p=>decide (p.1≠p.2) with
   | none=>
    rw [List.find?_eq_none] at e
    have:=e _ hin
    simp only [decide_eq_true_eq] at this
    exact absurd (fun e=>hc.1.1 (by omega)) this
   | some p=>
    have hm:=List.mem_of_find?_eq_some e
    obtain ⟨a,b,rfl,_⟩:=pairs_mem hm
    simp only [Option.getD_some]
    omega
 rw [if_neg h5,if_neg h5,if_neg h6]
 simp [ft0]
end Go.AL.Rl
namespace Go.AL.Rl
open Go Go.AL Go.Proofs
set_option maxRecDepth 100000
set_option maxHeartbeats 1600000
variable {γ:Nat→Option AV}
theorem why_hold {g:Gr} (hg:GOk g) (l:List Int):(!(whyP g l).2)=allHold g l:=by
 rw [find_all]
 unfold whyP
 have e:(fun k=>decide (0≤(brkP g k).1))=fun k=>(fltM (viewG g) (nG g) k).br:=funext fun k=>by
  rw [Bool.eq_iff_iff,decide_eq_true_iff];exact brk_flt hg k
 rw [e]
 cases l.find? fun k=>(fltM (viewG g) (nG g) k).br<;>rfl
theorem rwhy_no (g:Gr) (hR:Rd g) (hg:¬ GOk g) (m:Int) (hm:m=1∨m=2):Pure Tryz.prog γ false 33 [.i fun _=>m,aGr g] (.tup [.agg [.i fun _=>1,.i fun _=>-1,.i fun _=>-1],.b fun _=>true]):=by
 have kr:=rrules_ok (γ:=γ) m
 have kd:=w15All_no (γ:=γ) g hR hg
 have hl:(rulesM m).length≤5∧(rulesM m).length≠0:=by
  rcases hm with rfl | rfl<;>simp [rulesM]
 generalize rulesM m=R at *
 refine Pure.go (ty:=ty) ty_eq mo Tryz.func33 rfl Tryz.ntmps33 Tryz.results33 Tryz.call33 (by simp) fun P C CQ D W F E hF=>?_
 cbv
 repeat' (first
  |(refine E.c (SCalls.of_le (kd) ?_ ?_);(· (cbv;(try simp only [nc] at *);first|done|(simp;done)|(simp (disch:=(first|omega|(simp only [lnS];omega))) only [rdT,rdS,anT];first|done|omega|(refine ⟨?_,?_⟩<;>omega))|(simp (disch:=(first|omega|(simp only [lnS];omega))) [rdT,rdS];done)));cbv)
  |(refine E.c (SCalls.of_le (kr) ?_ ?_);(· (cbv;(try simp only [nc] at *);first|done|(simp;done)|(simp (disch:=(first|omega|(simp only [lnS];omega))) only [rdT,rdS,anT];first|done|omega|(refine ⟨?_,?_⟩<;>omega))|(simp (disch:=(first|omega|(simp only [lnS];omega))) [rdT,rdS];done)));cbv)
  |(refine ⟨fun _ h_s=>?_,fun _ h_s=>?_⟩<;>(cbv;(try simp only [nc] at *);try simp (disch:=(first|omega|(simp only [lnS];omega))) only [rdT,rdS,reduceCtorEq,trT] at h_s))
  |(refine hF ?_;intro _;clear hF)
  |(refine hF ?_;cbv;clear hF)
  |(refine ⟨fun _=>?_,?_⟩;(· ((try simp only [nc] at *);first|done|omega|exact ⟨by omega,rfl⟩|(simp (disch:=(first|omega|(simp only [lnS];omega))) only [rdT,rdS];first|done|omega|rfl|exact ⟨by omega,rfl⟩|(simp;done)|(simp;omega))|(intros;trivial)));(try (simp only [nc] at *));(try simp (disch:=(first|omega|(simp only [lnS];omega))) only [rdT,rdS]);(try cbv))
  | fail
 )
 all_goals first
  | (exfalso;((try simp only [nc] at *);omega))
  | (simp;done)
theorem rcheckA (m:Int) (g:Gr) (hR:Rd g):Pure Tryz.prog γ false 19 [.i fun _=>m,aGr g] (.tup [.b fun _=>okM m g,.i fun _=>okE m]):=by
 by_cases hm:m=1∨m=2
 ·have e:okE m=0:=if_pos hm
  rw [e]
  by_cases hg:GOk g
  ·rw [okM_yes hm hg,←why_hold hg]
   exact rcheck16_ok g hR hg m hm
  ·rw [okM_no hg]
   have kr:=rrules_ok (γ:=γ) m
   have kw:=rwhy_no (γ:=γ) g hR hg m hm
   have hl:(rulesM m).length≤5∧(rulesM m).length≠0:=by
    rcases hm with rfl | rfl<;>simp [rulesM]
   generalize rulesM m=R at *
   refine Pure.go (ty:=ty) ty_eq mo Tryz.func19 rfl Tryz.ntmps19 Tryz.results19 Tryz.call19 (by simp) fun P C CQ D W F E hF=>?_
   cbv
   repeat' (first
    |(refine E.c (SCalls.of_le (kw) ?_ ?_);(· (cbv;(try simp only [nc] at *);first|done|(simp;done)|(simp (disch:=(first|omega|(simp only [lnS];omega))) only [rdT,rdS,anT];first|done|omega|(refine ⟨?_,?_⟩<;>omega))|(simp (disch:=(first|omega|(simp only [lnS];omega))) [rdT,rdS];done)));cbv)
    |(refine E.c (SCalls.of_le (kr) ?_ ?_);(· (cbv;(try simp only [nc] at *);first|done|(simp;done)|(simp (disch:=(first|omega|(simp only [lnS];omega))) only [rdT,rdS,anT];first|done|omega|(refine ⟨?_,?_⟩<;>omega))|(simp (disch:=(first|omega|(simp only [lnS];omega))) [rdT,rdS];done)));cbv)
    |(refine ⟨fun _ h_s=>?_,fun _ h_s=>?_⟩<;>(cbv;(try simp only [nc] at *);try simp (disch:=(first|omega|(simp only [lnS];omega))) only [rdT,rdS,reduceCtorEq,trT] at h_s))
    |(refine hF ?_;intro _;clear hF)
    |(refine hF ?_;cbv;clear hF)
    |(refine ⟨fun _=>?_,?_⟩;(· ((try simp only [nc] at *);first|done|omega|exact ⟨by omega,rfl⟩|(simp (disch:=(first|omega|(simp only [lnS];omega))) only [rdT,rdS];first|done|omega|rfl|exact ⟨by omega,rfl⟩|(simp;done)|(simp;omega))|(intros;trivial)));(try (simp only [nc] at *));(try simp (disch:=(first|omega|(simp only [lnS];omega))) only [rdT,rdS]);(try cbv))
    | fail
   )
   all_goals first
    | (exfalso;((try simp only [nc] at *);omega))
    | (simp;done)
 ·have e:okE m=2:=if_neg hm
  rw [okM_bad hm,e]
  have kr:=rrules_ok (γ:=γ) m
  have e2:rulesM m=[]:=by unfold rulesM;rw [if_neg (by omega),if_neg (by omega)]
  rw [e2] at kr
  refine Pure.go (ty:=ty) ty_eq mo Tryz.func19 rfl Tryz.ntmps19 Tryz.results19 Tryz.call19 (by simp) fun P C CQ D W F E hF=>?_
  cbv
  repeat' (first
   |(refine E.c (SCalls.of_le (kr) ?_ ?_);(· (cbv;(try simp only [nc] at *);first|done|(simp;done)|(simp (disch:=(first|omega|(simp only [lnS];omega))) only [rdT,rdS,anT];first|done|omega|(refine ⟨?_,?_⟩<;>omega))|(simp (disch:=(first|omega|(simp only [lnS];omega))) [rdT,rdS];done)));cbv)
   |(refine ⟨fun _ h_s=>?_,fun _ h_s=>?_⟩<;>(cbv;(try simp only [nc] at *);try simp (disch:=(first|omega|(simp only [lnS];omega))) only [rdT,rdS,reduceCtorEq,trT] at h_s))
   |(refine hF ?_;intro _;clear hF)
   |(refine hF ?_;cbv;clear hF)
   |(refine ⟨fun _=>?_,?_⟩;(· ((try simp only [nc] at *);first|done|omega|exact ⟨by omega,rfl⟩|(simp (disch:=(first|omega|(simp only [lnS];omega))) only [rdT,rdS];first|done|omega|rfl|exact ⟨by omega,rfl⟩|(simp;done)|(simp;omega))|(intros;trivial)));(try (simp only [nc] at *));(try simp (disch:=(first|omega|(simp only [lnS];omega))) only [rdT,rdS]);(try cbv))
   | fail
  )
  all_goals first
   | (exfalso;revert h_s;simp;done)
   | (simp;done)
end Go.AL.Rl
namespace Go.AL.Rl
open Go Go.AL Go.Proofs
set_option maxRecDepth 100000
set_option maxHeartbeats 3200000
variable {γ:Nat→Option AV}
theorem gWrites_ok (g:Gr) (hg:Rd g) (h:GOk g) (x:Int):Pure Tryz.prog γ false 17 [aGr g,.i fun _=>x] (.vs 2 fun _=>ids (wrsM g x)):=by
 have kc:=gcheck_ok (γ:=γ) g hg
 rw [gcheck0 h] at kc
 have hlo:=h.lord
 have hin:=h.short.init
 by_cases hx:0≤x∧x<g.init.length
 ·have hol:=ord_le h x.toNat
  unfold wrsM
  rw [if_pos hx]
  refine Pure.goO (ty:=ty) ty_eq mo Tryz.func17 rfl Tryz.ntmps17 Tryz.results17 Tryz.call17 (by simp) fun P C CQ D W F E RO hF=>?_
  refine E.cut 3 (told 28 [(1,.i fun _=>x),(2,.ptr 0 0)] [.box (aGr g)]) (by kernel_rfl) (Nat.zero_le _) (fun I hI=>?_) ?_
  ·cbv
   repeat' (first
    |(refine E.c (SCalls.of_le (kc) ?_ ?_);(· (cbv;(try simp only [nc] at *);first|done|(simp;done)|(simp (disch:=(first|omega|(simp only [lnS];omega))) only [rdT,rdS,anT];first|done|omega|(refine ⟨?_,?_⟩<;>omega))|(simp (disch:=(first|omega|(simp only [lnS];omega))) [rdT,rdS];done)));cbv)
    |(refine ⟨fun _ h_s=>?_,fun _ h_s=>?_⟩<;>(cbv;(try simp only [nc] at *);try simp (disch:=(first|omega|(simp only [lnS];omega))) only [rdT,rdS,reduceCtorEq,trT] at h_s))
    |(refine hF ?_;intro _;clear hF)
    |(refine hF ?_;cbv;clear hF)
    |(refine ⟨fun _=>?_,?_⟩;(· ((try simp only [nc] at *);first|done|omega|exact ⟨by omega,rfl⟩|(simp (disch:=(first|omega|(simp only [lnS];omega))) only [rdT,rdS];first|done|omega|rfl|exact ⟨by omega,rfl⟩|(simp;done)|(simp;omega))|(intros;trivial)));(try (simp only [nc] at *));(try simp (disch:=(first|omega|(simp only [lnS];omega))) only [rdT,rdS]);(try cbv))
    | fail
   )
   ·exact absurd h_s (by simp)
   ·exfalso;((try simp only [nc] at *);omega)
   ·exfalso;((try simp only [nc] at *);omega)
   ·refine hI ?_
    cbv;simp
  refine RO [21] ?_
  cbv
  skip
  skip
  repeat' (first
   |(refine ⟨fun _ h_s=>?_,fun _ h_s=>?_⟩<;>(cbv;(try simp only [nc] at *);try simp (disch:=(first|omega|(simp only [lnS];omega))) only [rdT,rdS,reduceCtorEq,trT] at h_s))
   |(refine hF ?_;intro _;clear hF)
   |(refine hF ?_;cbv;clear hF)
   |(refine ⟨fun _=>?_,?_⟩;(· ((try simp only [nc] at *);first|done|omega|exact ⟨by omega,rfl⟩|(simp (disch:=(first|omega|(simp only [lnS];omega))) only [rdT,rdS];first|done|omega|rfl|exact ⟨by omega,rfl⟩|(simp;done)|(simp;omega))|(intros;trivial)|(intro v hv;simp [setAll,AV.nrm,nrms,nrm1] at hv;subst hv;rfl)|exact ⟨by first|trivial|rfl,by first|trivial|rfl,by first|trivial|(simp [setAll];done),by first|omega|(simp [setAll];omega),by first|omega|(simp [setAll];omega),idsFlat _⟩));(try (simp only [nc] at *));(try simp (disch:=(first|omega|(simp only [lnS];omega))) only [rdT,rdS]);(try cbv))
   | fail
  )
  intro _
  refine ⟨rfl,by simp [setAll];omega,?_⟩
  rw [List.drop_zero,List.take_of_length_le (by simp [setAll];omega)]
  simp [ids,setAll,AV.nrm,nrms,nrm1]
  try rfl
 ·unfold wrsM
  rw [if_neg hx]
  refine Pure.go (ty:=ty) ty_eq mo Tryz.func17 rfl Tryz.ntmps17 Tryz.results17 Tryz.call17 (by simp) fun P C CQ D W F E hF=>?_
  cbv
  repeat' (first
   |(refine E.c (SCalls.of_le (kc) ?_ ?_);(· (cbv;(try simp only [nc] at *);first|done|(simp;done)|(simp (disch:=(first|omega|(simp only [lnS];omega))) only [rdT,rdS,anT];first|done|omega|(refine ⟨?_,?_⟩<;>omega))|(simp (disch:=(first|omega|(simp only [lnS];omega))) [rdT,rdS];done)));cbv)
   |(refine ⟨fun _ h_s=>?_,fun _ h_s=>?_⟩<;>(cbv;(try simp only [nc] at *);try simp (disch:=(first|omega|(simp only [lnS];omega))) only [rdT,rdS,reduceCtorEq,trT] at h_s))
   |(refine hF ?_;intro _;clear hF)
   |(refine hF ?_;cbv;clear hF)
   |(refine ⟨fun _=>?_,?_⟩;(· ((try simp only [nc] at *);first|done|omega|exact ⟨by omega,rfl⟩|(simp (disch:=(first|omega|(simp only [lnS];omega))) only [rdT,rdS];first|done|omega|rfl|exact ⟨by omega,rfl⟩|(simp;done)|(simp;omega))|(intros;trivial)|(intro v hv;simp [setAll,AV.nrm,nrms,nrm1] at hv;subst hv;rfl)|exact ⟨by first|trivial|rfl,by first|trivial|rfl,by first|trivial|(simp [setAll];done),by first|omega|(simp [setAll];omega),by first|omega|(simp [setAll];omega),idsFlat _⟩));(try (simp only [nc] at *));(try simp (disch:=(first|omega|(simp only [lnS];omega))) only [rdT,rdS]);(try cbv))
   | fail
  )
  all_goals first
   | (exfalso;((try simp only [nc] at *);omega))
   | rfl
noncomputable def rdyM (m:Int) (g:Gr) (t:Int):Bool:=okM m g && (decide (1≤t) && decide (t≤(g.th.length:Nat)))
theorem ready_ok (m:Int) (g:Gr) (hR:Rd g) (t:Int):Pure Tryz.prog γ false 15 [.i fun _=>m,aGr g,.i fun _=>t] (.b fun _=>rdyM m g t):=by
 unfold rdyM
 have kc:=mcheckA (γ:=γ) m g hR
 have he:okM m g=true→okE m=0:=fun h=>by
  unfold okE
  by_cases hm:m=1∨m=2
  ·rw [if_pos hm]
  ·rw [okM_bad hm] at h;cases h
 generalize okM m g=b at *
 generalize okE m=c at *
 refine Pure.go (ty:=ty) ty_eq mo Tryz.func15 rfl Tryz.ntmps15 Tryz.results15 Tryz.call15 (by simp) fun P C CQ D W F E hF=>?_
 cbv
 repeat' (first
  |(refine E.c (SCalls.of_le (kc) ?_ ?_);(· (cbv;(try simp only [nc] at *);first|done|(simp;done)|(simp (disch:=(first|omega|(simp only [lnS];omega))) only [rdT,rdS,anT];first|done|omega|(refine ⟨?_,?_⟩<;>omega))|(simp (disch:=(first|omega|(simp only [lnS];omega))) [rdT,rdS];done)));cbv)
  |(refine ⟨fun _ h_s=>?_,fun _ h_s=>?_⟩<;>(cbv;(try simp only [nc] at *);try simp (disch:=(first|omega|(simp only [lnS];omega))) only [rdT,rdS,reduceCtorEq,trT] at h_s))
  |(refine hF ?_;intro _;clear hF)
  |(refine hF ?_;cbv;clear hF)
  |(refine ⟨fun _=>?_,?_⟩;(· ((try simp only [nc] at *);first|done|omega|exact ⟨by omega,rfl⟩|(simp (disch:=(first|omega|(simp only [lnS];omega))) only [rdT,rdS];first|done|omega|rfl|exact ⟨by omega,rfl⟩|(simp;done)|(simp;omega))|(intros;trivial)|(intro v hv;simp [setAll,AV.nrm,nrms,nrm1] at hv;subst hv;rfl)|exact ⟨by first|trivial|rfl,by first|trivial|rfl,by first|trivial|(simp [setAll];done),by first|omega|(simp [setAll];omega),by first|omega|(simp [setAll];omega),idsFlat _⟩));(try (simp only [nc] at *));(try simp (disch:=(first|omega|(simp only [lnS];omega))) only [rdT,rdS]);(try cbv))
  | fail
 )
 all_goals first
  | (simp_all;done)
  | (exfalso;have:=he (by assumption);contradiction)
  | (simp_all;omega)
theorem places_ok (m:Int) (g:Gr) (hg:GOk g) (t:Int) (e:Ev) (d:EId)
  (hA:∀ p,Pure Tryz.prog γ false 31 [aGr g,.i fun _=>t,aEv e,aId d,.i fun _=>p] (.tup [aGr (addR g t e d p),.i fun _=>addE g t e d p])) :
  Pure Tryz.prog γ false 18 [.i fun _=>m,aGr g,.i fun _=>t,aEv e,aId d] (.tup [.vs 1 fun _=>is (plsM m g t e d),.b fun _=>mayM g t e d]):=by
 have hR:=rd_short hg
 have kw:=gWrites_ok (γ:=γ) g hR hg e.loc
 have kc:=fun p=>mcheckA (γ:=γ) m (addR g t e d p) (rd_addR hg t e d p)
 have hN:=plN_le hg e
 obtain ⟨M,hM⟩:∃ M:Nat→List Int,∀ k,M k=plcTo m g t e d k:=⟨_,fun _=>rfl⟩
 obtain ⟨Y,hY⟩:∃ Y:Nat→Bool,∀ k,Y k=mayTo g t e d k:=⟨_,fun _=>rfl⟩
 have m0:M 0=[]:=by rw [hM];rfl
 have y0:Y 0=false:=by rw [hY];rfl
 have mS:∀ k:Nat,M (k+1)=M k++if (decide (addE g t e d (plLo e+k)=0) && okM m (addR g t e d (plLo e+k)))=true then [plLo e+k] else []:=fun k=>by rw [hM,hM];rfl
 have yS:∀ k:Nat,Y (k+1)=(Y k || decide (addE g t e d (plLo e+k)=0)):=fun k=>by rw [hY,hY];rfl
 have mL:∀ k,(M k).length≤k:=fun k=>by rw [hM];exact plcTo_len m g t e d k
 have mE:plsM m g t e d=M (plN g e):=(hM _).symm
 have yE:mayM g t e d=Y (plN g e):=(hY _).symm
 rw [mE,yE]
 clear hM hY mE yE
 obtain ⟨lo,hlo⟩:∃ lo,lo=plLo e:=⟨_,rfl⟩
 obtain ⟨N,hNe⟩:∃ N,N=plN g e:=⟨_,rfl⟩
 rw [←hlo] at mS yS
 rw [←hNe] at hN ⊢
 have hcase:(e.kind=2∨e.kind=3)∧lo=1∧(wrsM g e.loc).length=N∨¬ (e.kind=2∨e.kind=3)∧lo=0∧N=1:=by
  rw [hlo,hNe]
  unfold plLo plN writesM
  by_cases h:e.kind=2∨e.kind=3
  ·left;simp [h]
  ·right;simp [h]
 clear hlo hNe
 generalize okM m=ok at *
 generalize okE m=oe at *
 generalize wrsM g e.loc=wl at *
 obtain ⟨G,hG⟩:∃ G:List Int→Nat,∀ l,G l=l.length:=⟨_,fun _=>rfl⟩
 have hG0:G []=0:=by rw [hG];rfl
 generalize addR g t e d=AR at *
 generalize addE g t e d=AE at *
 refine Pure.goL (ty:=ty) ty_eq mo Tryz.func18 rfl Tryz.ntmps18 Tryz.results18 Tryz.call18 (by simp) fun P C CQ D W F E hF=>?_
 refine E.cut 4 (told 62 [(0,.i fun _=>m),(2,.i fun _=>t),(6,.ptr 0 0),(8,.ptr 1 0),(9,.ptr 2 0),(10,.nils),(11,.b fun _=>false),(12,.i fun _=>lo),(13,.i fun _=>lo+N-1)] [.box (aGr g),.box (aEv e),.box (aId d)]) (by kernel_rfl) (Nat.zero_le _) (fun I hI=>?_) (E.bl ?_)
 ·cbv
  repeat' (first
   |(refine E.c (SCalls.of_le (kw) ?_ ?_);(· (cbv;(try simp only [nc] at *);first|done|(simp;done)|(simp (disch:=(first|omega|(simp only [lnS];omega))) only [rdT,rdS,anT];first|done|omega|(refine ⟨?_,?_⟩<;>omega))|(simp (disch:=(first|omega|(simp only [lnS];omega))) [rdT,rdS];done)));cbv)
   |(refine ⟨fun _ h_s=>?_,fun _ h_s=>?_⟩<;>(cbv;(try simp only [nc] at *);try simp (disch:=(first|omega|(simp only [lnS];omega))) only [rdT,rdS,reduceCtorEq,trT] at h_s))
   |(refine hF ?_;intro _;clear hF)
   |(refine hF ?_;cbv;clear hF)
   |(refine ⟨fun _=>?_,?_⟩;(· ((try simp only [nc] at *);first|done|omega|exact ⟨by omega,rfl⟩|(simp (disch:=(first|omega|(simp only [lnS];omega))) only [rdT,rdS];first|done|omega|rfl|exact ⟨by omega,rfl⟩|(simp;done)|(simp;omega))|(intros;trivial)|(intro v hv;simp [setAll,AV.nrm,nrms,nrm1] at hv;subst hv;rfl)|exact ⟨by first|trivial|rfl,by first|trivial|rfl,by first|trivial|(simp [setAll];done),by first|omega|(simp [setAll];omega),by first|omega|(simp [setAll];omega),idsFlat _⟩));(try (simp only [nc] at *));(try simp (disch:=(first|omega|(simp only [lnS];omega))) only [rdT,rdS]);(try cbv))
   | fail
  )
  all_goals refine hI ?_
  all_goals cbv
  all_goals simp
  all_goals omega
 cbv
 repeat' (first
  |(refine ⟨fun _ h_s=>?_,fun _ h_s=>?_⟩<;>(cbv;(try simp only [nc] at *);try simp (disch:=(first|omega|(simp only [lnS];omega))) only [rdT,rdS,reduceCtorEq,trT] at h_s))
  |(refine hF ?_;intro _;clear hF)
  |(refine hF ?_;cbv;clear hF)
  |(refine ⟨fun _=>?_,?_⟩;(· ((try simp only [nc] at *);first|done|omega|exact ⟨by omega,rfl⟩|(simp (disch:=(first|omega|(simp only [lnS];omega))) only [rdT,rdS];first|done|omega|rfl|exact ⟨by omega,rfl⟩|(simp;done)|(simp;omega))|(intros;trivial)|(intro v hv;simp [setAll,AV.nrm,nrms,nrm1] at hv;subst hv;rfl)|exact ⟨by first|trivial|rfl,by first|trivial|rfl,by first|trivial|(simp [setAll];done),by first|omega|(simp [setAll];omega),by first|omega|(simp [setAll];omega),idsFlat _⟩));(try (simp only [nc] at *));(try simp (disch:=(first|omega|(simp only [lnS];omega))) only [rdT,rdS]);(try cbv))
  | fail
 )
 refine E.w (AWP.ghostSlot 10 1 rfl (by omega) (E.loopSA (ι:=Nat) (fun i=>i≤N) (fun i=>N-i) (fun i=>[(14,.i fun _=>lo+((i:Nat):Int)),(10,.sl 3 (G (M i)) 1 (fun _=>0) fun _=>(M i).length),(11,.b fun _=>Y i)]) (fun i h=>h.set 3 (.run (G (M i)) 1 fun _=>is (M i))) 0 (fun _=>by first | rfl | simp) (Nat.zero_le _) ?_ fun i hi I hI=>?_))
 ·cbv;simp [m0,y0,hG0,is,LV.of]
 cbv
 have hS:=mS i
 have hY:=yS i
 have hL:=mL i
 have ka:=hA (lo+i)
 have kk:=kc (lo+i)
 skip
 repeat' (first
  |(refine hI (i+1) ?_ ?_ ?_;rotate_left 1;(· ((try simp only [nc] at *);omega));(cbv;clear hI;(try clear hF);(try simp only [nc] at *);(try simp (disch:=(first|omega|(simp only [lnS];omega))) only [rdT,rdS,anT]));rotate_left 1;(try ((try simp only [nc] at *);omega)))
  |(refine E.c (SCalls.of_le (kk) ?_ ?_);(· (cbv;(try simp only [nc] at *);first|done|(simp;done)|(simp (disch:=(first|omega|(simp only [lnS];omega))) only [rdT,rdS,anT];first|done|omega|(refine ⟨?_,?_⟩<;>omega))|(simp (disch:=(first|omega|(simp only [lnS];omega))) [rdT,rdS];done)));cbv)
  |(refine E.c (SCalls.of_le (ka) ?_ ?_);(· (cbv;(try simp only [nc] at *);first|done|(simp;done)|(simp (disch:=(first|omega|(simp only [lnS];omega))) only [rdT,rdS,anT];first|done|omega|(refine ⟨?_,?_⟩<;>omega))|(simp (disch:=(first|omega|(simp only [lnS];omega))) [rdT,rdS];done)));cbv)
  |(refine ⟨fun _ h_s=>?_,fun _ h_s=>?_⟩<;>(cbv;(try simp only [nc] at *);try simp (disch:=(first|omega|(simp only [lnS];omega))) only [rdT,rdS,reduceCtorEq,trT] at h_s))
  |(refine hF ?_;intro _;clear hF)
  |(refine hF ?_;cbv;clear hF)
  |(refine ⟨fun _=>?_,?_⟩;(· ((try simp only [nc] at *);first|done|omega|exact ⟨by omega,rfl⟩|(simp (disch:=(first|omega|(simp only [lnS];omega))) only [rdT,rdS];first|done|omega|rfl|exact ⟨by omega,rfl⟩|(simp;done)|(simp;omega))|(intros;trivial)|(intro v hv;simp [setAll,AV.nrm,nrms,nrm1] at hv;subst hv;rfl)|exact ⟨by first|trivial|rfl,by first|trivial|rfl,by first|trivial|(simp [setAll];done),by first|omega|(simp [setAll];omega),by first|omega|(simp [setAll];omega),idsFlat _⟩|exact ⟨by first|trivial|rfl,by first|trivial|rfl|simp,by first|trivial|simp,by simp;omega,by simp;omega,by simp [AV.flat,AV.cells,AV.one]⟩));(try (simp only [nc] at *));(try simp (disch:=(first|omega|(simp only [lnS];omega))) only [rdT,rdS]);(try cbv))
  | fail
 )
 ·have h1:¬ AE (lo+i)=0:=by assumption
  rw [decide_eq_false h1] at hS hY
  simp at hS hY
  rw [hS,hY]
  exact ⟨⟨rfl,⟨rfl,rfl⟩,by push_cast;omega⟩,rfl,rfl⟩
 ·have h1:AE (lo+i)=0:=by assumption
  have h2:ok (AR (lo+i))=true:=by assumption
  rw [h1,h2] at hS
  rw [h1] at hY
  simp at hS hY
  rw [hS,hY]
  refine ⟨⟨rfl,⟨?_,?_⟩,by push_cast;omega⟩,?_,?_⟩<;>simp [hG,is,setAll,AV.nrm]
 ·have h1:AE (lo+i)=0:=by assumption
  have h2:ok (AR (lo+i))=false:=by assumption
  rw [h1,h2] at hS
  rw [h1] at hY
  simp at hS hY
  rw [hS,hY]
  exact ⟨⟨rfl,⟨rfl,rfl⟩,by push_cast;omega⟩,rfl,rfl⟩
 ·obtain rfl:i=N:=by ((try simp only [nc] at *);omega)
  refine ⟨fun _=>⟨rfl,by simp,?_⟩,fun _=>rfl,trivial⟩
  rw [List.drop_zero,List.take_of_length_le (by simp)]
theorem mplaces_ok (m:Int) (g:Gr) (hR:Rd g) (t:Int) (e:Ev) (d:EId)
  (hA:∀ p,Pure Tryz.prog γ false 31 [aGr g,.i fun _=>t,aEv e,aId d,.i fun _=>p] (.tup [aGr (addR g t e d p),.i fun _=>addE g t e d p])) :
  Pure Tryz.prog γ false 8 [.i fun _=>m,aGr g,.i fun _=>t,aEv e,aId d] (.tup [.vs 1 fun _=>is (if rdyM m g t=true∧mayM g t e d=true then plsM m g t e d else []),.i fun _=>if rdyM m g t=true∧mayM g t e d=true then 0 else 2]):=by
 have kr:=ready_ok (γ:=γ) m g hR t
 by_cases hr:rdyM m g t=true
 ·have hg:GOk g:=by
   by_cases h:GOk g
   ·exact h
   ·unfold rdyM at hr;rw [okM_no h] at hr;cases hr
  have kp:=places_ok (γ:=γ) m g hg t e d hA
  rw [hr] at kr ⊢
  generalize plsM m g t e d=PL at *
  by_cases hm:mayM g t e d=true
  ·rw [hm] at kp ⊢
   simp only [and_self,if_true]
   clear hA
   refine Pure.go (ty:=ty) ty_eq mo Tryz.func8 rfl Tryz.ntmps8 Tryz.results8 Tryz.call8 (by simp) fun P C CQ D W F E hF=>?_
   cbv
   repeat' (first
    |(refine E.c (SCalls.of_le (kp) ?_ ?_);(· (cbv;(try simp only [nc] at *);first|done|(simp;done)|(simp (disch:=(first|omega|(simp only [lnS];omega))) only [rdT,rdS,anT];first|done|omega|(refine ⟨?_,?_⟩<;>omega))|(simp (disch:=(first|omega|(simp only [lnS];omega))) [rdT,rdS];done)));cbv)
    |(refine E.c (SCalls.of_le (kr) ?_ ?_);(· (cbv;(try simp only [nc] at *);first|done|(simp;done)|(simp (disch:=(first|omega|(simp only [lnS];omega))) only [rdT,rdS,anT];first|done|omega|(refine ⟨?_,?_⟩<;>omega))|(simp (disch:=(first|omega|(simp only [lnS];omega))) [rdT,rdS];done)));cbv)
    |(refine ⟨fun _ h_s=>?_,fun _ h_s=>?_⟩<;>(cbv;(try simp only [nc] at *);try simp (disch:=(first|omega|(simp only [lnS];omega))) only [rdT,rdS,reduceCtorEq,trT] at h_s))
    |(refine hF ?_;intro _;clear hF)
    |(refine hF ?_;cbv;clear hF)
    |(refine ⟨fun _=>?_,?_⟩;(· ((try simp only [nc] at *);first|done|omega|exact ⟨by omega,rfl⟩|(simp (disch:=(first|omega|(simp only [lnS];omega))) only [rdT,rdS];first|done|omega|rfl|exact ⟨by omega,rfl⟩|(simp;done)|(simp;omega))|(intros;trivial)|(intro v hv;simp [setAll,AV.nrm,nrms,nrm1] at hv;subst hv;rfl)|exact ⟨by first|trivial|rfl,by first|trivial|rfl,by first|trivial|(simp [setAll];done),by first|omega|(simp [setAll];omega),by first|omega|(simp [setAll];omega),idsFlat _⟩|exact ⟨by first|trivial|rfl,by first|trivial|rfl|simp,by first|trivial|simp,by simp;omega,by simp;omega,by simp [AV.flat,AV.cells,AV.one]⟩));(try (simp only [nc] at *));(try simp (disch:=(first|omega|(simp only [lnS];omega))) only [rdT,rdS]);(try cbv))
    | fail
   )
  ·rw [show mayM g t e d=false by simpa using hm] at kp ⊢
   clear hA
   refine Pure.go (ty:=ty) ty_eq mo Tryz.func8 rfl Tryz.ntmps8 Tryz.results8 Tryz.call8 (by simp) fun P C CQ D W F E hF=>?_
   cbv
   repeat' (first
    |(refine E.c (SCalls.of_le (kp) ?_ ?_);(· (cbv;(try simp only [nc] at *);first|done|(simp;done)|(simp (disch:=(first|omega|(simp only [lnS];omega))) only [rdT,rdS,anT];first|done|omega|(refine ⟨?_,?_⟩<;>omega))|(simp (disch:=(first|omega|(simp only [lnS];omega))) [rdT,rdS];done)));cbv)
    |(refine E.c (SCalls.of_le (kr) ?_ ?_);(· (cbv;(try simp only [nc] at *);first|done|(simp;done)|(simp (disch:=(first|omega|(simp only [lnS];omega))) only [rdT,rdS,anT];first|done|omega|(refine ⟨?_,?_⟩<;>omega))|(simp (disch:=(first|omega|(simp only [lnS];omega))) [rdT,rdS];done)));cbv)
    |(refine ⟨fun _ h_s=>?_,fun _ h_s=>?_⟩<;>(cbv;(try simp only [nc] at *);try simp (disch:=(first|omega|(simp only [lnS];omega))) only [rdT,rdS,reduceCtorEq,trT] at h_s))
    |(refine hF ?_;intro _;clear hF)
    |(refine hF ?_;cbv;clear hF)
    |(refine ⟨fun _=>?_,?_⟩;(· ((try simp only [nc] at *);first|done|omega|exact ⟨by omega,rfl⟩|(simp (disch:=(first|omega|(simp only [lnS];omega))) only [rdT,rdS];first|done|omega|rfl|exact ⟨by omega,rfl⟩|(simp;done)|(simp;omega))|(intros;trivial)|(intro v hv;simp [setAll,AV.nrm,nrms,nrm1] at hv;subst hv;rfl)|exact ⟨by first|trivial|rfl,by first|trivial|rfl,by first|trivial|(simp [setAll];done),by first|omega|(simp [setAll];omega),by first|omega|(simp [setAll];omega),idsFlat _⟩|exact ⟨by first|trivial|rfl,by first|trivial|rfl|simp,by first|trivial|simp,by simp;omega,by simp;omega,by simp [AV.flat,AV.cells,AV.one]⟩));(try (simp only [nc] at *));(try simp (disch:=(first|omega|(simp only [lnS];omega))) only [rdT,rdS]);(try cbv))
    | fail
   )
 ·rw [show rdyM m g t=false by simpa using hr] at kr ⊢
  clear hA
  refine Pure.go (ty:=ty) ty_eq mo Tryz.func8 rfl Tryz.ntmps8 Tryz.results8 Tryz.call8 (by simp) fun P C CQ D W F E hF=>?_
  cbv
  repeat' (first
   |(refine E.c (SCalls.of_le (kr) ?_ ?_);(· (cbv;(try simp only [nc] at *);first|done|(simp;done)|(simp (disch:=(first|omega|(simp only [lnS];omega))) only [rdT,rdS,anT];first|done|omega|(refine ⟨?_,?_⟩<;>omega))|(simp (disch:=(first|omega|(simp only [lnS];omega))) [rdT,rdS];done)));cbv)
   |(refine ⟨fun _ h_s=>?_,fun _ h_s=>?_⟩<;>(cbv;(try simp only [nc] at *);try simp (disch:=(first|omega|(simp only [lnS];omega))) only [rdT,rdS,reduceCtorEq,trT] at h_s))
   |(refine hF ?_;intro _;clear hF)
   |(refine hF ?_;cbv;clear hF)
   |(refine ⟨fun _=>?_,?_⟩;(· ((try simp only [nc] at *);first|done|omega|exact ⟨by omega,rfl⟩|(simp (disch:=(first|omega|(simp only [lnS];omega))) only [rdT,rdS];first|done|omega|rfl|exact ⟨by omega,rfl⟩|(simp;done)|(simp;omega))|(intros;trivial)|(intro v hv;simp [setAll,AV.nrm,nrms,nrm1] at hv;subst hv;rfl)|exact ⟨by first|trivial|rfl,by first|trivial|rfl,by first|trivial|(simp [setAll];done),by first|omega|(simp [setAll];omega),by first|omega|(simp [setAll];omega),idsFlat _⟩|exact ⟨by first|trivial|rfl,by first|trivial|rfl|simp,by first|trivial|simp,by simp;omega,by simp;omega,by simp [AV.flat,AV.cells,AV.one]⟩));(try (simp only [nc] at *));(try simp (disch:=(first|omega|(simp only [lnS];omega))) only [rdT,rdS]);(try cbv))
   | fail
  )
noncomputable def srcB (m:Int) (g:Gr) (t:Int) (a:Ak) (d:EId):Bool:=decide (plsM m g t (ansM a ((eventM g d).getD ev0).wr) d≠[])
noncomputable def srcM (m:Int) (g:Gr) (t:Int) (a:Ak):List EId:=(wrsM g a.loc).filter (srcB m g t a)
def askM (g:Gr) (a:Ak):Bool:=decide (ansE a=0) && (decide (0≤a.loc∧a.loc<(g.init.length:Nat)) && decide (1≤a.order∧a.order≤6))
theorem filter_take {α:Type} (l:List α) (p:α→Bool) (d:α) (k:Nat) (h:k<l.length):(l.take (k+1)).filter p=(l.take k).filter p++if p (l.getD k d)=true then [l.getD k d] else []:=by
 rw [List.take_add_one,List.filter_append]
 have e:l[k]?=some l[k]:=List.getElem?_eq_getElem h
 rw [List.getD_eq_getElem?_getD,e]
 simp only [Option.toList_some,Option.getD_some,List.filter_cons,List.filter_nil]
theorem msources_ok (m:Int) (g:Gr) (hR:Rd g) (t:Int) (a:Ak)
  (hA:∀ e d p,Pure Tryz.prog γ false 31 [aGr g,.i fun _=>t,aEv e,aId d,.i fun _=>p] (.tup [aGr (addR g t e d p),.i fun _=>addE g t e d p])) :
  Pure Tryz.prog γ false 6 [.i fun _=>m,aGr g,.i fun _=>t,aAsk a] (.tup [.vs 2 fun _=>ids (if rdyM m g t=true∧askM g a=true then srcM m g t a else []),.i fun _=>if rdyM m g t=true∧askM g a=true then 0 else 2]):=by
 have kr:=ready_ok (γ:=γ) m g hR t
 have ka:=fun v=>ianswer_ok (γ:=γ) a v
 by_cases hr:rdyM m g t=true
 ·rw [hr] at kr ⊢
  have hg:GOk g:=by
   by_cases h:GOk g
   ·exact h
   ·unfold rdyM at hr;rw [okM_no h] at hr;cases hr
  by_cases hq:askM g a=true
  ·rw [hq]
   simp only [and_self,if_true]
   unfold askM at hq
   simp only [Bool.and_eq_true,decide_eq_true_eq] at hq
   obtain ⟨q1,⟨q2,q3⟩,q4,q5⟩:=hq
   have kp:=fun e d=>places_ok (γ:=γ) m g hg t e d (hA e d)
   have kw:=gWrites_ok (γ:=γ) g hR hg a.loc
   clear hA
   have hwl:=wrs_len hg a.loc
   have hat:=fun i=>wrs_at hg ⟨q2,q3⟩ (i:=i)
   have hin:=hg.short.init
   have hth:=hg.short.th
   have hev:∀ s,(g.th.getD s []).length≤14:=hg.short.at
   obtain ⟨L,hL⟩:∃ L:Nat→List EId,∀ k,L k=((wrsM g a.loc).take k).filter (srcB m g t a):=⟨_,fun _=>rfl⟩
   have l0:L 0=[]:=by rw [hL];rfl
   have lS:∀ k,k<(wrsM g a.loc).length→L (k+1)=L k++if plsM m g t (ansM a ((eventM g ((wrsM g a.loc).getD k id0)).getD ev0).wr) ((wrsM g a.loc).getD k id0)≠[] then [(wrsM g a.loc).getD k id0] else []:=fun k hk=>by
    rw [hL,hL,filter_take _ _ id0 _ hk]
    unfold srcB
    simp only [decide_eq_true_eq]
   have lL:∀ k,(L k).length≤k:=fun k=>by
    rw [hL]
    refine Nat.le_trans (List.length_filter_le _ _) ?_
    simp;omega
   have lE:srcM m g t a=L (wrsM g a.loc).length:=by rw [hL,List.take_length];rfl
   rw [lE]
   clear hL lE
   have pL:∀ e d,(plsM m g t e d).length≤57:=fun e d=>Nat.le_trans (plcTo_len m g t e d _) (plN_le hg e)
   obtain ⟨G,hG⟩:∃ G:List EId→Nat,∀ l,G l=l.length:=⟨_,fun _=>rfl⟩
   have hG0:G []=0:=by rw [hG];rfl
   generalize plsM m g t=PL at *
   generalize mayM g t=MY at *
   generalize wrsM g a.loc=wl at *
   refine Pure.go (ty:=ty) ty_eq mo Tryz.func6 rfl Tryz.ntmps6 Tryz.results6 Tryz.call6 (by simp) fun P C CQ D W F E hF=>?_
   cbv
   repeat' (first
    |(refine E.c (SCalls.of_le (kw) ?_ ?_);(· (cbv;(try simp only [nc] at *);first|done|(simp;done)|(simp (disch:=(first|omega|(simp only [lnS];omega))) only [rdT,rdS,anT];first|done|omega|(refine ⟨?_,?_⟩<;>omega))|(simp (disch:=(first|omega|(simp only [lnS];omega))) [rdT,rdS];done)));cbv)
    |((first|refine E.c (SCalls.of_le (ka 0) ?_ ?_)|refine E.q (QCalls.of_le (ka 0) ?_ ?_));(· (cbv;(try simp only [nc] at *);first|done|(simp;done)|(simp (disch:=(first|omega|(simp only [lnS];omega))) only [rdT,rdS,anT];first|done|omega|(refine ⟨?_,?_⟩<;>omega))|(simp (disch:=(first|omega|(simp only [lnS];omega))) [rdT,rdS];done)));cbv)
    |(refine E.c (SCalls.of_le (kr) ?_ ?_);(· (cbv;(try simp only [nc] at *);first|done|(simp;done)|(simp (disch:=(first|omega|(simp only [lnS];omega))) only [rdT,rdS,anT];first|done|omega|(refine ⟨?_,?_⟩<;>omega))|(simp (disch:=(first|omega|(simp only [lnS];omega))) [rdT,rdS];done)));cbv)
    |(refine ⟨fun _ h_s=>?_,fun _ h_s=>?_⟩<;>(cbv;(try simp only [nc] at *);try simp (disch:=(first|omega|(simp only [lnS];omega))) only [rdT,rdS,reduceCtorEq,trT] at h_s))
    |(refine hF ?_;intro _;clear hF)
    |(refine hF ?_;cbv;clear hF)
    |(refine ⟨fun _=>?_,?_⟩;(· ((try simp only [nc] at *);first|done|omega|exact ⟨by omega,rfl⟩|(simp (disch:=(first|omega|(simp only [lnS];omega))) only [rdT,rdS];first|done|omega|rfl|exact ⟨by omega,rfl⟩|(simp;done)|(simp;omega))|(intros;trivial)|(intro v hv;simp [setAll,AV.nrm,nrms,nrm1] at hv;subst hv;rfl)|exact ⟨by first|trivial|rfl,by first|trivial|rfl,by first|trivial|(simp [setAll];done),by first|omega|(simp [setAll];omega),by first|omega|(simp [setAll];omega),idsFlat _⟩|exact ⟨by first|trivial|rfl,by first|trivial|rfl|simp,by first|trivial|simp,by simp;omega,by simp;omega,by simp [AV.flat,AV.cells,AV.one]⟩));(try (simp only [nc] at *));(try simp (disch:=(first|omega|(simp only [lnS];omega))) only [rdT,rdS]);(try cbv))
    |(refine E.d 9 (by decide +kernel) ?_;cbv;(fail_if_success guard_target =~ False))
    | fail
   )
   refine E.w (AWP.ghostSlot 12 2 rfl (by omega) (E.loopSA (ι:=Nat) (fun i=>i≤wl.length) (fun i=>wl.length-i) (fun i=>[(58,.i fun _=>((i:Nat):Int)),(12,.sl 3 (G (L i)) 2 (fun _=>0) fun _=>(L i).length)]) (fun i h=>h.set 3 (.run (G (L i)) 2 fun _=>ids (L i))) 0 (fun _=>by first | rfl | simp) (Nat.zero_le _) ?_ fun i hi I hI=>?_))
   ·cbv;simp [l0,hG0,ids,LV.of]
   cbv
   have hS:=lS i
   have hLi:=lL i
   have ha:=hat i
   clear lS lL hat l0
   obtain ⟨d,hd⟩:∃ d,d=wl.getD i id0:=⟨_,rfl⟩
   rw [←hd] at hS ha
   skip
   skip
   refine ⟨fun _ h_s=>?_,fun _ h_s=>?_⟩
   ·(try simp only [nc] at *)
    simp (disch:=(first|omega|(simp only [lnS];omega))) only [rdT,rdS,hd.symm,tn1,reduceCtorEq,trT] at h_s
    have hil:i<wl.length:=by ((try simp only [nc] at *);omega)
    have hT:=hS hil
    clear hS
    rcases ha hil with ⟨z1,z2⟩ | ⟨s,j,z1,z2,z3,z4⟩
    ·rw [z2] at hT
     have k1:=ka (g.init.getD a.loc.toNat 0)
     have k2:=kp (ansM a (g.init.getD a.loc.toNat 0)) d
     have k3:=pL (ansM a (g.init.getD a.loc.toNat 0)) d
     generalize PL (ansM a (g.init.getD a.loc.toNat 0)) d=pl at *
     generalize MY (ansM a (g.init.getD a.loc.toNat 0)) d=my at *
     generalize ansM a (g.init.getD a.loc.toNat 0)=ev at *
     by_cases hp:pl=[]
     ·subst hp
      rw [if_neg (fun h=>h rfl),List.append_nil] at hT
      cbv
      repeat' (first
       |(refine hI (i+1) ?_ ?_ ?_;rotate_left 1;(· ((try simp only [nc] at *);omega));(cbv;clear hI;(try clear hF);(try simp only [nc] at *);(try simp (disch:=(first|omega|(simp only [lnS];omega))) only [rdT,rdS,hd.symm,tn1,anT]));rotate_left 1;(try ((try simp only [nc] at *);omega)))
       |(refine E.c (SCalls.of_le (k2) ?_ ?_);(· (cbv;(try simp only [nc] at *);first|done|(simp;done)|(simp (disch:=(first|omega|(simp only [lnS];omega))) only [rdT,rdS,hd.symm,tn1,anT];first|done|omega|(refine ⟨?_,?_⟩<;>omega))|(simp (disch:=(first|omega|(simp only [lnS];omega))) [rdT,rdS,hd.symm,tn1];done)));cbv)
       |(refine E.c (SCalls.of_le (k1) ?_ ?_);(· (cbv;(try simp only [nc] at *);first|done|(simp;done)|(simp (disch:=(first|omega|(simp only [lnS];omega))) only [rdT,rdS,hd.symm,tn1,anT];first|done|omega|(refine ⟨?_,?_⟩<;>omega))|(simp (disch:=(first|omega|(simp only [lnS];omega))) [rdT,rdS,hd.symm,tn1];done)));cbv)
       |(refine ⟨fun _ h_s=>?_,fun _ h_s=>?_⟩<;>(cbv;(try simp only [nc] at *);try simp (disch:=(first|omega|(simp only [lnS];omega))) only [rdT,rdS,hd.symm,tn1,reduceCtorEq,trT] at h_s))
       |(refine hF ?_;intro _;clear hF)
       |(refine hF ?_;cbv;clear hF)
       |(refine ⟨fun _=>?_,?_⟩;(· ((try simp only [nc] at *);first|done|omega|exact ⟨by omega,rfl⟩|(simp (disch:=(first|omega|(simp only [lnS];omega))) only [rdT,rdS,hd.symm,tn1];first|done|omega|rfl|exact ⟨by omega,rfl⟩|(simp;done)|(simp;omega))|(intros;trivial)|(intro v hv;simp [setAll,AV.nrm,nrms,nrm1] at hv;subst hv;rfl)|exact ⟨by first|trivial|rfl,by first|trivial|rfl,by first|trivial|(simp [setAll];done),by first|omega|(simp [setAll];omega),by first|omega|(simp [setAll];omega),idsFlat _⟩|exact ⟨by first|trivial|rfl,by first|trivial|rfl|simp,by first|trivial|simp,by simp;omega,by simp;omega,by simp [AV.flat,AV.cells,AV.one]⟩|exact ⟨by first|trivial|rfl,by first|trivial|rfl|simp,by first|trivial|simp,by simp;omega,by simp;omega,by simp [AV.flat,AV.cells,AV.one]⟩));(try (simp only [nc] at *));(try simp (disch:=(first|omega|(simp only [lnS];omega))) only [rdT,rdS,hd.symm,tn1]);(try cbv))
       |(refine E.d 9 (by decide +kernel) ?_;cbv;(fail_if_success guard_target =~ False))
       | fail
      )
      all_goals first
       | (exfalso;((try simp only [nc] at *);omega))
       | (exfalso;revert h_s;simp;done)
       | (rw [hT];exact ⟨⟨⟨rfl,rfl⟩,by push_cast;rfl⟩,rfl,rfl⟩)
     ·rw [if_pos hp] at hT
      have hpl:pl.length≠0:=fun h=>hp (List.length_eq_zero_iff.1 h)
      cbv
      repeat' (first
       |(refine hI (i+1) ?_ ?_ ?_;rotate_left 1;(· ((try simp only [nc] at *);omega));(cbv;clear hI;(try clear hF);(try simp only [nc] at *);(try simp (disch:=(first|omega|(simp only [lnS];omega))) only [rdT,rdS,hd.symm,tn1,anT]));rotate_left 1;(try ((try simp only [nc] at *);omega)))
       |(refine E.c (SCalls.of_le (k2) ?_ ?_);(· (cbv;(try simp only [nc] at *);first|done|(simp;done)|(simp (disch:=(first|omega|(simp only [lnS];omega))) only [rdT,rdS,hd.symm,tn1,anT];first|done|omega|(refine ⟨?_,?_⟩<;>omega))|(simp (disch:=(first|omega|(simp only [lnS];omega))) [rdT,rdS,hd.symm,tn1];done)));cbv)
       |(refine E.c (SCalls.of_le (k1) ?_ ?_);(· (cbv;(try simp only [nc] at *);first|done|(simp;done)|(simp (disch:=(first|omega|(simp only [lnS];omega))) only [rdT,rdS,hd.symm,tn1,anT];first|done|omega|(refine ⟨?_,?_⟩<;>omega))|(simp (disch:=(first|omega|(simp only [lnS];omega))) [rdT,rdS,hd.symm,tn1];done)));cbv)
       |(refine ⟨fun _ h_s=>?_,fun _ h_s=>?_⟩<;>(cbv;(try simp only [nc] at *);try simp (disch:=(first|omega|(simp only [lnS];omega))) only [rdT,rdS,hd.symm,tn1,reduceCtorEq,trT] at h_s))
       |(refine hF ?_;intro _;clear hF)
       |(refine hF ?_;cbv;clear hF)
       |(refine ⟨fun _=>?_,?_⟩;(· ((try simp only [nc] at *);first|done|omega|exact ⟨by omega,rfl⟩|(simp (disch:=(first|omega|(simp only [lnS];omega))) only [rdT,rdS,hd.symm,tn1];first|done|omega|rfl|exact ⟨by omega,rfl⟩|(simp;done)|(simp;omega))|(intros;trivial)|(intro v hv;simp [setAll,AV.nrm,nrms,nrm1] at hv;subst hv;rfl)|exact ⟨by first|trivial|rfl,by first|trivial|rfl,by first|trivial|(simp [setAll];done),by first|omega|(simp [setAll];omega),by first|omega|(simp [setAll];omega),idsFlat _⟩|exact ⟨by first|trivial|rfl,by first|trivial|rfl|simp,by first|trivial|simp,by simp;omega,by simp;omega,by simp [AV.flat,AV.cells,AV.one]⟩|exact ⟨by first|trivial|rfl,by first|trivial|rfl|simp,by first|trivial|simp,by simp;omega,by simp;omega,by simp [AV.flat,AV.cells,AV.one]⟩));(try (simp only [nc] at *));(try simp (disch:=(first|omega|(simp only [lnS];omega))) only [rdT,rdS,hd.symm,tn1]);(try cbv))
       |(refine E.d 9 (by decide +kernel) ?_;cbv;(fail_if_success guard_target =~ False))
       | fail
      )
      all_goals first
       | (exfalso;((try simp only [nc] at *);omega))
       | (simp [hG,hT,ids,setAll,AV.nrm];done)
    ·rw [z4] at hT
     have k1:=ka ((g.th.getD s []).getD j ev0).wr
     have k2:=kp (ansM a ((g.th.getD s []).getD j ev0).wr) d
     have k3:=pL (ansM a ((g.th.getD s []).getD j ev0).wr) d
     generalize PL (ansM a ((g.th.getD s []).getD j ev0).wr) d=pl at *
     generalize MY (ansM a ((g.th.getD s []).getD j ev0).wr) d=my at *
     generalize ansM a ((g.th.getD s []).getD j ev0).wr=ev at *
     have hev:=hev s
     subst z1
     by_cases hp:pl=[]
     ·subst hp
      rw [if_neg (fun h=>h rfl),List.append_nil] at hT
      cbv
      repeat' (first
       |(refine hI (i+1) ?_ ?_ ?_;rotate_left 1;(· ((try simp only [nc] at *);omega));(cbv;clear hI;(try clear hF);(try simp only [nc] at *);(try simp (disch:=(first|omega|(simp only [lnS];omega))) only [rdT,rdS,hd.symm,tn1,anT]));rotate_left 1;(try ((try simp only [nc] at *);omega)))
       |(refine E.c (SCalls.of_le (k2) ?_ ?_);(· (cbv;(try simp only [nc] at *);first|done|(simp;done)|(simp (disch:=(first|omega|(simp only [lnS];omega))) only [rdT,rdS,hd.symm,tn1,anT];first|done|omega|(refine ⟨?_,?_⟩<;>omega))|(simp (disch:=(first|omega|(simp only [lnS];omega))) [rdT,rdS,hd.symm,tn1];done)));cbv)
       |(refine E.c (SCalls.of_le (k1) ?_ ?_);(· (cbv;(try simp only [nc] at *);first|done|(simp;done)|(simp (disch:=(first|omega|(simp only [lnS];omega))) only [rdT,rdS,hd.symm,tn1,anT];first|done|omega|(refine ⟨?_,?_⟩<;>omega))|(simp (disch:=(first|omega|(simp only [lnS];omega))) [rdT,rdS,hd.symm,tn1];done)));cbv)
       |(refine ⟨fun _ h_s=>?_,fun _ h_s=>?_⟩<;>(cbv;(try simp only [nc] at *);try simp (disch:=(first|omega|(simp only [lnS];omega))) only [rdT,rdS,hd.symm,tn1,reduceCtorEq,trT] at h_s))
       |(refine hF ?_;intro _;clear hF)
       |(refine hF ?_;cbv;clear hF)
       |(refine ⟨fun _=>?_,?_⟩;(· ((try simp only [nc] at *);first|done|omega|exact ⟨by omega,rfl⟩|(simp (disch:=(first|omega|(simp only [lnS];omega))) only [rdT,rdS,hd.symm,tn1];first|done|omega|rfl|exact ⟨by omega,rfl⟩|(simp;done)|(simp;omega))|(intros;trivial)|(intro v hv;simp [setAll,AV.nrm,nrms,nrm1] at hv;subst hv;rfl)|exact ⟨by first|trivial|rfl,by first|trivial|rfl,by first|trivial|(simp [setAll];done),by first|omega|(simp [setAll];omega),by first|omega|(simp [setAll];omega),idsFlat _⟩|exact ⟨by first|trivial|rfl,by first|trivial|rfl|simp,by first|trivial|simp,by simp;omega,by simp;omega,by simp [AV.flat,AV.cells,AV.one]⟩|exact ⟨by first|trivial|rfl,by first|trivial|rfl|simp,by first|trivial|simp,by simp;omega,by simp;omega,by simp [AV.flat,AV.cells,AV.one]⟩));(try (simp only [nc] at *));(try simp (disch:=(first|omega|(simp only [lnS];omega))) only [rdT,rdS,hd.symm,tn1]);(try cbv))
       |(refine E.d 9 (by decide +kernel) ?_;cbv;(fail_if_success guard_target =~ False))
       | fail
      )
      all_goals first
       | (exfalso;((try simp only [nc] at *);omega))
       | (exfalso;revert h_s;simp;done)
       | (rw [hT];exact ⟨⟨⟨rfl,rfl⟩,by push_cast;rfl⟩,rfl,rfl⟩)
     ·rw [if_pos hp] at hT
      have hpl:pl.length≠0:=fun h=>hp (List.length_eq_zero_iff.1 h)
      cbv
      repeat' (first
       |(refine hI (i+1) ?_ ?_ ?_;rotate_left 1;(· ((try simp only [nc] at *);omega));(cbv;clear hI;(try clear hF);(try simp only [nc] at *);(try simp (disch:=(first|omega|(simp only [lnS];omega))) only [rdT,rdS,hd.symm,tn1,anT]));rotate_left 1;(try ((try simp only [nc] at *);omega)))
       |(refine E.c (SCalls.of_le (k2) ?_ ?_);(· (cbv;(try simp only [nc] at *);first|done|(simp;done)|(simp (disch:=(first|omega|(simp only [lnS];omega))) only [rdT,rdS,hd.symm,tn1,anT];first|done|omega|(refine ⟨?_,?_⟩<;>omega))|(simp (disch:=(first|omega|(simp only [lnS];omega))) [rdT,rdS,hd.symm,tn1];done)));cbv)
       |(refine E.c (SCalls.of_le (k1) ?_ ?_);(· (cbv;(try simp only [nc] at *);first|done|(simp;done)|(simp (disch:=(first|omega|(simp only [lnS];omega))) only [rdT,rdS,hd.symm,tn1,anT];first|done|omega|(refine ⟨?_,?_⟩<;>omega))|(simp (disch:=(first|omega|(simp only [lnS];omega))) [rdT,rdS,hd.symm,tn1];done)));cbv)
       |(refine ⟨fun _ h_s=>?_,fun _ h_s=>?_⟩<;>(cbv;(try simp only [nc] at *);try simp (disch:=(first|omega|(simp only [lnS];omega))) only [rdT,rdS,hd.symm,tn1,reduceCtorEq,trT] at h_s))
       |(refine hF ?_;intro _;clear hF)
       |(refine hF ?_;cbv;clear hF)
       |(refine ⟨fun _=>?_,?_⟩;(· ((try simp only [nc] at *);first|done|omega|exact ⟨by omega,rfl⟩|(simp (disch:=(first|omega|(simp only [lnS];omega))) only [rdT,rdS,hd.symm,tn1];first|done|omega|rfl|exact ⟨by omega,rfl⟩|(simp;done)|(simp;omega))|(intros;trivial)|(intro v hv;simp [setAll,AV.nrm,nrms,nrm1] at hv;subst hv;rfl)|exact ⟨by first|trivial|rfl,by first|trivial|rfl,by first|trivial|(simp [setAll];done),by first|omega|(simp [setAll];omega),by first|omega|(simp [setAll];omega),idsFlat _⟩|exact ⟨by first|trivial|rfl,by first|trivial|rfl|simp,by first|trivial|simp,by simp;omega,by simp;omega,by simp [AV.flat,AV.cells,AV.one]⟩|exact ⟨by first|trivial|rfl,by first|trivial|rfl|simp,by first|trivial|simp,by simp;omega,by simp;omega,by simp [AV.flat,AV.cells,AV.one]⟩));(try (simp only [nc] at *));(try simp (disch:=(first|omega|(simp only [lnS];omega))) only [rdT,rdS,hd.symm,tn1]);(try cbv))
       |(refine E.d 9 (by decide +kernel) ?_;cbv;(fail_if_success guard_target =~ False))
       | fail
      )
      all_goals first
       | (exfalso;((try simp only [nc] at *);omega))
       | (simp [hG,hT,ids,setAll,AV.nrm];done)
   ·(try simp only [nc] at *)
    simp (disch:=(first|omega|(simp only [lnS];omega))) only [rdT,rdS,hd.symm,tn1,reduceCtorEq,trT] at h_s
    cbv
    repeat' (first
     |(refine ⟨fun _ h_s=>?_,fun _ h_s=>?_⟩<;>(cbv;(try simp only [nc] at *);try simp (disch:=(first|omega|(simp only [lnS];omega))) only [rdT,rdS,hd.symm,tn1,reduceCtorEq,trT] at h_s))
     |(refine hF ?_;intro _;clear hF)
     |(refine hF ?_;cbv;clear hF)
     |(refine ⟨fun _=>?_,?_⟩;(· ((try simp only [nc] at *);first|done|omega|exact ⟨by omega,rfl⟩|(simp (disch:=(first|omega|(simp only [lnS];omega))) only [rdT,rdS,hd.symm,tn1];first|done|omega|rfl|exact ⟨by omega,rfl⟩|(simp;done)|(simp;omega))|(intros;trivial)|(intro v hv;simp [setAll,AV.nrm,nrms,nrm1] at hv;subst hv;rfl)|exact ⟨by first|trivial|rfl,by first|trivial|rfl,by first|trivial|(simp [setAll];done),by first|omega|(simp [setAll];omega),by first|omega|(simp [setAll];omega),idsFlat _⟩|exact ⟨by first|trivial|rfl,by first|trivial|rfl|simp,by first|trivial|simp,by simp;omega,by simp;omega,by simp [AV.flat,AV.cells,AV.one]⟩|exact ⟨by first|trivial|rfl,by first|trivial|rfl|simp,by first|trivial|simp,by simp;omega,by simp;omega,by simp [AV.flat,AV.cells,AV.one]⟩));(try (simp only [nc] at *));(try simp (disch:=(first|omega|(simp only [lnS];omega))) only [rdT,rdS,hd.symm,tn1]);(try cbv))
     |(refine E.d 9 (by decide +kernel) ?_;cbv;(fail_if_success guard_target =~ False))
     | fail
    )
    have e:i=wl.length:=by ((try simp only [nc] at *);omega)
    subst e
    rw [List.drop_zero,List.take_of_length_le (by simp)]
    simp
  ·rw [show askM g a=false by simpa using hq]
   unfold askM at hq
   simp only [Bool.and_eq_true,decide_eq_true_eq] at hq
   clear hA
   generalize ansE a=ae at *
   refine Pure.go (ty:=ty) ty_eq mo Tryz.func6 rfl Tryz.ntmps6 Tryz.results6 Tryz.call6 (by simp) fun P C CQ D W F E hF=>?_
   cbv
   repeat' (first
    |((first|refine E.c (SCalls.of_le (ka 0) ?_ ?_)|refine E.q (QCalls.of_le (ka 0) ?_ ?_));(· (cbv;(try simp only [nc] at *);first|done|(simp;done)|(simp (disch:=(first|omega|(simp only [lnS];omega))) only [rdT,rdS,hd.symm,tn1,anT];first|done|omega|(refine ⟨?_,?_⟩<;>omega))|(simp (disch:=(first|omega|(simp only [lnS];omega))) [rdT,rdS,hd.symm,tn1];done)));cbv)
    |(refine E.c (SCalls.of_le (kr) ?_ ?_);(· (cbv;(try simp only [nc] at *);first|done|(simp;done)|(simp (disch:=(first|omega|(simp only [lnS];omega))) only [rdT,rdS,hd.symm,tn1,anT];first|done|omega|(refine ⟨?_,?_⟩<;>omega))|(simp (disch:=(first|omega|(simp only [lnS];omega))) [rdT,rdS,hd.symm,tn1];done)));cbv)
    |(refine ⟨fun _ h_s=>?_,fun _ h_s=>?_⟩<;>(cbv;(try simp only [nc] at *);try simp (disch:=(first|omega|(simp only [lnS];omega))) only [rdT,rdS,hd.symm,tn1,reduceCtorEq,trT] at h_s))
    |(refine hF ?_;intro _;clear hF)
    |(refine hF ?_;cbv;clear hF)
    |(refine ⟨fun _=>?_,?_⟩;(· ((try simp only [nc] at *);first|done|omega|exact ⟨by omega,rfl⟩|(simp (disch:=(first|omega|(simp only [lnS];omega))) only [rdT,rdS,hd.symm,tn1];first|done|omega|rfl|exact ⟨by omega,rfl⟩|(simp;done)|(simp;omega))|(intros;trivial)|(intro v hv;simp [setAll,AV.nrm,nrms,nrm1] at hv;subst hv;rfl)|exact ⟨by first|trivial|rfl,by first|trivial|rfl,by first|trivial|(simp [setAll];done),by first|omega|(simp [setAll];omega),by first|omega|(simp [setAll];omega),idsFlat _⟩|exact ⟨by first|trivial|rfl,by first|trivial|rfl|simp,by first|trivial|simp,by simp;omega,by simp;omega,by simp [AV.flat,AV.cells,AV.one]⟩|exact ⟨by first|trivial|rfl,by first|trivial|rfl|simp,by first|trivial|simp,by simp;omega,by simp;omega,by simp [AV.flat,AV.cells,AV.one]⟩));(try (simp only [nc] at *));(try simp (disch:=(first|omega|(simp only [lnS];omega))) only [rdT,rdS,hd.symm,tn1]);(try cbv))
    |(refine E.d 9 (by decide +kernel) ?_;cbv;(fail_if_success guard_target =~ False))
    | fail
   )
   all_goals first
    | (exfalso;revert h_s;simp;done)
    | (exfalso;((try simp only [nc] at *);omega))
    | (exfalso;clear kr ka hF;simp at *;omega)
    | (simp [ids,LV.of];done)
 ·rw [show rdyM m g t=false by simpa using hr] at kr ⊢
  clear hA
  refine Pure.go (ty:=ty) ty_eq mo Tryz.func6 rfl Tryz.ntmps6 Tryz.results6 Tryz.call6 (by simp) fun P C CQ D W F E hF=>?_
  cbv
  repeat' (first
   |(refine E.c (SCalls.of_le (kr) ?_ ?_);(· (cbv;(try simp only [nc] at *);first|done|(simp;done)|(simp (disch:=(first|omega|(simp only [lnS];omega))) only [rdT,rdS,hd.symm,tn1,anT];first|done|omega|(refine ⟨?_,?_⟩<;>omega))|(simp (disch:=(first|omega|(simp only [lnS];omega))) [rdT,rdS,hd.symm,tn1];done)));cbv)
   |(refine ⟨fun _ h_s=>?_,fun _ h_s=>?_⟩<;>(cbv;(try simp only [nc] at *);try simp (disch:=(first|omega|(simp only [lnS];omega))) only [rdT,rdS,hd.symm,tn1,reduceCtorEq,trT] at h_s))
   |(refine hF ?_;intro _;clear hF)
   |(refine hF ?_;cbv;clear hF)
   |(refine ⟨fun _=>?_,?_⟩;(· ((try simp only [nc] at *);first|done|omega|exact ⟨by omega,rfl⟩|(simp (disch:=(first|omega|(simp only [lnS];omega))) only [rdT,rdS,hd.symm,tn1];first|done|omega|rfl|exact ⟨by omega,rfl⟩|(simp;done)|(simp;omega))|(intros;trivial)|(intro v hv;simp [setAll,AV.nrm,nrms,nrm1] at hv;subst hv;rfl)|exact ⟨by first|trivial|rfl,by first|trivial|rfl,by first|trivial|(simp [setAll];done),by first|omega|(simp [setAll];omega),by first|omega|(simp [setAll];omega),idsFlat _⟩|exact ⟨by first|trivial|rfl,by first|trivial|rfl|simp,by first|trivial|simp,by simp;omega,by simp;omega,by simp [AV.flat,AV.cells,AV.one]⟩|exact ⟨by first|trivial|rfl,by first|trivial|rfl|simp,by first|trivial|simp,by simp;omega,by simp;omega,by simp [AV.flat,AV.cells,AV.one]⟩));(try (simp only [nc] at *));(try simp (disch:=(first|omega|(simp only [lnS];omega))) only [rdT,rdS,hd.symm,tn1]);(try cbv))
   |(refine E.d 9 (by decide +kernel) ?_;cbv;(fail_if_success guard_target =~ False))
   | fail
  )
  all_goals first
   | (exfalso;revert h_s;simp;done)
   | (simp [ids,LV.of];done)
end Go.AL.Rl
namespace Go.AL.Rl
open Go Go.AL Go.Proofs
set_option maxRecDepth 100000
set_option maxHeartbeats 1600000
theorem gok_ord {g h:Gr} (e1:h.init=g.init) (e2:h.th=g.th) (e3:h.fr=g.fr) (e4:h.ord.length=g.ord.length) (hp:∀ x,(h.ord.getD x []).Perm (g.ord.getD x [])) (hg:GOk g):GOk h:=by
 cases g with | mk gi gt gf go=>
 cases h with | mk hi ht hf ho=>
 simp only at e1 e2 e3 e4
 subst e1 e2 e3
 refine ⟨⟨hg.short.th,hg.short.init,hg.short.ths⟩,hg.lfr,e4.trans hg.lord,hg.events,hg.sources,fun x hx=>?_⟩
 have h1:=(ordered_iff _ x).1 (hg.orders x hx)
 rw [ordered_iff]
 exact ⟨(hp x).nodup_iff.2 h1.1,fun d hd=>h1.2.1 d ((hp x).mem_iff.1 hd),(hp x).length_eq.trans h1.2.2⟩
theorem ins_perm {α:Type} (l:List α) (a:α) (k:Nat):(l.take k++[a]++l.drop k).Perm (a :: l):=by
 have h:(l.take k++a :: l.drop k).Perm (a :: (l.take k++l.drop k)):=List.perm_middle
 rw [List.take_append_drop] at h
 simpa using h
theorem add_any {g:Gr} {t:Nat} {e:Ev} {d:EId} {p q:Int} (h:addC g t e d p) (hq:if writesM e=true then 1≤q∧q≤((g.ord.getD e.loc.toNat []).length:Nat)+1 else q=0):addC g t e d q:=by
 refine ⟨h.1,hq,gok_ord (g:=addG g t e d p) rfl rfl rfl ?_ (fun x=>?_) h.2.2⟩
 ·show (if writesM e=true then g.ord.set e.loc.toNat (addO g t e q) else g.ord).length=(if writesM e=true then g.ord.set e.loc.toNat (addO g t e p) else g.ord).length
  split<;>simp
 ·show ((if writesM e=true then g.ord.set e.loc.toNat (addO g t e q) else g.ord).getD x []).Perm ((if writesM e=true then g.ord.set e.loc.toNat (addO g t e p) else g.ord).getD x [])
  split
  ·rcases Nat.lt_or_ge e.loc.toNat g.ord.length with h1 | h1
   ·rw [getD_set' _ _ _ _ _ h1,getD_set' _ _ _ _ _ h1]
    split
    ·unfold addO
     exact (ins_perm _ _ _).trans (ins_perm _ _ _).symm
    ·exact .refl _
   ·rw [List.set_eq_of_length_le h1,List.set_eq_of_length_le h1]
  ·exact .refl _
theorem aE_of {g:Gr} {t:Int} {e:Ev} {d:EId} {p:Int} (h1:GOk g) (h2:1≤t) (h3:t≤(g.th.length:Nat)) (h4:addC g (t-1).toNat e d p) (h5:(g.th.getD (t-1).toNat []).length≠14):addE g t e d p=0:=by
 unfold addE
 rw [if_pos h1,if_pos ⟨h2,h3⟩,if_neg h5,if_pos h4]
theorem may_iff (g:Gr) (t:Int) (e:Ev) (d:EId) (n:Nat):mayTo g t e d n=true↔∃ k<n,addE g t e d (plLo e+k)=0:=by
 induction n with
 | zero=>simp [mayTo]
 | succ n ih=>
  unfold mayTo
  rw [Bool.or_eq_true,ih,decide_eq_true_iff]
  constructor
  ·rintro (⟨k,h1,h2⟩ | h)
   ·exact ⟨k,by omega,h2⟩
   ·exact ⟨n,by omega,h⟩
  ·rintro ⟨k,h1,h2⟩
   rcases Nat.lt_or_ge k n with h | h
   ·exact .inl ⟨k,h,h2⟩
   ·obtain rfl:k=n:=by omega
    exact .inr h2
def may1M (g:Gr) (t:Int) (e:Ev) (d:EId):Bool:=decide (addE g t e d (plLo e)=0)
theorem may_one {g:Gr} (hg:GOk g) (t:Int) (e:Ev) (d:EId):mayM g t e d=may1M g t e d:=by
 unfold mayM may1M
 rw [Bool.eq_iff_iff,may_iff,decide_eq_true_iff]
 constructor
 ·rintro ⟨k,hk,h⟩
  obtain ⟨_,a1,a2,a3,a4,_⟩:=aE_wf _ _ _ _ _ h
  refine aE_of hg a1 a2 (add_any a3 ?_) a4
  unfold plLo
  split
  ·exact ⟨by omega,by omega⟩
  ·rfl
 ·intro h
  refine ⟨0,?_,by simpa using h⟩
  obtain ⟨_,a1,a2,a3,a4,_⟩:=aE_wf _ _ _ _ _ h
  unfold plN
  split
  ·rename_i hw
   obtain ⟨x,e1,e2⟩:=fine_nat a3.1 hw
   unfold wrsM
   rw [if_pos ⟨by omega,by omega⟩]
   simp
  ·omega
end Go.AL.Rl
namespace Go.AL.Rl
open Go Go.AL Go.Proofs
set_option maxRecDepth 100000
set_option maxHeartbeats 3200000
variable {γ:Nat→Option AV}
theorem r16places_ok (m:Int) (g:Gr) (hg:GOk g) (t:Int) (e:Ev) (d:EId) :
  Pure Tryz.prog γ false 23 [.i fun _=>m,aGr g,.i fun _=>t,aEv e,aId d] (.vs 1 fun _=>is (plsM m g t e d)):=by
 have hR:=rd_short hg
 have hA:=fun p=>radd_ok (γ:=γ) g hR t e d p
 have kw:=rWrites_ok (γ:=γ) g hR hg e.loc
 have kc:=fun p=>rcheckA (γ:=γ) m (addR g t e d p) (rd_addR hg t e d p)
 have hN:=plN_le hg e
 obtain ⟨M,hM⟩:∃ M:Nat→List Int,∀ k,M k=plcTo m g t e d k:=⟨_,fun _=>rfl⟩
 have m0:M 0=[]:=by rw [hM];rfl
 have mS:∀ k:Nat,M (k+1)=M k++if (decide (addE g t e d (plLo e+k)=0) && okM m (addR g t e d (plLo e+k)))=true then [plLo e+k] else []:=fun k=>by rw [hM,hM];rfl
 have mL:∀ k,(M k).length≤k:=fun k=>by rw [hM];exact plcTo_len m g t e d k
 have mE:plsM m g t e d=M (plN g e):=(hM _).symm
 rw [mE]
 clear hM mE
 obtain ⟨lo,hlo⟩:∃ lo,lo=plLo e:=⟨_,rfl⟩
 obtain ⟨N,hNe⟩:∃ N,N=plN g e:=⟨_,rfl⟩
 rw [←hlo] at mS
 rw [←hNe] at hN ⊢
 have hcase:(e.kind=2∨e.kind=3)∧lo=1∧(wrsM g e.loc).length=N∨¬ (e.kind=2∨e.kind=3)∧lo=0∧N=1:=by
  rw [hlo,hNe]
  unfold plLo plN writesM
  by_cases h:e.kind=2∨e.kind=3
  ·left;simp [h]
  ·right;simp [h]
 clear hlo hNe
 generalize okM m=ok at *
 generalize okE m=oe at *
 generalize wrsM g e.loc=wl at *
 obtain ⟨G,hG⟩:∃ G:List Int→Nat,∀ l,G l=l.length:=⟨_,fun _=>rfl⟩
 have hG0:G []=0:=by rw [hG];rfl
 generalize addR g t e d=AR at *
 generalize addE g t e d=AE at *
 refine Pure.goL (ty:=ty) ty_eq mo Tryz.func23 rfl Tryz.ntmps23 Tryz.results23 Tryz.call23 (by simp) fun P C CQ D W F E hF=>?_
 refine E.cut 5 (told 61 [(0,.i fun _=>m),(2,.i fun _=>t),(6,.ptr 0 0),(8,.ptr 1 0),(9,.ptr 2 0),(11,.nils),(12,.i fun _=>lo),(13,.i fun _=>lo+N-1)] [.box (aGr g),.box (aEv e),.box (aId d)]) (by kernel_rfl) (Nat.zero_le _) (fun I hI=>?_) (E.bl ?_)
 ·cbv
  repeat' (first
   |(refine E.c (SCalls.of_le (kw) ?_ ?_);(· (cbv;(try simp only [nc] at *);first|done|(simp;done)|(simp (disch:=(first|omega|(simp only [lnS];omega))) only [rdT,rdS,anT];first|done|omega|(refine ⟨?_,?_⟩<;>omega))|(simp (disch:=(first|omega|(simp only [lnS];omega))) [rdT,rdS];done)));cbv)
   |(refine ⟨fun _ h_s=>?_,fun _ h_s=>?_⟩<;>(cbv;(try simp only [nc] at *);try simp (disch:=(first|omega|(simp only [lnS];omega))) only [rdT,rdS,reduceCtorEq,trT] at h_s))
   |(refine hF ?_;intro _;clear hF)
   |(refine hF ?_;cbv;clear hF)
   |(refine ⟨fun _=>?_,?_⟩;(· ((try simp only [nc] at *);first|done|omega|exact ⟨by omega,rfl⟩|(simp (disch:=(first|omega|(simp only [lnS];omega))) only [rdT,rdS];first|done|omega|rfl|exact ⟨by omega,rfl⟩|(simp;done)|(simp;omega))|(intros;trivial)));(try (simp only [nc] at *));(try simp (disch:=(first|omega|(simp only [lnS];omega))) only [rdT,rdS]);(try cbv))
   | fail
  )
  all_goals refine hI ?_
  all_goals cbv
  all_goals simp
  all_goals omega
 cbv
 repeat' (first
  |(refine ⟨fun _ h_s=>?_,fun _ h_s=>?_⟩<;>(cbv;(try simp only [nc] at *);try simp (disch:=(first|omega|(simp only [lnS];omega))) only [rdT,rdS,reduceCtorEq,trT] at h_s))
  |(refine hF ?_;intro _;clear hF)
  |(refine hF ?_;cbv;clear hF)
  |(refine ⟨fun _=>?_,?_⟩;(· ((try simp only [nc] at *);first|done|omega|exact ⟨by omega,rfl⟩|(simp (disch:=(first|omega|(simp only [lnS];omega))) only [rdT,rdS];first|done|omega|rfl|exact ⟨by omega,rfl⟩|(simp;done)|(simp;omega))|(intros;trivial)));(try (simp only [nc] at *));(try simp (disch:=(first|omega|(simp only [lnS];omega))) only [rdT,rdS]);(try cbv))
  | fail
 )
 refine E.w (AWP.ghostSlot 11 1 rfl (by omega) (E.loopSA (ι:=Nat) (fun i=>i≤N) (fun i=>N-i) (fun i=>[(14,.i fun _=>lo+((i:Nat):Int)),(11,.sl 3 (G (M i)) 1 (fun _=>0) fun _=>(M i).length)]) (fun i h=>h.set 3 (.run (G (M i)) 1 fun _=>is (M i))) 0 (fun _=>by first | rfl | simp) (Nat.zero_le _) ?_ fun i hi I hI=>?_))
 ·cbv;simp [m0,hG0,is,LV.of]
 cbv
 have hS:=mS i
 have hL:=mL i
 have ka:=hA (lo+i)
 have kk:=kc (lo+i)
 skip
 repeat' (first
  |(refine hI (i+1) ?_ ?_ ?_;rotate_left 1;(· ((try simp only [nc] at *);omega));(cbv;clear hI;(try clear hF);(try simp only [nc] at *);(try simp (disch:=(first|omega|(simp only [lnS];omega))) only [rdT,rdS,anT]));rotate_left 1;(try ((try simp only [nc] at *);omega)))
  |(refine E.c (SCalls.of_le (kk) ?_ ?_);(· (cbv;(try simp only [nc] at *);first|done|(simp;done)|(simp (disch:=(first|omega|(simp only [lnS];omega))) only [rdT,rdS,anT];first|done|omega|(refine ⟨?_,?_⟩<;>omega))|(simp (disch:=(first|omega|(simp only [lnS];omega))) [rdT,rdS];done)));cbv)
  |(refine E.c (SCalls.of_le (ka) ?_ ?_);(· (cbv;(try simp only [nc] at *);first|done|(simp;done)|(simp (disch:=(first|omega|(simp only [lnS];omega))) only [rdT,rdS,anT];first|done|omega|(refine ⟨?_,?_⟩<;>omega))|(simp (disch:=(first|omega|(simp only [lnS];omega))) [rdT,rdS];done)));cbv)
  |(refine ⟨fun _ h_s=>?_,fun _ h_s=>?_⟩<;>(cbv;(try simp only [nc] at *);try simp (disch:=(first|omega|(simp only [lnS];omega))) only [rdT,rdS,reduceCtorEq,trT] at h_s))
  |(refine hF ?_;intro _;clear hF)
  |(refine hF ?_;cbv;clear hF)
  |(refine ⟨fun _=>?_,?_⟩;(· ((try simp only [nc] at *);first|done|omega|exact ⟨by omega,rfl⟩|(simp (disch:=(first|omega|(simp only [lnS];omega))) only [rdT,rdS];first|done|omega|rfl|exact ⟨by omega,rfl⟩|(simp;done)|(simp;omega))|(intros;trivial)|exact ⟨by first|trivial|rfl,by first|trivial|rfl|simp,by first|trivial|simp,by simp;omega,by simp;omega,by simp [AV.flat,AV.cells,AV.one]⟩));(try (simp only [nc] at *));(try simp (disch:=(first|omega|(simp only [lnS];omega))) only [rdT,rdS]);(try cbv))
  | fail
 )
 ·have h1:¬ AE (lo+i)=0:=by assumption
  rw [decide_eq_false h1] at hS
  simp at hS
  rw [hS]
  exact ⟨⟨⟨rfl,rfl⟩,by push_cast;omega⟩,rfl,rfl⟩
 ·have h1:AE (lo+i)=0:=by assumption
  have h2:ok (AR (lo+i))=true:=by assumption
  rw [h1,h2] at hS
  simp at hS
  rw [hS]
  refine ⟨⟨⟨?_,?_⟩,by push_cast;omega⟩,?_,?_⟩<;>simp [hG,is,setAll,AV.nrm]
 ·have h1:AE (lo+i)=0:=by assumption
  have h2:ok (AR (lo+i))=false:=by assumption
  rw [h1,h2] at hS
  simp at hS
  rw [hS]
  exact ⟨⟨⟨rfl,rfl⟩,by push_cast;omega⟩,rfl,rfl⟩
 ·obtain rfl:i=N:=by ((try simp only [nc] at *);omega)
  refine fun _=>⟨rfl,by simp,?_⟩
  rw [List.drop_zero,List.take_of_length_le (by simp)]
theorem may_ok (g:Gr) (hg:GOk g) (t:Int) (e:Ev) (d:EId) :
  Pure Tryz.prog γ false 24 [aGr g,.i fun _=>t,aEv e,aId d] (.b fun _=>may1M g t e d):=by
 have hR:=rd_short hg
 have hA:=radd_ok (γ:=γ) g hR t e d (plLo e)
 unfold may1M
 generalize addR g t e d (plLo e)=AR at *
 generalize addE g t e d (plLo e)=AE at *
 by_cases h:e.kind=2∨e.kind=3
 ·rw [show plLo e=1 by unfold plLo writesM;simp [h]] at hA
  refine Pure.go (ty:=ty) ty_eq mo Tryz.func24 rfl Tryz.ntmps24 Tryz.results24 Tryz.call24 (by simp) fun P C CQ D W F E hF=>?_
  cbv
  repeat' (first
   |(refine E.c (SCalls.of_le (hA) ?_ ?_);(· (cbv;(try simp only [nc] at *);first|done|(simp;done)|(simp (disch:=(first|omega|(simp only [lnS];omega))) only [rdT,rdS,anT];first|done|omega|(refine ⟨?_,?_⟩<;>omega))|(simp (disch:=(first|omega|(simp only [lnS];omega))) [rdT,rdS];done)));cbv)
   |(refine ⟨fun _ h_s=>?_,fun _ h_s=>?_⟩<;>(cbv;(try simp only [nc] at *);try simp (disch:=(first|omega|(simp only [lnS];omega))) only [rdT,rdS,reduceCtorEq,trT] at h_s))
   |(refine hF ?_;intro _;clear hF)
   |(refine hF ?_;cbv;clear hF)
   |(refine ⟨fun _=>?_,?_⟩;(· ((try simp only [nc] at *);first|done|omega|exact ⟨by omega,rfl⟩|(simp (disch:=(first|omega|(simp only [lnS];omega))) only [rdT,rdS];first|done|omega|rfl|exact ⟨by omega,rfl⟩|(simp;done)|(simp;omega))|(intros;trivial)|exact ⟨by first|trivial|rfl,by first|trivial|rfl|simp,by first|trivial|simp,by simp;omega,by simp;omega,by simp [AV.flat,AV.cells,AV.one]⟩));(try (simp only [nc] at *));(try simp (disch:=(first|omega|(simp only [lnS];omega))) only [rdT,rdS]);(try cbv))
   | fail
  )
  all_goals first
   | (exfalso;((try simp only [nc] at *);omega))
   | rfl
   | (intro _;rfl)
 ·rw [show plLo e=0 by unfold plLo writesM;simp [h]] at hA
  refine Pure.go (ty:=ty) ty_eq mo Tryz.func24 rfl Tryz.ntmps24 Tryz.results24 Tryz.call24 (by simp) fun P C CQ D W F E hF=>?_
  cbv
  repeat' (first
   |(refine E.c (SCalls.of_le (hA) ?_ ?_);(· (cbv;(try simp only [nc] at *);first|done|(simp;done)|(simp (disch:=(first|omega|(simp only [lnS];omega))) only [rdT,rdS,anT];first|done|omega|(refine ⟨?_,?_⟩<;>omega))|(simp (disch:=(first|omega|(simp only [lnS];omega))) [rdT,rdS];done)));cbv)
   |(refine ⟨fun _ h_s=>?_,fun _ h_s=>?_⟩<;>(cbv;(try simp only [nc] at *);try simp (disch:=(first|omega|(simp only [lnS];omega))) only [rdT,rdS,reduceCtorEq,trT] at h_s))
   |(refine hF ?_;intro _;clear hF)
   |(refine hF ?_;cbv;clear hF)
   |(refine ⟨fun _=>?_,?_⟩;(· ((try simp only [nc] at *);first|done|omega|exact ⟨by omega,rfl⟩|(simp (disch:=(first|omega|(simp only [lnS];omega))) only [rdT,rdS];first|done|omega|rfl|exact ⟨by omega,rfl⟩|(simp;done)|(simp;omega))|(intros;trivial)|exact ⟨by first|trivial|rfl,by first|trivial|rfl|simp,by first|trivial|simp,by simp;omega,by simp;omega,by simp [AV.flat,AV.cells,AV.one]⟩));(try (simp only [nc] at *));(try simp (disch:=(first|omega|(simp only [lnS];omega))) only [rdT,rdS]);(try cbv))
   | fail
  )
  all_goals first
   | (exfalso;((try simp only [nc] at *);omega))
   | rfl
   | (intro _;rfl)
theorem r16Places_ok (m:Int) (g:Gr) (hR:Rd g) (t:Int) (e:Ev) (d:EId) :
  Pure Tryz.prog γ false 9 [.i fun _=>m,aGr g,.i fun _=>t,aEv e,aId d] (.tup [.vs 1 fun _=>is (if rdyM m g t=true∧mayM g t e d=true then plsM m g t e d else []),.i fun _=>if rdyM m g t=true∧mayM g t e d=true then 0 else 2]):=by
 have kc:=rcheckA (γ:=γ) m g hR
 by_cases hk:okM m g=true
 ·have hg:GOk g:=by
   by_cases h:GOk g
   ·exact h
   ·rw [okM_no h] at hk;cases hk
  have he:okE m=0:=by
   unfold okE
   by_cases hm:m=1∨m=2
   ·rw [if_pos hm]
   ·rw [okM_bad hm] at hk;cases hk
  have kp:=r16places_ok (γ:=γ) m g hg t e d
  have km:=may_ok (γ:=γ) g hg t e d
  rw [may_one hg]
  rw [hk,he] at kc
  have hth:=hg.short.th
  have hr:rdyM m g t=(decide (1≤t) && decide (t≤(g.th.length:Nat))):=by unfold rdyM;rw [hk,Bool.true_and]
  rw [hr]
  generalize plsM m g t e d=PL at *
  generalize may1M g t e d=my at *
  by_cases ht:1≤t∧t≤(g.th.length:Nat)
  ·rw [decide_eq_true ht.1,decide_eq_true ht.2]
   cases my
   ·refine Pure.go (ty:=ty) ty_eq mo Tryz.func9 rfl Tryz.ntmps9 Tryz.results9 Tryz.call9 (by simp) fun P C CQ D W F E hF=>?_
    cbv
    repeat' (first
     |(refine E.c (SCalls.of_le (kp) ?_ ?_);(· (cbv;(try simp only [nc] at *);first|done|(simp;done)|(simp (disch:=(first|omega|(simp only [lnS];omega))) only [rdT,rdS,anT];first|done|omega|(refine ⟨?_,?_⟩<;>omega))|(simp (disch:=(first|omega|(simp only [lnS];omega))) [rdT,rdS];done)));cbv)
     |(refine E.c (SCalls.of_le (km) ?_ ?_);(· (cbv;(try simp only [nc] at *);first|done|(simp;done)|(simp (disch:=(first|omega|(simp only [lnS];omega))) only [rdT,rdS,anT];first|done|omega|(refine ⟨?_,?_⟩<;>omega))|(simp (disch:=(first|omega|(simp only [lnS];omega))) [rdT,rdS];done)));cbv)
     |(refine E.c (SCalls.of_le (kc) ?_ ?_);(· (cbv;(try simp only [nc] at *);first|done|(simp;done)|(simp (disch:=(first|omega|(simp only [lnS];omega))) only [rdT,rdS,anT];first|done|omega|(refine ⟨?_,?_⟩<;>omega))|(simp (disch:=(first|omega|(simp only [lnS];omega))) [rdT,rdS];done)));cbv)
     |(refine ⟨fun _ h_s=>?_,fun _ h_s=>?_⟩<;>(cbv;(try simp only [nc] at *);try simp (disch:=(first|omega|(simp only [lnS];omega))) only [rdT,rdS,reduceCtorEq,trT] at h_s))
     |(refine hF ?_;intro _;clear hF)
     |(refine hF ?_;cbv;clear hF)
     |(refine ⟨fun _=>?_,?_⟩;(· ((try simp only [nc] at *);first|done|omega|exact ⟨by omega,rfl⟩|(simp (disch:=(first|omega|(simp only [lnS];omega))) only [rdT,rdS];first|done|omega|rfl|exact ⟨by omega,rfl⟩|(simp;done)|(simp;omega))|(intros;trivial)|exact ⟨by first|trivial|rfl,by first|trivial|rfl|simp,by first|trivial|simp,by simp;omega,by simp;omega,by simp [AV.flat,AV.cells,AV.one]⟩));(try (simp only [nc] at *));(try simp (disch:=(first|omega|(simp only [lnS];omega))) only [rdT,rdS]);(try cbv))
     | fail
    )
    all_goals first
     | (exfalso;((try simp only [nc] at *);omega))
     | (exfalso;revert h_s;simp;done)
     | (simp [is,LV.of];done)
   ·refine Pure.go (ty:=ty) ty_eq mo Tryz.func9 rfl Tryz.ntmps9 Tryz.results9 Tryz.call9 (by simp) fun P C CQ D W F E hF=>?_
    cbv
    repeat' (first
     |(refine E.c (SCalls.of_le (kp) ?_ ?_);(· (cbv;(try simp only [nc] at *);first|done|(simp;done)|(simp (disch:=(first|omega|(simp only [lnS];omega))) only [rdT,rdS,anT];first|done|omega|(refine ⟨?_,?_⟩<;>omega))|(simp (disch:=(first|omega|(simp only [lnS];omega))) [rdT,rdS];done)));cbv)
     |(refine E.c (SCalls.of_le (km) ?_ ?_);(· (cbv;(try simp only [nc] at *);first|done|(simp;done)|(simp (disch:=(first|omega|(simp only [lnS];omega))) only [rdT,rdS,anT];first|done|omega|(refine ⟨?_,?_⟩<;>omega))|(simp (disch:=(first|omega|(simp only [lnS];omega))) [rdT,rdS];done)));cbv)
     |(refine E.c (SCalls.of_le (kc) ?_ ?_);(· (cbv;(try simp only [nc] at *);first|done|(simp;done)|(simp (disch:=(first|omega|(simp only [lnS];omega))) only [rdT,rdS,anT];first|done|omega|(refine ⟨?_,?_⟩<;>omega))|(simp (disch:=(first|omega|(simp only [lnS];omega))) [rdT,rdS];done)));cbv)
     |(refine ⟨fun _ h_s=>?_,fun _ h_s=>?_⟩<;>(cbv;(try simp only [nc] at *);try simp (disch:=(first|omega|(simp only [lnS];omega))) only [rdT,rdS,reduceCtorEq,trT] at h_s))
     |(refine hF ?_;intro _;clear hF)
     |(refine hF ?_;cbv;clear hF)
     |(refine ⟨fun _=>?_,?_⟩;(· ((try simp only [nc] at *);first|done|omega|exact ⟨by omega,rfl⟩|(simp (disch:=(first|omega|(simp only [lnS];omega))) only [rdT,rdS];first|done|omega|rfl|exact ⟨by omega,rfl⟩|(simp;done)|(simp;omega))|(intros;trivial)|exact ⟨by first|trivial|rfl,by first|trivial|rfl|simp,by first|trivial|simp,by simp;omega,by simp;omega,by simp [AV.flat,AV.cells,AV.one]⟩));(try (simp only [nc] at *));(try simp (disch:=(first|omega|(simp only [lnS];omega))) only [rdT,rdS]);(try cbv))
     | fail
    )
    all_goals first
     | (exfalso;((try simp only [nc] at *);omega))
     | (exfalso;revert h_s;simp;done)
     | (simp [is,LV.of];done)
  ·have hb:(decide (1≤t) && decide (t≤(g.th.length:Nat)))=false:=by
    rw [Bool.eq_false_iff];intro h
    simp only [Bool.and_eq_true,decide_eq_true_eq] at h
    exact ht h
   rw [hb]
   refine Pure.go (ty:=ty) ty_eq mo Tryz.func9 rfl Tryz.ntmps9 Tryz.results9 Tryz.call9 (by simp) fun P C CQ D W F E hF=>?_
   cbv
   repeat' (first
    |(refine E.c (SCalls.of_le (kp) ?_ ?_);(· (cbv;(try simp only [nc] at *);first|done|(simp;done)|(simp (disch:=(first|omega|(simp only [lnS];omega))) only [rdT,rdS,anT];first|done|omega|(refine ⟨?_,?_⟩<;>omega))|(simp (disch:=(first|omega|(simp only [lnS];omega))) [rdT,rdS];done)));cbv)
    |(refine E.c (SCalls.of_le (km) ?_ ?_);(· (cbv;(try simp only [nc] at *);first|done|(simp;done)|(simp (disch:=(first|omega|(simp only [lnS];omega))) only [rdT,rdS,anT];first|done|omega|(refine ⟨?_,?_⟩<;>omega))|(simp (disch:=(first|omega|(simp only [lnS];omega))) [rdT,rdS];done)));cbv)
    |(refine E.c (SCalls.of_le (kc) ?_ ?_);(· (cbv;(try simp only [nc] at *);first|done|(simp;done)|(simp (disch:=(first|omega|(simp only [lnS];omega))) only [rdT,rdS,anT];first|done|omega|(refine ⟨?_,?_⟩<;>omega))|(simp (disch:=(first|omega|(simp only [lnS];omega))) [rdT,rdS];done)));cbv)
    |(refine ⟨fun _ h_s=>?_,fun _ h_s=>?_⟩<;>(cbv;(try simp only [nc] at *);try simp (disch:=(first|omega|(simp only [lnS];omega))) only [rdT,rdS,reduceCtorEq,trT] at h_s))
    |(refine hF ?_;intro _;clear hF)
    |(refine hF ?_;cbv;clear hF)
    |(refine ⟨fun _=>?_,?_⟩;(· ((try simp only [nc] at *);first|done|omega|exact ⟨by omega,rfl⟩|(simp (disch:=(first|omega|(simp only [lnS];omega))) only [rdT,rdS];first|done|omega|rfl|exact ⟨by omega,rfl⟩|(simp;done)|(simp;omega))|(intros;trivial)|exact ⟨by first|trivial|rfl,by first|trivial|rfl|simp,by first|trivial|simp,by simp;omega,by simp;omega,by simp [AV.flat,AV.cells,AV.one]⟩));(try (simp only [nc] at *));(try simp (disch:=(first|omega|(simp only [lnS];omega))) only [rdT,rdS]);(try cbv))
    | fail
   )
   all_goals first
    | (exfalso;((try simp only [nc] at *);omega))
    | (exfalso;revert h_s;simp;done)
    | (simp [is,LV.of];done)
 ·have hk:okM m g=false:=by simpa using hk
  have hr:rdyM m g t=false:=by unfold rdyM;rw [hk,Bool.false_and]
  rw [hr]
  rw [hk] at kc
  generalize okE m=oe at *
  refine Pure.go (ty:=ty) ty_eq mo Tryz.func9 rfl Tryz.ntmps9 Tryz.results9 Tryz.call9 (by simp) fun P C CQ D W F E hF=>?_
  cbv
  repeat' (first
   |(refine E.c (SCalls.of_le (kc) ?_ ?_);(· (cbv;(try simp only [nc] at *);first|done|(simp;done)|(simp (disch:=(first|omega|(simp only [lnS];omega))) only [rdT,rdS,anT];first|done|omega|(refine ⟨?_,?_⟩<;>omega))|(simp (disch:=(first|omega|(simp only [lnS];omega))) [rdT,rdS];done)));cbv)
   |(refine ⟨fun _ h_s=>?_,fun _ h_s=>?_⟩<;>(cbv;(try simp only [nc] at *);try simp (disch:=(first|omega|(simp only [lnS];omega))) only [rdT,rdS,reduceCtorEq,trT] at h_s))
   |(refine hF ?_;intro _;clear hF)
   |(refine hF ?_;cbv;clear hF)
   |(refine ⟨fun _=>?_,?_⟩;(· ((try simp only [nc] at *);first|done|omega|exact ⟨by omega,rfl⟩|(simp (disch:=(first|omega|(simp only [lnS];omega))) only [rdT,rdS];first|done|omega|rfl|exact ⟨by omega,rfl⟩|(simp;done)|(simp;omega))|(intros;trivial)|exact ⟨by first|trivial|rfl,by first|trivial|rfl|simp,by first|trivial|simp,by simp;omega,by simp;omega,by simp [AV.flat,AV.cells,AV.one]⟩));(try (simp only [nc] at *));(try simp (disch:=(first|omega|(simp only [lnS];omega))) only [rdT,rdS]);(try cbv))
   | fail
  )
  all_goals first
   | (exfalso;((try simp only [nc] at *);omega))
   | (exfalso;revert h_s;simp;done)
   | (simp [is,LV.of];done)
end Go.AL.Rl
namespace Go.AL.Rl
open Go Go.AL Go.Proofs
set_option maxRecDepth 100000
set_option maxHeartbeats 3200000
variable {γ:Nat→Option AV}
theorem r16sources_ok (m:Int) (g:Gr) (hR:Rd g) (t:Int) (a:Ak) :
  Pure Tryz.prog γ false 7 [.i fun _=>m,aGr g,.i fun _=>t,aAsk a] (.tup [.vs 2 fun _=>ids (if rdyM m g t=true∧askM g a=true then srcM m g t a else []),.i fun _=>if rdyM m g t=true∧askM g a=true then 0 else 2]):=by
 have kc:=rcheckA (γ:=γ) m g hR
 have ka:=fun v=>r13answer_ok (γ:=γ) a v
 have ho:okM m g=true→okE m=0:=fun h=>by
  unfold okE
  by_cases hm:m=1∨m=2
  ·rw [if_pos hm]
  ·rw [okM_bad hm] at h;cases h
 by_cases hr:rdyM m g t=true∧askM g a=true
 ·rw [if_pos hr,if_pos hr]
  obtain ⟨hr,hq⟩:=hr
  have hg:GOk g:=by
   by_cases h:GOk g
   ·exact h
   ·unfold rdyM at hr;rw [okM_no h] at hr;cases hr
  unfold rdyM at hr
  simp only [Bool.and_eq_true,decide_eq_true_eq] at hr
  obtain ⟨r1,r2,r3⟩:=hr
  rw [ho r1,r1] at kc
  unfold askM at hq
  simp only [Bool.and_eq_true,decide_eq_true_eq] at hq
  obtain ⟨q1,⟨q2,q3⟩,q4,q5⟩:=hq
  have kp:=fun e d=>r16places_ok (γ:=γ) m g hg t e d
  have kw:=rWrites_ok (γ:=γ) g hR hg a.loc
  have ke:=fun d=>rEvent_ok (γ:=γ) g hR hg d
  have hwl:=wrs_len hg a.loc
  have hin:=hg.short.init
  have hth:=hg.short.th
  obtain ⟨L,hL⟩:∃ L:Nat→List EId,∀ k,L k=((wrsM g a.loc).take k).filter (srcB m g t a):=⟨_,fun _=>rfl⟩
  have l0:L 0=[]:=by rw [hL];rfl
  have lS:∀ k,k<(wrsM g a.loc).length→L (k+1)=L k++if plsM m g t (ansM a ((eventM g ((wrsM g a.loc).getD k id0)).getD ev0).wr) ((wrsM g a.loc).getD k id0)≠[] then [(wrsM g a.loc).getD k id0] else []:=fun k hk=>by
   rw [hL,hL,filter_take _ _ id0 _ hk]
   unfold srcB
   simp only [decide_eq_true_eq]
  have lL:∀ k,(L k).length≤k:=fun k=>by
   rw [hL]
   refine Nat.le_trans (List.length_filter_le _ _) ?_
   simp;omega
  have lE:srcM m g t a=L (wrsM g a.loc).length:=by rw [hL,List.take_length];rfl
  rw [lE]
  clear hL lE
  have pL:∀ e d,(plsM m g t e d).length≤57:=fun e d=>Nat.le_trans (plcTo_len m g t e d _) (plN_le hg e)
  obtain ⟨G,hG⟩:∃ G:List EId→Nat,∀ l,G l=l.length:=⟨_,fun _=>rfl⟩
  have hG0:G []=0:=by rw [hG];rfl
  generalize plsM m g t=PL at *
  generalize wrsM g a.loc=wl at *
  generalize okM m g=ok at *
  refine Pure.go (ty:=ty) ty_eq mo Tryz.func7 rfl Tryz.ntmps7 Tryz.results7 Tryz.call7 (by simp) fun P C CQ D W F E hF=>?_
  cbv
  repeat' (first
   |(refine E.c (SCalls.of_le (kw) ?_ ?_);(· (cbv;(try simp only [nc] at *);first|done|(simp;done)|(simp (disch:=(first|omega|(simp only [lnS];omega))) only [rdT,rdS,anT];first|done|omega|(refine ⟨?_,?_⟩<;>omega))|(simp (disch:=(first|omega|(simp only [lnS];omega))) [rdT,rdS];done)));cbv)
   |((first|refine E.c (SCalls.of_le (ka 0) ?_ ?_)|refine E.q (QCalls.of_le (ka 0) ?_ ?_));(· (cbv;(try simp only [nc] at *);first|done|(simp;done)|(simp (disch:=(first|omega|(simp only [lnS];omega))) only [rdT,rdS,anT];first|done|omega|(refine ⟨?_,?_⟩<;>omega))|(simp (disch:=(first|omega|(simp only [lnS];omega))) [rdT,rdS];done)));cbv)
   |(refine E.c (SCalls.of_le (kc) ?_ ?_);(· (cbv;(try simp only [nc] at *);first|done|(simp;done)|(simp (disch:=(first|omega|(simp only [lnS];omega))) only [rdT,rdS,anT];first|done|omega|(refine ⟨?_,?_⟩<;>omega))|(simp (disch:=(first|omega|(simp only [lnS];omega))) [rdT,rdS];done)));cbv)
   |(refine ⟨fun _ h_s=>?_,fun _ h_s=>?_⟩<;>(cbv;(try simp only [nc] at *);try simp (disch:=(first|omega|(simp only [lnS];omega))) only [rdT,rdS,reduceCtorEq,trT] at h_s))
   |(refine hF ?_;intro _;clear hF)
   |(refine hF ?_;cbv;clear hF)
   |(refine ⟨fun _=>?_,?_⟩;(· ((try simp only [nc] at *);first|done|omega|exact ⟨by omega,rfl⟩|(simp (disch:=(first|omega|(simp only [lnS];omega))) only [rdT,rdS];first|done|omega|rfl|exact ⟨by omega,rfl⟩|(simp;done)|(simp;omega))|(intros;trivial)));(try (simp only [nc] at *));(try simp (disch:=(first|omega|(simp only [lnS];omega))) only [rdT,rdS]);(try cbv))
   |(refine E.d 8 (by decide +kernel) ?_;cbv;(fail_if_success guard_target =~ False))
   | fail
  )
  refine E.w (AWP.ghostSlot 14 2 rfl (by omega) (E.loopSA (ι:=Nat) (fun i=>i≤wl.length) (fun i=>wl.length-i) (fun i=>[(16,.i fun _=>((i:Nat):Int)),(14,.sl 3 (G (L i)) 2 (fun _=>0) fun _=>(L i).length)]) (fun i h=>h.set 3 (.run (G (L i)) 2 fun _=>ids (L i))) 0 (fun _=>by first | rfl | simp) (Nat.zero_le _) ?_ fun i hi I hI=>?_))
  ·cbv;simp [l0,hG0,ids,LV.of]
  cbv
  have hS:=lS i
  have hLi:=lL i
  clear lS lL l0
  obtain ⟨d,hd⟩:∃ d,d=wl.getD i id0:=⟨_,rfl⟩
  rw [←hd] at hS
  skip
  skip
  have k0:=ke d
  have k1:=ka ((eventM g d).getD ev0).wr
  have k2:=kp (ansM a ((eventM g d).getD ev0).wr) d
  have k3:=pL (ansM a ((eventM g d).getD ev0).wr) d
  generalize PL (ansM a ((eventM g d).getD ev0).wr) d=pl at *
  generalize ansM a ((eventM g d).getD ev0).wr=ev at *
  generalize (eventM g d).getD ev0=wv at *
  generalize (eventM g d).isSome=wb at *
  by_cases hp:pl=[]
  ·subst hp
   rw [if_neg (fun h=>h rfl),List.append_nil] at hS
   cbv
   repeat' (first
    |(refine hI (i+1) ?_ ?_ ?_;rotate_left 1;(· ((try simp only [nc] at *);omega));(cbv;clear hI;(try clear hF);(try simp only [nc] at *);(try simp (disch:=(first|omega|(simp only [lnS];omega))) only [rdT,rdS,hd.symm,anT]));rotate_left 1;(try ((try simp only [nc] at *);omega)))
    |((first|refine E.c (SCalls.of_le (k2) ?_ ?_)|refine E.q (QCalls.of_le (k2) ?_ ?_));(· (cbv;(try simp only [nc] at *);first|done|(simp;done)|(simp (disch:=(first|omega|(simp only [lnS];omega))) only [rdT,rdS,hd.symm,anT];first|done|omega|(refine ⟨?_,?_⟩<;>omega))|(simp (disch:=(first|omega|(simp only [lnS];omega))) [rdT,rdS,hd.symm];done)));cbv)
    |((first|refine E.c (SCalls.of_le (k1) ?_ ?_)|refine E.q (QCalls.of_le (k1) ?_ ?_));(· (cbv;(try simp only [nc] at *);first|done|(simp;done)|(simp (disch:=(first|omega|(simp only [lnS];omega))) only [rdT,rdS,hd.symm,anT];first|done|omega|(refine ⟨?_,?_⟩<;>omega))|(simp (disch:=(first|omega|(simp only [lnS];omega))) [rdT,rdS,hd.symm];done)));cbv)
    |((first|refine E.c (SCalls.of_le (k0) ?_ ?_)|refine E.q (QCalls.of_le (k0) ?_ ?_));(· (cbv;(try simp only [nc] at *);first|done|(simp;done)|(simp (disch:=(first|omega|(simp only [lnS];omega))) only [rdT,rdS,hd.symm,anT];first|done|omega|(refine ⟨?_,?_⟩<;>omega))|(simp (disch:=(first|omega|(simp only [lnS];omega))) [rdT,rdS,hd.symm];done)));cbv)
    |(refine E.de 12 [] [none] (by decide +kernel) ?_;cbv;(fail_if_success guard_target =~ False))
    |(refine ⟨fun _ h_s=>?_,fun _ h_s=>?_⟩<;>(cbv;(try simp only [nc] at *);try simp (disch:=(first|omega|(simp only [lnS];omega))) only [rdT,rdS,hd.symm,reduceCtorEq,trT] at h_s))
    |(refine hF ?_;intro _;clear hF)
    |(refine hF ?_;cbv;clear hF)
    |(refine ⟨fun _=>?_,?_⟩;(· ((try simp only [nc] at *);first|done|omega|exact ⟨by omega,rfl⟩|(simp (disch:=(first|omega|(simp only [lnS];omega))) only [rdT,rdS,hd.symm];first|done|omega|rfl|exact ⟨by omega,rfl⟩|(simp;done)|(simp;omega))|(intros;trivial)|exact ⟨by first|trivial|rfl,by first|trivial|rfl|simp,by first|trivial|simp,by simp;omega,by simp;omega,by simp [AV.flat,AV.cells,AV.one]⟩));(try (simp only [nc] at *));(try simp (disch:=(first|omega|(simp only [lnS];omega))) only [rdT,rdS,hd.symm]);(try cbv))
    |(refine E.d 8 (by decide +kernel) ?_;cbv;(fail_if_success guard_target =~ False))
    | fail
   )
   ·exfalso
    first
     | (revert h_s;simp;done)
     | ((try simp only [nc] at *);omega)
   ·rw [hS (by ((try simp only [nc] at *);omega))];exact ⟨⟨by push_cast;rfl,rfl,rfl⟩,rfl,rfl⟩
   ·obtain rfl:i=wl.length:=by ((try simp only [nc] at *);omega)
    refine ⟨fun _=>⟨rfl,by simp,?_⟩,fun _=>rfl,trivial⟩
    rw [List.drop_zero,List.take_of_length_le (by simp)]
  ·rw [if_pos hp] at hS
   have hpl:pl.length≠0:=fun h=>hp (List.length_eq_zero_iff.1 h)
   cbv
   repeat' (first
    |(refine hI (i+1) ?_ ?_ ?_;rotate_left 1;(· ((try simp only [nc] at *);omega));(cbv;clear hI;(try clear hF);(try simp only [nc] at *);(try simp (disch:=(first|omega|(simp only [lnS];omega))) only [rdT,rdS,hd.symm,anT]));rotate_left 1;(try ((try simp only [nc] at *);omega)))
    |((first|refine E.c (SCalls.of_le (k2) ?_ ?_)|refine E.q (QCalls.of_le (k2) ?_ ?_));(· (cbv;(try simp only [nc] at *);first|done|(simp;done)|(simp (disch:=(first|omega|(simp only [lnS];omega))) only [rdT,rdS,hd.symm,anT];first|done|omega|(refine ⟨?_,?_⟩<;>omega))|(simp (disch:=(first|omega|(simp only [lnS];omega))) [rdT,rdS,hd.symm];done)));cbv)
    |((first|refine E.c (SCalls.of_le (k1) ?_ ?_)|refine E.q (QCalls.of_le (k1) ?_ ?_));(· (cbv;(try simp only [nc] at *);first|done|(simp;done)|(simp (disch:=(first|omega|(simp only [lnS];omega))) only [rdT,rdS,hd.symm,anT];first|done|omega|(refine ⟨?_,?_⟩<;>omega))|(simp (disch:=(first|omega|(simp only [lnS];omega))) [rdT,rdS,hd.symm];done)));cbv)
    |((first|refine E.c (SCalls.of_le (k0) ?_ ?_)|refine E.q (QCalls.of_le (k0) ?_ ?_));(· (cbv;(try simp only [nc] at *);first|done|(simp;done)|(simp (disch:=(first|omega|(simp only [lnS];omega))) only [rdT,rdS,hd.symm,anT];first|done|omega|(refine ⟨?_,?_⟩<;>omega))|(simp (disch:=(first|omega|(simp only [lnS];omega))) [rdT,rdS,hd.symm];done)));cbv)
    |(refine E.de 12 [] [none] (by decide +kernel) ?_;cbv;(fail_if_success guard_target =~ False))
    |(refine ⟨fun _ h_s=>?_,fun _ h_s=>?_⟩<;>(cbv;(try simp only [nc] at *);try simp (disch:=(first|omega|(simp only [lnS];omega))) only [rdT,rdS,hd.symm,reduceCtorEq,trT] at h_s))
    |(refine hF ?_;intro _;clear hF)
    |(refine hF ?_;cbv;clear hF)
    |(refine ⟨fun _=>?_,?_⟩;(· ((try simp only [nc] at *);first|done|omega|exact ⟨by omega,rfl⟩|(simp (disch:=(first|omega|(simp only [lnS];omega))) only [rdT,rdS,hd.symm];first|done|omega|rfl|exact ⟨by omega,rfl⟩|(simp;done)|(simp;omega))|(intros;trivial)|exact ⟨by first|trivial|rfl,by first|trivial|rfl|simp,by first|trivial|simp,by simp;omega,by simp;omega,by simp [AV.flat,AV.cells,AV.one]⟩));(try (simp only [nc] at *));(try simp (disch:=(first|omega|(simp only [lnS];omega))) only [rdT,rdS,hd.symm]);(try cbv))
    |(refine E.d 8 (by decide +kernel) ?_;cbv;(fail_if_success guard_target =~ False))
    | fail
   )
   ·have hT:=hS (by ((try simp only [nc] at *);omega))
    simp [hG,hT,ids,setAll,AV.nrm]
   ·exfalso
    ((try simp only [nc] at *);omega)
   ·obtain rfl:i=wl.length:=by ((try simp only [nc] at *);omega)
    refine ⟨fun _=>⟨rfl,by simp,?_⟩,fun _=>rfl,trivial⟩
    rw [List.drop_zero,List.take_of_length_le (by simp)]
 ·rw [if_neg hr,if_neg hr]
  unfold rdyM askM at hr
  simp only [Bool.and_eq_true,decide_eq_true_eq] at hr
  generalize okE m=oe at *
  generalize okM m g=ok at *
  generalize ansE a=ae at *
  cases ok
  ·refine Pure.go (ty:=ty) ty_eq mo Tryz.func7 rfl Tryz.ntmps7 Tryz.results7 Tryz.call7 (by simp) fun P C CQ D W F E hF=>?_
   cbv
   repeat' (first
    |((first|refine E.c (SCalls.of_le (ka 0) ?_ ?_)|refine E.q (QCalls.of_le (ka 0) ?_ ?_));(· (cbv;(try simp only [nc] at *);first|done|(simp;done)|(simp (disch:=(first|omega|(simp only [lnS];omega))) only [rdT,rdS,hd.symm,anT];first|done|omega|(refine ⟨?_,?_⟩<;>omega))|(simp (disch:=(first|omega|(simp only [lnS];omega))) [rdT,rdS,hd.symm];done)));cbv)
    |(refine E.c (SCalls.of_le (kc) ?_ ?_);(· (cbv;(try simp only [nc] at *);first|done|(simp;done)|(simp (disch:=(first|omega|(simp only [lnS];omega))) only [rdT,rdS,hd.symm,anT];first|done|omega|(refine ⟨?_,?_⟩<;>omega))|(simp (disch:=(first|omega|(simp only [lnS];omega))) [rdT,rdS,hd.symm];done)));cbv)
    |(refine ⟨fun _ h_s=>?_,fun _ h_s=>?_⟩<;>(cbv;(try simp only [nc] at *);try simp (disch:=(first|omega|(simp only [lnS];omega))) only [rdT,rdS,hd.symm,reduceCtorEq,trT] at h_s))
    |(refine hF ?_;intro _;clear hF)
    |(refine hF ?_;cbv;clear hF)
    |(refine ⟨fun _=>?_,?_⟩;(· ((try simp only [nc] at *);first|done|omega|exact ⟨by omega,rfl⟩|(simp (disch:=(first|omega|(simp only [lnS];omega))) only [rdT,rdS,hd.symm];first|done|omega|rfl|exact ⟨by omega,rfl⟩|(simp;done)|(simp;omega))|(intros;trivial)|exact ⟨by first|trivial|rfl,by first|trivial|rfl|simp,by first|trivial|simp,by simp;omega,by simp;omega,by simp [AV.flat,AV.cells,AV.one]⟩));(try (simp only [nc] at *));(try simp (disch:=(first|omega|(simp only [lnS];omega))) only [rdT,rdS,hd.symm]);(try cbv))
    |(refine E.d 8 (by decide +kernel) ?_;cbv;(fail_if_success guard_target =~ False))
    | fail
   )
   all_goals first
    | (exfalso;revert h_s;simp;done)
    | (exfalso;((try simp only [nc] at *);omega))
    | (simp [ids,LV.of];done)
    | (exfalso;clear kc ka hF ho hr;simp at *;done)
  ·refine Pure.go (ty:=ty) ty_eq mo Tryz.func7 rfl Tryz.ntmps7 Tryz.results7 Tryz.call7 (by simp) fun P C CQ D W F E hF=>?_
   cbv
   repeat' (first
    |((first|refine E.c (SCalls.of_le (ka 0) ?_ ?_)|refine E.q (QCalls.of_le (ka 0) ?_ ?_));(· (cbv;(try simp only [nc] at *);first|done|(simp;done)|(simp (disch:=(first|omega|(simp only [lnS];omega))) only [rdT,rdS,hd.symm,anT];first|done|omega|(refine ⟨?_,?_⟩<;>omega))|(simp (disch:=(first|omega|(simp only [lnS];omega))) [rdT,rdS,hd.symm];done)));cbv)
    |(refine E.c (SCalls.of_le (kc) ?_ ?_);(· (cbv;(try simp only [nc] at *);first|done|(simp;done)|(simp (disch:=(first|omega|(simp only [lnS];omega))) only [rdT,rdS,hd.symm,anT];first|done|omega|(refine ⟨?_,?_⟩<;>omega))|(simp (disch:=(first|omega|(simp only [lnS];omega))) [rdT,rdS,hd.symm];done)));cbv)
    |(refine ⟨fun _ h_s=>?_,fun _ h_s=>?_⟩<;>(cbv;(try simp only [nc] at *);try simp (disch:=(first|omega|(simp only [lnS];omega))) only [rdT,rdS,hd.symm,reduceCtorEq,trT] at h_s))
    |(refine hF ?_;intro _;clear hF)
    |(refine hF ?_;cbv;clear hF)
    |(refine ⟨fun _=>?_,?_⟩;(· ((try simp only [nc] at *);first|done|omega|exact ⟨by omega,rfl⟩|(simp (disch:=(first|omega|(simp only [lnS];omega))) only [rdT,rdS,hd.symm];first|done|omega|rfl|exact ⟨by omega,rfl⟩|(simp;done)|(simp;omega))|(intros;trivial)|exact ⟨by first|trivial|rfl,by first|trivial|rfl|simp,by first|trivial|simp,by simp;omega,by simp;omega,by simp [AV.flat,AV.cells,AV.one]⟩));(try (simp only [nc] at *));(try simp (disch:=(first|omega|(simp only [lnS];omega))) only [rdT,rdS,hd.symm]);(try cbv))
    |(refine E.d 8 (by decide +kernel) ?_;cbv;(fail_if_success guard_target =~ False))
    | fail
   )
   all_goals first
    | (exfalso;revert h_s;simp;done)
    | (exfalso;((try simp only [nc] at *);omega))
    | (simp [ids,LV.of];done)
    | (exfalso;clear kc ka hF ho;simp at *;omega)
end Go.AL.Rl
namespace Go.AL.Rl
open Go Go.AL Go.Proofs
set_option maxRecDepth 100000
set_option maxHeartbeats 3200000
variable {γ:Nat→Option AV}
end Go.AL.Rl
namespace Go.AL.Rl
open Go Go.AL Go.Proofs
set_option maxRecDepth 100000
set_option maxHeartbeats 3200000
variable {γ:Nat→Option AV}
def vB:Vw:=⟨[⟨0,0⟩,⟨0,1⟩,⟨1,0⟩,⟨1,1⟩,⟨2,0⟩,⟨2,1⟩],[⟨2,0,1,0,0⟩,⟨2,1,1,0,0⟩,⟨2,0,5,0,1⟩,⟨1,1,5,0,0⟩,⟨2,1,5,0,1⟩,⟨1,0,5,0,0⟩],[-1,-1,-1,1,-1,0],[0,0,1,-1,1,-1]⟩
theorem gBok:GOk gB:=by decide +kernel
theorem gBv:viewG gB=vB:=by
 unfold viewG vB
 simp only [Vw.mk.injEq]
 decide +kernel
theorem gBn:nG gB=6:=rfl
theorem rdB:Rd gB:=by
 refine ⟨by simp [gB],by simp [gB],by simp [gB],by simp [gB],?_,?_,?_⟩<;>simp [gB]
theorem swB:swF vB 6=[0,0,0,0,0,0]:=by rw [swC_eq (by omega) (by decide +kernel)];decide +kernel
theorem hbB:hbF vB 6=[60,60,8,0,32,0]:=by unfold hbF;rw [swB];decide +kernel
theorem fB1:(fltM vB 6 1).br=false:=rfl
theorem fB2:(fltM vB 6 2).br=false:=by show (updF vB 6).br=false;decide +kernel
theorem fB3:(fltM vB 6 3).br=false:=by show (circF (porfF vB 6)).br=false;decide +kernel
theorem fB4:(fltM vB 6 4).br=false:=by show (circF (hbF vB 6)).br=false;rw [hbB];decide +kernel
theorem fB5:(fltM vB 6 5).br=false:=by show (cohF (hbF vB 6) (ecoF vB 6)).br=false;rw [hbB];decide +kernel
theorem fB6:(fltM vB 6 6).br=true∧(fltM vB 6 6).a=2∧(fltM vB 6 6).b = -1:=by
 show (circF (plusM 6 (togF vB 6))).br=true∧(circF (plusM 6 (togF vB 6))).a=2∧(circF (plusM 6 (togF vB 6))).b = -1
 decide +kernel
theorem wB2:Pure Tryz.prog γ false 14 [.i fun _=>2,aGr gB] (aBk ⟨0,0,0,false⟩):=by
 have k:=why_yes (γ:=γ) 2 [1,2,3,4,5] gB (.inr rfl) (by simp) (by decide) rules_yes2 rdB gBok
 rw [gBv,gBn] at k
 have e:[1,2,3,4,5].find? (fun k=>(fltM vB 6 k).br)=none:=by simp [List.find?,fB1,fB2,fB3,fB4,fB5]
 rw [e] at k
 exact k
theorem wB1:Pure Tryz.prog γ false 14 [.i fun _=>1,aGr gB] (aBk ⟨6,2,-1,true⟩):=by
 have k:=why_yes (γ:=γ) 1 [1,2,6] gB (.inl rfl) (by simp) (by decide) rules_yes1 rdB gBok
 rw [gBv,gBn] at k
 have e:[1,2,6].find? (fun k=>(fltM vB 6 k).br)=some 6:=by simp [List.find?,fB1,fB2,fB6]
 rw [e] at k
 simp only [fB6.2.1,fB6.2.2] at k
 exact k
theorem cB2:Pure Tryz.prog γ false 12 [.i fun _=>2,aGr gB] (.tup [.b fun _=>true,.i fun _=>0]):=by
 have k:=mcheck_ok (γ:=γ) 2 gB _ wB2
 simpa using k
theorem cB1:Pure Tryz.prog γ false 12 [.i fun _=>1,aGr gB] (.tup [.b fun _=>false,.i fun _=>0]):=by
 have k:=mcheck_ok (γ:=γ) 1 gB _ wB1
 simpa using k
theorem lives16_ok:Pure Tryz.prog γ false 4 [] (.b fun _=>true):=by
 have kb:=buffers_ok (γ:=γ)
 have k1:=cB1 (γ:=γ)
 have k2:=cB2 (γ:=γ)
 have k3:=wB1 (γ:=γ)
 generalize gB=g at *
 refine Pure.go (ty:=ty) ty_eq mo Tryz.func4 rfl Tryz.ntmps4 Tryz.results4 Tryz.call4 (by simp) fun P C CQ D W F E hF=>?_
 cbv
 repeat' (first
  |(refine E.c (SCalls.of_le (k3) ?_ ?_);(· (cbv;(try simp only [nc] at *);first|done|(simp;done)|(simp (disch:=(first|omega|(simp only [lnS];omega))) only [rdT,rdS,anT];first|done|omega|(refine ⟨?_,?_⟩<;>omega))|(simp (disch:=(first|omega|(simp only [lnS];omega))) [rdT,rdS];done)));cbv)
  |(refine E.c (SCalls.of_le (k2) ?_ ?_);(· (cbv;(try simp only [nc] at *);first|done|(simp;done)|(simp (disch:=(first|omega|(simp only [lnS];omega))) only [rdT,rdS,anT];first|done|omega|(refine ⟨?_,?_⟩<;>omega))|(simp (disch:=(first|omega|(simp only [lnS];omega))) [rdT,rdS];done)));cbv)
  |(refine E.c (SCalls.of_le (k1) ?_ ?_);(· (cbv;(try simp only [nc] at *);first|done|(simp;done)|(simp (disch:=(first|omega|(simp only [lnS];omega))) only [rdT,rdS,anT];first|done|omega|(refine ⟨?_,?_⟩<;>omega))|(simp (disch:=(first|omega|(simp only [lnS];omega))) [rdT,rdS];done)));cbv)
  |(refine E.c (SCalls.of_le (kb) ?_ ?_);(· (cbv;(try simp only [nc] at *);first|done|(simp;done)|(simp (disch:=(first|omega|(simp only [lnS];omega))) only [rdT,rdS,anT];first|done|omega|(refine ⟨?_,?_⟩<;>omega))|(simp (disch:=(first|omega|(simp only [lnS];omega))) [rdT,rdS];done)));cbv)
  |(refine ⟨fun _ h_s=>?_,fun _ h_s=>?_⟩<;>(cbv;(try simp only [nc] at *);try simp (disch:=(first|omega|(simp only [lnS];omega))) only [rdT,rdS,reduceCtorEq,trT] at h_s))
  |(refine hF ?_;intro _;clear hF)
  |(refine hF ?_;cbv;clear hF)
  |(refine ⟨fun _=>?_,?_⟩;(· ((try simp only [nc] at *);first|done|omega|exact ⟨by omega,rfl⟩|(simp (disch:=(first|omega|(simp only [lnS];omega))) only [rdT,rdS];first|done|omega|rfl|exact ⟨by omega,rfl⟩|(simp;done)|(simp;omega))|(intros;trivial)));(try (simp only [nc] at *));(try simp (disch:=(first|omega|(simp only [lnS];omega))) only [rdT,rdS]);(try cbv))
  | fail
 )
 all_goals first
  | (simp;done)
  | (exfalso;revert h_s;simp;done)
end Go.AL.Rl
namespace Go.AL.Rl
open Go Go.AL Go.Proofs
set_option maxRecDepth 100000
set_option maxHeartbeats 3200000
variable {γ:Nat→Option AV}
theorem modelAdds_main (g:Gr) (hR:Rd g) (m t:Int) (a:Ak) (e:Ev) (d:EId)
  (hA:∀ e d p,Pure Tryz.prog γ false 31 [aGr g,.i fun _=>t,aEv e,aId d,.i fun _=>p] (.tup [aGr (addR g t e d p),.i fun _=>addE g t e d p])) :
  Pure Tryz.prog γ false 3 [aGr g,.i fun _=>m,.i fun _=>t,aAsk a,aEv e,aId d] (.b fun _=>true):=by
 have kl:=lives16_ok (γ:=γ)
 have ki:=light_ok (γ:=γ) g hR 30 (by omega) (by omega)
 have k1:=msources_ok (γ:=γ) m g hR t a hA
 have k2:=r16sources_ok (γ:=γ) m g hR t a
 have k3:=mplaces_ok (γ:=γ) m g hR t e d (hA e d)
 have k4:=r16Places_ok (γ:=γ) m g hR t e d
 have l1:(if rdyM m g t=true∧askM g a=true then srcM m g t a else []).length≤57:=by
  split
  ·rename_i h
   have hg:GOk g:=by
    by_cases h2:GOk g
    ·exact h2
    ·have:=h.1;unfold rdyM at this;rw [okM_no h2] at this;cases this
   exact Nat.le_trans (List.length_filter_le _ _) (wrs_len hg _)
  ·simp
 have l2:(if rdyM m g t=true∧mayM g t e d=true then plsM m g t e d else []).length≤57:=by
  split
  ·rename_i h
   have hg:GOk g:=by
    by_cases h2:GOk g
    ·exact h2
    ·have:=h.1;unfold rdyM at this;rw [okM_no h2] at this;cases this
   exact Nat.le_trans (plcTo_len m g t e d _) (plN_le hg e)
  ·simp
 clear hA
 generalize (if rdyM m g t=true∧askM g a=true then srcM m g t a else [])=L1 at *
 generalize (if rdyM m g t=true∧askM g a=true then (0:Int) else 2)=E1 at *
 generalize (if rdyM m g t=true∧mayM g t e d=true then plsM m g t e d else [])=L2 at *
 generalize (if rdyM m g t=true∧mayM g t e d=true then (0:Int) else 2)=E2 at *
 have k5:=kids_ok (γ:=γ) L1 L1 (by omega)
 have k6:=ints_ok (γ:=γ) L2 L2 (by omega)
 rw [decide_eq_true rfl] at k5 k6
 generalize lightM 30 g=li at *
 cases li
 ·refine Pure.go (ty:=ty) ty_eq mo Tryz.func3 rfl Tryz.ntmps3 Tryz.results3 Tryz.call3 (by simp) fun P C CQ D W F E hF=>?_
  cbv
  repeat' (first
   |(refine E.c (SCalls.of_le (ki) ?_ ?_);(· (cbv;(try simp only [nc] at *);first|done|(simp;done)|(simp (disch:=(first|omega|(simp only [lnS];omega))) only [rdT,rdS,anT];first|done|omega|(refine ⟨?_,?_⟩<;>omega))|(simp (disch:=(first|omega|(simp only [lnS];omega))) [rdT,rdS];done)));cbv)
   |(refine E.c (SCalls.of_le (kl) ?_ ?_);(· (cbv;(try simp only [nc] at *);first|done|(simp;done)|(simp (disch:=(first|omega|(simp only [lnS];omega))) only [rdT,rdS,anT];first|done|omega|(refine ⟨?_,?_⟩<;>omega))|(simp (disch:=(first|omega|(simp only [lnS];omega))) [rdT,rdS];done)));cbv)
   |(refine ⟨fun _ h_s=>?_,fun _ h_s=>?_⟩<;>(cbv;(try simp only [nc] at *);try simp (disch:=(first|omega|(simp only [lnS];omega))) only [rdT,rdS,reduceCtorEq,trT] at h_s))
   |(refine hF ?_;intro _;clear hF)
   |(refine hF ?_;cbv;clear hF)
   |(refine ⟨fun _=>?_,?_⟩;(· ((try simp only [nc] at *);first|done|omega|exact ⟨by omega,rfl⟩|(simp (disch:=(first|omega|(simp only [lnS];omega))) only [rdT,rdS];first|done|omega|rfl|exact ⟨by omega,rfl⟩|(simp;done)|(simp;omega))|(intros;trivial)));(try (simp only [nc] at *));(try simp (disch:=(first|omega|(simp only [lnS];omega))) only [rdT,rdS]);(try cbv))
   | fail
  )
  all_goals first
   | rfl
   | (simp;done)
   | (exfalso;revert h_s;simp;done)
   | (exfalso;((try simp only [nc] at *);omega))
 ·refine Pure.go (ty:=ty) ty_eq mo Tryz.func3 rfl Tryz.ntmps3 Tryz.results3 Tryz.call3 (by simp) fun P C CQ D W F E hF=>?_
  cbv
  repeat' (first
   |((first|refine E.c (SCalls.of_le (k6) ?_ ?_)|refine E.q (QCalls.of_le (k6) ?_ ?_));(· (cbv;(try simp only [nc] at *);first|done|(simp;done)|(simp (disch:=(first|omega|(simp only [lnS];omega))) only [rdT,rdS,anT];first|done|omega|(refine ⟨?_,?_⟩<;>omega))|(simp (disch:=(first|omega|(simp only [lnS];omega))) [rdT,rdS];done)));cbv)
   |((first|refine E.c (SCalls.of_le (k5) ?_ ?_)|refine E.q (QCalls.of_le (k5) ?_ ?_));(· (cbv;(try simp only [nc] at *);first|done|(simp;done)|(simp (disch:=(first|omega|(simp only [lnS];omega))) only [rdT,rdS,anT];first|done|omega|(refine ⟨?_,?_⟩<;>omega))|(simp (disch:=(first|omega|(simp only [lnS];omega))) [rdT,rdS];done)));cbv)
   |((first|refine E.c (SCalls.of_le (k4) ?_ ?_)|refine E.q (QCalls.of_le (k4) ?_ ?_));(· (cbv;(try simp only [nc] at *);first|done|(simp;done)|(simp (disch:=(first|omega|(simp only [lnS];omega))) only [rdT,rdS,anT];first|done|omega|(refine ⟨?_,?_⟩<;>omega))|(simp (disch:=(first|omega|(simp only [lnS];omega))) [rdT,rdS];done)));cbv)
   |((first|refine E.c (SCalls.of_le (k3) ?_ ?_)|refine E.q (QCalls.of_le (k3) ?_ ?_));(· (cbv;(try simp only [nc] at *);first|done|(simp;done)|(simp (disch:=(first|omega|(simp only [lnS];omega))) only [rdT,rdS,anT];first|done|omega|(refine ⟨?_,?_⟩<;>omega))|(simp (disch:=(first|omega|(simp only [lnS];omega))) [rdT,rdS];done)));cbv)
   |((first|refine E.c (SCalls.of_le (k2) ?_ ?_)|refine E.q (QCalls.of_le (k2) ?_ ?_));(· (cbv;(try simp only [nc] at *);first|done|(simp;done)|(simp (disch:=(first|omega|(simp only [lnS];omega))) only [rdT,rdS,anT];first|done|omega|(refine ⟨?_,?_⟩<;>omega))|(simp (disch:=(first|omega|(simp only [lnS];omega))) [rdT,rdS];done)));cbv)
   |((first|refine E.c (SCalls.of_le (k1) ?_ ?_)|refine E.q (QCalls.of_le (k1) ?_ ?_));(· (cbv;(try simp only [nc] at *);first|done|(simp;done)|(simp (disch:=(first|omega|(simp only [lnS];omega))) only [rdT,rdS,anT];first|done|omega|(refine ⟨?_,?_⟩<;>omega))|(simp (disch:=(first|omega|(simp only [lnS];omega))) [rdT,rdS];done)));cbv)
   |(refine E.c (SCalls.of_le (ki) ?_ ?_);(· (cbv;(try simp only [nc] at *);first|done|(simp;done)|(simp (disch:=(first|omega|(simp only [lnS];omega))) only [rdT,rdS,anT];first|done|omega|(refine ⟨?_,?_⟩<;>omega))|(simp (disch:=(first|omega|(simp only [lnS];omega))) [rdT,rdS];done)));cbv)
   |(refine E.c (SCalls.of_le (kl) ?_ ?_);(· (cbv;(try simp only [nc] at *);first|done|(simp;done)|(simp (disch:=(first|omega|(simp only [lnS];omega))) only [rdT,rdS,anT];first|done|omega|(refine ⟨?_,?_⟩<;>omega))|(simp (disch:=(first|omega|(simp only [lnS];omega))) [rdT,rdS];done)));cbv)
   |(refine ⟨fun _ h_s=>?_,fun _ h_s=>?_⟩<;>(cbv;(try simp only [nc] at *);try simp (disch:=(first|omega|(simp only [lnS];omega))) only [rdT,rdS,reduceCtorEq,trT] at h_s))
   |(refine hF ?_;intro _;clear hF)
   |(refine hF ?_;cbv;clear hF)
   |(refine ⟨fun _=>?_,?_⟩;(· ((try simp only [nc] at *);first|done|omega|exact ⟨by omega,rfl⟩|(simp (disch:=(first|omega|(simp only [lnS];omega))) only [rdT,rdS];first|done|omega|rfl|exact ⟨by omega,rfl⟩|(simp;done)|(simp;omega))|(intros;trivial)));(try (simp only [nc] at *));(try simp (disch:=(first|omega|(simp only [lnS];omega))) only [rdT,rdS]);(try cbv))
   | fail
  )
  all_goals first
   | rfl
   | (simp;done)
   | (exfalso;revert h_s;simp;done)
   | (exfalso;((try simp only [nc] at *);omega))
end Go.AL.Rl
namespace Go.AL
open Go Go.RowKit
section
variable {P:Program} {γ:Nat→Option AV}
theorem run_copy_row {t e ty:TypeId} {i:TypeInfo} (ht:P.underlying t=some (.slice e)) (hi:P.info? e=some i) {K:Nat} {C:List Value} {ct:TypeId} {w:World}
  (hK:w.heap[K]?=some (.cells C.toArray ct (0,0))) (d dn dc sb so sn sc:Nat) (xs:List Value)
  (hm:min sn dn=xs.length) (h2:∀ e∈xs,e.cells.size=i.size) (h1:∀ e∈xs,∀ u∈e.cells.toList,u.oneCell'=true)
  (hsrc:∀ (j:Nat) (c:Value),(flat xs)[j]?=some c→w.cell? ⟨sb,so+j,none⟩=some c) (hfit:d+(flat xs).length≤C.length) :
  (Builtin.copy_ #[t,t] ty #[.slice (some ⟨K,d,none⟩) dn dc,.slice (some ⟨sb,so,none⟩) sn sc]).run P w=.ok (.int .i64 (xs.length:Nat)) (w.setRow K (C.take d++flat xs++C.drop (d+(flat xs).length)).toArray):=by
 have hfn:=run_firstCells' (P:=P) (a:=some ⟨sb,so,none⟩) (cap:=sc) (w:=w) h2 (.inr ⟨sb,so,rfl,hsrc⟩) xs.length (Nat.le_refl _)
 rw [List.take_length] at hfn
 have hone:∀ u∈flat xs,u.oneCell'=true:=by
  intro u hu
  simp only [flat,List.mem_flatten,List.mem_map] at hu
  obtain ⟨l,⟨e,he,rfl⟩,hu⟩:=hu
  exact h1 e he u hu
 have hst:=run_storeCells_at P K d ct (flat xs) 0 C.toArray w hK (by simpa using hfit) hone
 simp only [Nat.add_zero] at hst
 have hr:=run_copy' (P:=P) (ty:=ty) (ts:=#[t,t]) ht hi (some ⟨K,d,none⟩) (some ⟨sb,so,none⟩) dn dc sn sc (flat xs) w _ (by
  rw [hm]
  simp only [Builtin.firstCells] at hfn ⊢
  exact hfn) hst rfl
 rw [hm] at hr
 exact hr
theorem flat_dropl {sz:Nat} {evs:List Value} (h:∀ e∈evs,e.cells.size=sz) (i:Nat):(flat (evs.drop i)).length=(evs.length-i) * sz:=by
 rw [flat_length fun e he=>h e (List.mem_of_mem_drop he),List.length_drop]
theorem flat_one {sz:Nat} {x:Value} (h:x.cells.size=sz):(flat [x]).length=sz:=by simp [flat,h]
theorem row_shift {sz i:Nat} {evs R:List Value} {x:Value} (h:∀ e∈evs,e.cells.size=sz) (hx:x.cells.size=sz) (hi:i<evs.length) (C1:List Value)
  (h1:C1=(flat evs++R).take ((i+1) * sz)++flat (evs.drop i)++(flat evs++R).drop ((i+1) * sz+(flat (evs.drop i)).length)) :
  C1.take (i * sz)++flat [x]++C1.drop (i * sz+(flat [x]).length)=flat (evs.take i++[x]++evs.drop i)++R.drop sz:=by
 have l0:=flat_length h
 have l1:=flat_dropl h i
 have l2:=flat_one hx
 have m1:(i+1) * sz≤evs.length * sz:=Nat.mul_le_mul_right _ hi
 have m2:(i+1) * sz=i * sz+sz:=by rw [Nat.add_mul,Nat.one_mul]
 have m3:(i+1) * sz+(evs.length-i) * sz=evs.length * sz+sz:=by
  rw [←Nat.add_mul,show i+1+(evs.length-i)=evs.length+1 by omega,Nat.add_mul,Nat.one_mul]
 have e1:C1.take (i * sz)=flat (evs.take i):=by
  rw [h1,List.append_assoc,List.take_append_of_le_length (by rw [List.length_take,List.length_append,l0];omega),List.take_take,Nat.min_eq_left (by omega),List.take_append_of_le_length (by rw [l0];omega)]
  exact flat_take h i (by omega)
 have e2:C1.drop (i * sz+sz)=flat (evs.drop i)++R.drop sz:=by
  rw [h1,List.append_assoc,List.drop_append_of_le_length (by rw [List.length_take,List.length_append,l0];omega),List.drop_of_length_le (by rw [List.length_take];omega),List.nil_append,l1,m3,List.drop_append,List.drop_of_length_le (l:=flat evs) (by rw [l0];omega),List.nil_append,l0,Nat.add_sub_cancel_left]
 rw [l2,e1,e2,flat_append,flat_append]
 simp [List.append_assoc]
theorem row_anew {sz i:Nat} {evs Z:List Value} {x:Value} (h:∀ e∈evs,e.cells.size=sz) (hx:x.cells.size=sz) (hi:i<evs.length) (hZ:(evs.length+1-i) * sz≤Z.length) (C1:List Value)
  (h1:C1=(flat (evs.take i)++Z).take (i * sz)++flat [x]++(flat (evs.take i)++Z).drop (i * sz+(flat [x]).length)) :
  C1.take ((i+1) * sz)++flat (evs.drop i)++C1.drop ((i+1) * sz+(flat (evs.drop i)).length)=flat (evs.take i++[x]++evs.drop i)++Z.drop ((evs.length+1-i) * sz):=by
 have l0:(flat (evs.take i)).length=i * sz:=by rw [flat_length fun e he=>h e (List.mem_of_mem_take he),List.length_take];congr 1;omega
 have l1:=flat_dropl h i
 have l2:=flat_one hx
 have m2:(i+1) * sz=i * sz+sz:=by rw [Nat.add_mul,Nat.one_mul]
 have m3:(evs.length+1-i) * sz=sz+(evs.length-i) * sz:=by
  rw [show evs.length+1-i=1+(evs.length-i) by omega,Nat.add_mul,Nat.one_mul]
 have e0:C1=flat (evs.take i)++flat [x]++Z.drop sz:=by
  rw [h1,l2,List.take_append_of_le_length (by omega),List.take_of_length_le (by omega),List.drop_append,List.drop_of_length_le (by omega),List.nil_append,l0,Nat.add_sub_cancel_left]
 have e1:C1.take ((i+1) * sz)=flat (evs.take i)++flat [x]:=by
  rw [e0,List.take_append_of_le_length (by rw [List.length_append];omega),List.take_of_length_le (by rw [List.length_append];omega)]
 have e2:C1.drop ((i+1) * sz+(evs.length-i) * sz)=Z.drop ((evs.length+1-i) * sz):=by
  rw [e0,List.drop_append,List.drop_of_length_le (by rw [List.length_append];omega),List.nil_append,List.length_append,l0,l2,List.drop_drop]
  congr 1;omega
 rw [l1,e1,e2,flat_append,flat_append]
theorem prefix_of_get {l c:List Value} (h:∀ (j:Nat) (x:Value),l[j]?=some x→c[j]?=some x):∃ R,c=l++R:=by
 obtain ⟨R,hR⟩:l <+: c:=List.prefix_iff_getElem?.2 fun i hi=>h i _ (List.getElem?_eq_getElem hi)
 exact ⟨R,hR.symm⟩
theorem flat_of_rows {q:Nat} (hq:0<q) {evs:List Value} {c:Array Value} (h:∀ (i:Nat) (e:Value),evs[i]?=some e→e.cells.size=q∧∀ (j:Nat) (x:Value),e.cells[j]?=some x→c[i * q+j]?=some x) :
  (∀ e∈evs,e.cells.size=q)∧∃ R,c.toList=flat evs++R:=by
 have hs:∀ e∈evs,e.cells.size=q:=fun e he=>by
  obtain ⟨i,hi,rfl⟩:=List.mem_iff_getElem.1 he
  exact (h i _ (List.getElem?_eq_getElem hi)).1
 refine ⟨hs,prefix_of_get fun j x hj=>?_⟩
 have hl:=flat_length hs
 have hjl:=(List.getElem?_eq_some_iff.1 hj).1
 have hd:=Nat.div_add_mod j q
 have hm:=Nat.mod_lt j hq
 have hi:j / q<evs.length:=(Nat.div_lt_iff_lt_mul hq).2 (by rw [←hl];exact hjl)
 have h1:=h (j / q) _ (List.getElem?_eq_getElem hi)
 have hk:j % q<evs[j / q].cells.size:=by rw [h1.1];exact hm
 have h2:=h1.2 (j % q) _ (Array.getElem?_eq_getElem hk)
 have h3:=flat_get hs (List.getElem?_eq_getElem hi) (Array.getElem?_eq_getElem hk)
 have e1:j / q * q+j % q=j:=by rw [Nat.mul_comm];exact hd
 rw [e1] at h2 h3
 rw [hj] at h3
 rw [h3,←h2];simp
theorem own_row {B:Nat} {S:Nat→Prop} {ρ:List Loc} {h:List Blk} {w:World} (hh:HeapR B S γ ρ h w) {b g q:Nat} {es:Unit→LV} (hb:h[b]?=some (.run g q es)) {v:Value} {len:Unit→Nat}
  (hv:R S w (some ρ) (.sl b g q (fun _=>0) len) v) (hlen:(es ()).l.length=len ()) (hpos:0<len ()) (hq:0<q) :
  ∃ loc K cap evs Z ct,ρ[b]?=some loc∧loc.k=some K∧loc.g=g∧loc.e=q∧loc.box=false∧v=.slice (some ⟨K,0,none⟩) (len ()) cap∧len ()≤cap∧cap * q≤loc.size∧RL S w (es ()) evs∧evs.length=len () ∧
   (∀ e∈evs,∀ u∈e.cells.toList,u.oneCell'=true)∧(∀ e∈evs,e.cells.size=q)∧w.heap[K]?=some (.cells (flat evs++Z).toArray ct (0,0))∧(flat evs++Z).length=loc.size∧K<w.heap.size:=by
 obtain ⟨_,loc,a,cap,e,q1,q2,q3,q4,rfl,q6,q7,q8⟩:=hv
 cases e
 obtain ⟨d1,d2,d3,evs,d4,d5,d6⟩:=hh.blk b _ loc hb q1
 have hel:evs.length=len ():=(Rs_len ((RL_iff _ _ _ _).1 d4)).trans hlen
 rcases d6 with ⟨_,rfl⟩ | ⟨K,c,ct,k1,k2,k3,k4,k5⟩
 ·simp only [List.length_nil] at hel;omega
 obtain ⟨f1,Z,f2⟩:=flat_of_rows (q:=loc.e) (by omega) k5
 have hc:c=(flat evs++Z).toArray:=by rw [←f2]
 subst hc
 rcases q8 d2 with ⟨_,r2,_⟩ | ⟨K',r1,r2,r3⟩
 ·omega
 rw [k1] at r1
 cases r1
 rcases r2 with r2 | rfl
 ·omega
 refine ⟨loc,K,cap,evs,Z,ct,q1,k1,d2,d3,q2,by rw [Nat.zero_mul],q6,?_,d4,hel,d5,fun e he=>by rw [f1 e he,d3],k2,by rw [←k3];simp,(hh.own b loc K q1 (.inl k1)).2.1⟩
 rw [d3,Nat.zero_add] at r3;exact r3
theorem RL_insert {S:Nat→Prop} {w:World} {l:List AV} {x:AV} {evs:List Value} {xv:Value} (h:RL S w (LV.of l) evs) (hx:R S w none x xv) (i:Nat):RL S w (LV.of (l.take i++x :: l.drop i)) (evs.take i++[xv]++evs.drop i):=by
 rw [RL_iff,LV.l_of] at h ⊢
 rw [List.append_assoc]
 exact Rs_append (Rs_take h i) (Rs_append (cs:=[x]) ⟨xv,[],rfl,hx,rfl⟩ (Rs_drop h i))
theorem SCalls.insert {f:FuncId} {ty:TypeId} {q:Nat} (hq:0<q) (he:Enters P f)
  (room:∀ (K n cap i Kv vo vc:Nat) (evs R:List Value) (ct:TypeId) (x:Value) (w:World),w.heap[K]?=some (.cells (flat evs++R).toArray ct (0,0))→Kv≠K→evs.length=n →
   (∀ e∈evs,e.cells.size=q)→(∀ e∈evs,∀ u∈e.cells.toList,u.oneCell'=true)→x.cells.size=q→(∀ u∈x.cells.toList,u.oneCell'=true)→(∀ (j:Nat) (c:Value),x.cells[j]?=some c→w.cell? ⟨Kv,vo+j,none⟩=some c)→i<n→n+1≤cap→q≤R.length→n≤1000000 →
   ∃ w',(Fr w w'∧(∀ k,k≠K→w'.heap[k]?=w.heap[k]?)∧w'.heap[K]?=some (.cells (flat (evs.take i++[x]++evs.drop i)++R.drop q).toArray ct (0,0))) ∧
   Calls P f #[.slice (some ⟨K,0,none⟩) n cap,.int .i64 i,.slice (some ⟨Kv,vo,none⟩) 1 vc] w fun e w1=>e=.returned (.slice (some ⟨K,0,none⟩) (n+1) cap)∧w1=w')
  (grow:∀ (K n cap i Kv vo vc:Nat) (evs R:List Value) (ct:TypeId) (x:Value) (w:World),w.heap[K]?=some (.cells (flat evs++R).toArray ct (0,0))→Kv≠K→evs.length=n →
   (∀ e∈evs,e.cells.size=q)→(∀ e∈evs,∀ u∈e.cells.toList,u.oneCell'=true)→x.cells.size=q→(∀ u∈x.cells.toList,u.oneCell'=true)→(∀ (j:Nat) (c:Value),x.cells[j]?=some c→w.cell? ⟨Kv,vo+j,none⟩=some c)→i<n→n≤cap→cap<n+1→n≤1000000 →
   Calls P f #[.slice (some ⟨K,0,none⟩) n cap,.int .i64 i,.slice (some ⟨Kv,vo,none⟩) 1 vc] w fun e w1=>
    ∃ G R',n+1≤G∧R'.length=(G-(n+1)) * q∧e=.returned (.slice (some ⟨w.heap.size,0,none⟩) (n+1) G)∧Fr w w1∧w.heap.size<w1.heap.size∧(∀ k,k<w.heap.size→w1.heap[k]?=w.heap[k]?) ∧
    w1.heap[w.heap.size]?=some (.cells (flat (evs.take i++[x]++evs.drop i)++R').toArray ty (0,0)))
  {h:List Blk} {b g i n:Nat} {l:List AV} {x:AV} {es vs:Unit→LV} {j:Unit→Int} {m:Unit→Nat} (hb:h[b]?=some (.run g q es)) (hes:es ()=LV.of l) (hvs:vs ()=LV.of [x]) (hn:l.length=n) (hm:m ()=n)
  (hj:j ()=i) (hxf:x.flat=true) (hi:i<n) (hn6:n≤1000000) {Q:AV→List Blk→Prop} (hQ:Q (.sl b (g+1) q (fun _=>0) fun _=>n+1) (h.set b (.run (g+1) q fun _=>LV.of (l.take i++x :: l.drop i)))) :
  SCalls P γ f [.sl b g q (fun _=>0) m,.i j,.vs q vs] h Q:=by
 refine ⟨he,fun B S ρ w vals hh hargs=>?_⟩
 obtain ⟨v1,_,rfl,hv1,v2,_,rfl,hv2,v3,_,rfl,hv3,rfl⟩:=hargs
 have hv2:v2=.int .i64 i:=by rw [←hj];exact hv2
 subst hv2
 obtain ⟨loc,K,cap,evs,Z,ct,a1,a2,a3,a4,a5,rfl,a6,a7,a8,a9,a10,a11,a12,a13,a14⟩:=own_row hh hb hv1 (by rw [hes,LV.l_of,hm,hn]) (by omega) hq
 rw [hm] at a6 a9 ⊢
 rw [hes] at a8
 obtain ⟨av,cap',evs',rfl,_,b8,b9⟩:=hv3
 rw [hvs] at b8
 have hl1:evs'.length=1:=Rs_len ((RL_iff _ _ _ _).1 b8)
 have hx1':=onecells_of b8 (by rw [LV.l_of];intro v hv;rw [List.mem_singleton.1 hv];exact hxf)
 obtain ⟨xv,rfl⟩:=List.length_eq_one_iff.1 hl1
 have hxR:R S w none x xv:=by
  obtain ⟨_,_,e,h1,h2⟩:=b8
  cases e;exact h1
 rcases b9 with b9 | ⟨ad,rfl,had,hSa,hcell⟩
 ·cases b9
 obtain ⟨K',vo,sp⟩:=ad
 simp only at had hSa
 subst had
 have hKK:K'≠K:=fun e=>(hh.own b loc K a1 (.inl a2)).1 (e ▸ hSa)
 have hx2:=(hcell 0 xv rfl).1
 have hx1:=hx1' xv (by simp)
 have hxV:∀ (j:Nat) (c:Value),xv.cells[j]?=some c→w.cell? ⟨K',vo+j,none⟩=some c:=fun j c hc=>by
  have:=(hcell 0 xv rfl).2 j c hc
  rw [Nat.zero_mul,Nat.zero_add] at this
  exact this
 have fl:=flat_length a11
 have hone:∀ e∈evs.take i++[xv]++evs.drop i,∀ u∈e.cells.toList,u.oneCell'=true:=fun e he=>by
  rcases List.mem_append.1 he with he | he
  ·rcases List.mem_append.1 he with he | he
   ·exact a10 e (List.mem_of_mem_take he)
   ·rw [List.mem_singleton.1 he];exact hx1
  ·exact a10 e (List.mem_of_mem_drop he)
 have hsz:∀ e∈evs.take i++[xv]++evs.drop i,e.cells.size=q:=fun e he=>by
  rcases List.mem_append.1 he with he | he
  ·rcases List.mem_append.1 he with he | he
   ·exact a11 e (List.mem_of_mem_take he)
   ·rw [List.mem_singleton.1 he];exact hx2
  ·exact a11 e (List.mem_of_mem_drop he)
 have hlen:(evs.take i++[xv]++evs.drop i).length=n+1:=by simp;omega
 have fl2:=flat_length hsz
 rw [hlen] at fl2
 have hblt:=(List.getElem?_eq_some_iff.1 a1).1
 by_cases hroom:n+1≤cap
 ·have hmul:(n+1) * q≤cap * q:=Nat.mul_le_mul_right _ hroom
  rw [Nat.add_mul,Nat.one_mul] at hmul
  rw [List.length_append,fl,a9] at a13
  obtain ⟨w',⟨c1,c2,c3⟩,c4⟩:=room K n cap i K' vo cap' evs Z ct xv w a12 hKK a9 a11 a10 hx2 hx1 hxV hi hroom (by omega) hn6
  refine c4.mono fun e w1 ⟨h1,h2⟩=>?_
  subst h2
  have hS:SameOn S w w1:=fun k hk=>c2 k fun e=>(hh.own b loc K a1 (.inl a2)).1 (e ▸ hk)
  have hup:=hh.upd (loc':={ loc with g:=g+1 }) (blk':=.run (g+1) q fun _=>LV.of (l.take i++x :: l.drop i)) (w':=w1) a1 (.inr (.inl ⟨a5,a5,by show loc.g<g+1;omega,rfl⟩)) (fun K' hK'=>.inl hK') c1
   (fun k _ hk=>c2 k fun e=>hk (by rw [a2,e])) (by
   refine ⟨a5,rfl,a4,_,RL.mono (fun _ h=>h) hS _ _ (RL_insert a8 hxR i),hone,.inr ⟨K,_,ct,a2,c3,?_,?_,?_⟩⟩
   ·rw [List.size_toArray,List.length_append,fl2,List.length_drop,Nat.add_mul,Nat.one_mul];show _=loc.size;omega
   ·show _ * loc.e≤loc.size
    rw [hlen,a4,Nat.add_mul,Nat.one_mul];omega
   ·show ∀ (i:Nat) (e:Value),_→e.cells.size=loc.e∧∀ (j:Nat) (x:Value),_→_[i * loc.e+j]?=_
    rw [a4];exact grown_row hsz _)
  exact ⟨_,_,S,_,_,h1,hQ,⟨_,{ loc with g:=g+1 },_,cap,rfl,by rw [List.getElem?_set_self hblt],a5,a4,Nat.le_refl _,rfl,hroom,.inr ⟨_,_,rfl⟩,fun _=>.inr ⟨K,a2,.inr (by rw [Nat.zero_mul]),by rw [Nat.zero_add];show cap * loc.e≤loc.size;rw [a4];exact a7⟩⟩,hup.1,hup.2⟩
 ·refine (grow K n cap i K' vo cap' evs Z ct xv w a12 hKK a9 a11 a10 hx2 hx1 hxV hi a6 (by omega) hn6).mono fun e w1 ⟨G,R',c1,c2,c3,c4,c5,c6,c7⟩=>?_
  have hS:SameOn S w w1:=fun k hk=>c6 k (hh.sle k hk)
  have hG:(n+1) * q+(G-(n+1)) * q=G * q:=by rw [←Nat.add_mul];congr 1;omega
  have hup:=hh.upd (loc':=⟨false,g+1,some w.heap.size,q,G * q,[]⟩) (blk':=.run (g+1) q fun _=>LV.of (l.take i++x :: l.drop i)) (w':=w1) a1 (.inr (.inl ⟨a5,rfl,by show loc.g<g+1;omega,a4⟩)) (fun K' hK'=>by cases hK';exact .inr ⟨Nat.le_refl _,c5⟩) c4
   (fun k hk _=>c6 k hk) (by
   refine ⟨rfl,rfl,rfl,_,RL.mono (fun _ h=>h) hS _ _ (RL_insert a8 hxR i),hone,.inr ⟨w.heap.size,_,ty,rfl,c7,?_,?_,?_⟩⟩
   ·rw [List.size_toArray,List.length_append,fl2,c2];exact hG
   ·show _ * q≤G * q
    rw [hlen];exact Nat.mul_le_mul_right _ c1
   ·exact grown_row hsz _)
  exact ⟨_,_,S,_,_,c3,hQ,⟨_,_,_,G,rfl,by rw [List.getElem?_set_self hblt],rfl,rfl,Nat.le_refl _,rfl,c1,.inr ⟨_,_,rfl⟩,fun _=>.inr ⟨w.heap.size,rfl,.inr (by rw [Nat.zero_mul]),by rw [Nat.zero_add];exact Nat.le_refl _⟩⟩,hup.1,hup.2⟩
theorem SCalls.ghostNest {f:FuncId} {args args':List AV} {q g b:Nat} {ess:Unit→List LV} {len:Unit→Nat} {h:List Blk} {es0:Unit→LV} (ho:Owns P γ f args' (.sl 0 0 1 (fun _=>0) len) [.nest 0 q ess none]) (hs:leVs 0 args' args)
  (hb:h[b]?=some (.run g 1 es0)):SCalls P γ f args h fun v h''=>v=.sl b (g+1) 1 (fun _=>0) len∧h''=h.set b (.nest (g+1) q ess none):=by
 refine ⟨ho.1,fun B S ρ w vals hh hr=>?_⟩
 have hh0:HeapR w.heap.size S γ [] [] w:=⟨rfl,fun b blk loc h _=>by simp at h,fun b loc K h _=>by simp at h,fun b b' loc loc' K h _ _ _=>by simp at h,hh.sle,hh.gok,Nat.le_refl _,fun b loc h=>by simp at h⟩
 have hr0:Rs S w (some []) args' vals:=Rs_stable (m:=some (ρ.take 0)) (m':=some []) _ _ (leVs_stable _ _ hs) (Rs_le _ _ _ hs hr)
 refine (ho.2 w.heap.size S [] w vals hh0 hr0).mono fun e w' ⟨v',h',S',ρ',val,h1,⟨h2,h3⟩,h4,h5,h6⟩=>?_
 have hv:=R_le _ _ _ h2 h4
 have hbk:=h5.le h3 rfl
 generalize hρ:ρ'.take [Blk.nest 0 q ess none].length=ρ2 at hv hbk
 obtain ⟨l,loc,a,cap,hl,c1,c2,c3,c4,c5,c6,c7,c8⟩:=hv
 cases hl
 obtain ⟨d1,d2,d3,evs,d4,d5,d6,d7⟩:=hbk.blk 0 _ loc rfl c1
 have hlt:b<ρ.length:=by rw [hh.len];exact (List.getElem?_eq_some_iff.1 hb).1
 obtain ⟨loc0,hl0⟩:∃ loc0,ρ[b]?=some loc0:=⟨_,List.getElem?_eq_getElem hlt⟩
 obtain ⟨f1,f2,f3,_⟩:=hh.blk b _ _ hb hl0
 have hup:loc0.up { loc with g:=g+1 }:=.inr (.inl ⟨f1,d1,by show loc0.g<g+1;omega,by show loc0.e=loc.e;rw [f3];exact d3.symm⟩)
 have hlocs:=LocsUp.set1 hl0 hup
 have hsz:=h6.fr.size
 have old:∀ (b:Nat) (loc:Loc) (K:Nat),ρ[b]?=some loc→loc.has K→¬ S' K∧K<w.heap.size∧B≤K:=fun b loc K e1 e2=>by
  obtain ⟨m1,m2,m3⟩:=hh.own b loc K e1 e2
  refine ⟨fun hs'=>?_,m2,m3⟩
  rcases h6.grow K hs' with h7 | h7
  ·exact m1 h7
  ·omega
 have which:∀ (c:Nat) (l:Loc),(ρ.set b { loc with g:=g+1 })[c]?=some l→(c=b∧l={ loc with g:=g+1 })∨(c≠b∧ρ[c]?=some l):=fun c l e=>by
  by_cases hc:b=c
  ·subst hc
   rw [List.getElem?_set_self hlt] at e
   cases e;exact .inl ⟨rfl,rfl⟩
  ·rw [List.getElem?_set_ne hc] at e;exact .inr ⟨fun h=>hc h.symm,e⟩
 refine ⟨_,_,S',ρ.set b { loc with g:=g+1 },val,h1,⟨rfl,rfl⟩,?_,?_,?_⟩
 ·exact ⟨_,_,a,cap,rfl,List.getElem?_set_self hlt,d1,c3,Nat.le_refl _,c5,c6,c7,fun _=>c8 d2⟩
 ·refine ⟨by simp [hh.len],fun c blk l e1 e2=>?_,fun c l K e1 e2=>?_,fun c c' l l' K e1 e2 e3 e4=>?_,h5.sle,h5.gok,Nat.le_trans hh.bsz hsz,fun c l e1=>?_⟩
  ·rcases which c l e2 with ⟨rfl,rfl⟩ | ⟨hc,e2⟩
   ·rw [List.getElem?_set_self (List.getElem?_eq_some_iff.1 hb).1] at e1
    cases e1
    exact ⟨d1,rfl,d3,evs,d4,d5,d6,d7⟩
   ·rw [List.getElem?_set_ne (fun h=>hc h.symm)] at e1
    exact (hh.blk c blk l e1 e2).mono h6.sub h6.same hlocs fun K hK=>h6.below K (old c l K e2 hK).2.1
  ·rcases which c l e1 with ⟨rfl,rfl⟩ | ⟨hc,e1⟩
   ·obtain ⟨m1,m2,m3⟩:=hbk.own 0 loc K c1 e2
    exact ⟨m1,m2,Nat.le_trans hh.bsz m3⟩
   ·obtain ⟨m1,m2,m3⟩:=old c l K e1 e2
    exact ⟨m1,by omega,m3⟩
  ·rcases which c l e1 with ⟨q1,q2⟩ | ⟨hc,g1⟩<;>rcases which c' l' e2 with ⟨q3,q4⟩ | ⟨hc',g2⟩
   ·rw [q1,q3]
   ·subst q2
    have m:=(old c' l' K g2 e4).2.1;have m':=(hbk.own 0 loc K c1 e3).2.2;omega
   ·subst q4
    have m:=(old c l K g1 e3).2.1;have m':=(hbk.own 0 loc K c1 e4).2.2;omega
   ·exact hh.inj c c' l l' K g1 g2 e3 e4
  ·rcases which c l e1 with ⟨rfl,rfl⟩ | ⟨hc,e1⟩
   ·have:=hbk.sok 0 loc c1
    exact ⟨this.out,this.one⟩
   ·exact hh.sok c l e1
 ·exact ⟨h6.fr,fun k hk=>h6.below k (Nat.lt_of_lt_of_le hk hh.bsz),h6.sub,h6.same,hlocs,fun k hk=>(h6.grow k hk).imp id fun h=>Nat.le_trans hh.bsz h⟩
end
end Go.AL
