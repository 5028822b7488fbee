import Derived.Test.YtjcioienjlonmaaGreatMa5
set_option linter.unusedVariables false
set_option linter.unusedSimpArgs false
namespace Go.AL.Rl
open Go Go.AL Go.Proofs
set_option maxRecDepth 100000
set_option maxHeartbeats 1600000
variable {γ:Nat→Option AV}
abbrev aDer (n:Int) (po rf co fr eco porf loc sw hb:List (BitVec 64)):AV:=
 .agg [.i fun _=>n,.vs 1 fun _=>us po,.i fun _=>n,.vs 1 fun _=>us rf,.i fun _=>n,.vs 1 fun _=>us co,.i fun _=>n,.vs 1 fun _=>us fr,.i fun _=>n,.vs 1 fun _=>us eco,.i fun _=>n,.vs 1 fun _=>us porf,.i fun _=>n,.vs 1 fun _=>us loc,.i fun _=>n,.vs 1 fun _=>us sw,.i fun _=>n,.vs 1 fun _=>us hb]
theorem or3 (n:Nat) (a b c:List (BitVec 64)) (ha:Fits n a) (hb:Fits n b) (hc:Fits n c):Pure Tryz.prog γ false 68 [.vs 2 fun _=>rls [((n:Int),a),((n:Int),b),((n:Int),c)]] (encRel n (orM n [((n:Int),a),((n:Int),b),((n:Int),c)])):=
 or_yes _ (by simp) (alike3 n a b c ha hb hc) n rfl
theorem dAll_yes (g:Gr) (hg:Rd g) (h:GOk g):Pure Tryz.prog γ false 38 [aGr g] (.tup [aDer (nG g:Nat) (poF (viewG g) (nG g)) (rfF (viewG g) (nG g)) (coF (viewG g) (nG g)) (frF (viewG g) (nG g)) (ecoF (viewG g) (nG g)) (porfF (viewG g) (nG g)) (locF (viewG g) (nG g)) (swF (viewG g) (nG g)) (hbF (viewG g) (nG g)),.i fun _=>0]):=by
 have hV:=viewG_wf h
 have a1:=vpoF_ok (γ:=γ) (viewG g) hV
 have a2:=vrfF_ok (γ:=γ) (viewG g) hV
 have a3:=vcoF_ok (γ:=γ) (viewG g) hV
 have a4:=vfrF_ok (γ:=γ) (viewG g) hV
 have a5:=vlocF_ok (γ:=γ) (viewG g) hV
 have a6:=vswF_ok (γ:=γ) (viewG g) hV
 have f1:=fits_poF (viewG g) hV.small
 have f2:=fits_rfF (viewG g) hV.small
 have f3:=fits_coF (viewG g) hV.small
 have f4:=fits_frF (viewG g) hV.small
 have f6:=fits_swF (viewG g) hV.small
 have o1:=or3 (γ:=γ) (nG g) _ _ _ f2 f3 f4
 have o2:=or2 (γ:=γ) (nG g) _ _ f1 f2
 have o3:=or2 (γ:=γ) (nG g) _ _ f1 f6
 have p1:=plus_ok (γ:=γ) (nG g) _ (fits_or (by have:=hV.small;omega) (l:=[((nG g:Int),rfF (viewG g) (nG g)),((nG g:Int),coF (viewG g) (nG g)),((nG g:Int),frF (viewG g) (nG g))]) (by simp [f2,f3,f4]))
 have p2:=plus_ok (γ:=γ) (nG g) _ (fits_or2 f1 f2)
 have p3:=plus_ok (γ:=γ) (nG g) _ (fits_or2 f1 f6)
 refine Pure.go (ty:=ty) ty_eq mo Tryz.func38 rfl Tryz.ntmps38 Tryz.results38 Tryz.call38 (by simp) fun P C CQ D W F E hF=>?_
 cbv
 repeat' (first
  |(refine E.c (SCalls.of_le (p3) ?_ ?_);(· (cbv;(try simp only [nc] at *);first|done|(simp;done)|(simp (disch:=(first|omega|(simp only [lnS];omega))) only [rdT,rdS,anT];first|done|omega|(refine ⟨?_,?_⟩<;>omega))|(simp (disch:=(first|omega|(simp only [lnS];omega))) [rdT,rdS];done)));cbv)
  |(refine E.c (SCalls.of_le (p2) ?_ ?_);(· (cbv;(try simp only [nc] at *);first|done|(simp;done)|(simp (disch:=(first|omega|(simp only [lnS];omega))) only [rdT,rdS,anT];first|done|omega|(refine ⟨?_,?_⟩<;>omega))|(simp (disch:=(first|omega|(simp only [lnS];omega))) [rdT,rdS];done)));cbv)
  |(refine E.c (SCalls.of_le (p1) ?_ ?_);(· (cbv;(try simp only [nc] at *);first|done|(simp;done)|(simp (disch:=(first|omega|(simp only [lnS];omega))) only [rdT,rdS,anT];first|done|omega|(refine ⟨?_,?_⟩<;>omega))|(simp (disch:=(first|omega|(simp only [lnS];omega))) [rdT,rdS];done)));cbv)
  | (refine E.c (SCalls.of_bare (o3) rfl ?_ ?_);(· (cbv;simp [rls,ps,us,is,LV.of];done));cbv)
  | (refine E.c (SCalls.of_le (o3) ?_ ?_);(· (cbv;simp [rls,ps,us,is,LV.of];done));cbv)
  | (refine E.q (QCalls.of_le (o3) ?_ ?_);(· (cbv;simp [rls,ps,us,is,LV.of];done));cbv)
  | (refine E.c (SCalls.of_bare (o2) rfl ?_ ?_);(· (cbv;simp [rls,ps,us,is,LV.of];done));cbv)
  | (refine E.c (SCalls.of_le (o2) ?_ ?_);(· (cbv;simp [rls,ps,us,is,LV.of];done));cbv)
  | (refine E.q (QCalls.of_le (o2) ?_ ?_);(· (cbv;simp [rls,ps,us,is,LV.of];done));cbv)
  | (refine E.c (SCalls.of_bare (o1) rfl ?_ ?_);(· (cbv;simp [rls,ps,us,is,LV.of];done));cbv)
  | (refine E.c (SCalls.of_le (o1) ?_ ?_);(· (cbv;simp [rls,ps,us,is,LV.of];done));cbv)
  | (refine E.q (QCalls.of_le (o1) ?_ ?_);(· (cbv;simp [rls,ps,us,is,LV.of];done));cbv)
  |(refine E.c (SCalls.of_le (a6) ?_ ?_);(· (cbv;(try simp only [nc] at *);first|done|(simp;done)|(simp (disch:=(first|omega|(simp only [lnS];omega))) only [rdT,rdS,anT];first|done|omega|(refine ⟨?_,?_⟩<;>omega))|(simp (disch:=(first|omega|(simp only [lnS];omega))) [rdT,rdS];done)));cbv)
  |(refine E.c (SCalls.of_le (a5) ?_ ?_);(· (cbv;(try simp only [nc] at *);first|done|(simp;done)|(simp (disch:=(first|omega|(simp only [lnS];omega))) only [rdT,rdS,anT];first|done|omega|(refine ⟨?_,?_⟩<;>omega))|(simp (disch:=(first|omega|(simp only [lnS];omega))) [rdT,rdS];done)));cbv)
  |(refine E.c (SCalls.of_le (a4) ?_ ?_);(· (cbv;(try simp only [nc] at *);first|done|(simp;done)|(simp (disch:=(first|omega|(simp only [lnS];omega))) only [rdT,rdS,anT];first|done|omega|(refine ⟨?_,?_⟩<;>omega))|(simp (disch:=(first|omega|(simp only [lnS];omega))) [rdT,rdS];done)));cbv)
  |(refine E.c (SCalls.of_le (a3) ?_ ?_);(· (cbv;(try simp only [nc] at *);first|done|(simp;done)|(simp (disch:=(first|omega|(simp only [lnS];omega))) only [rdT,rdS,anT];first|done|omega|(refine ⟨?_,?_⟩<;>omega))|(simp (disch:=(first|omega|(simp only [lnS];omega))) [rdT,rdS];done)));cbv)
  |(refine E.c (SCalls.of_le (a2) ?_ ?_);(· (cbv;(try simp only [nc] at *);first|done|(simp;done)|(simp (disch:=(first|omega|(simp only [lnS];omega))) only [rdT,rdS,anT];first|done|omega|(refine ⟨?_,?_⟩<;>omega))|(simp (disch:=(first|omega|(simp only [lnS];omega))) [rdT,rdS];done)));cbv)
  |(refine E.c (SCalls.of_le (a1) ?_ ?_);(· (cbv;(try simp only [nc] at *);first|done|(simp;done)|(simp (disch:=(first|omega|(simp only [lnS];omega))) only [rdT,rdS,anT];first|done|omega|(refine ⟨?_,?_⟩<;>omega))|(simp (disch:=(first|omega|(simp only [lnS];omega))) [rdT,rdS];done)));cbv)
  |(refine E.c (SCalls.of_le (viewOf_ok g hg h) ?_ ?_);(· (cbv;(try simp only [nc] at *);first|done|(simp;done)|(simp (disch:=(first|omega|(simp only [lnS];omega))) only [rdT,rdS,anT];first|done|omega|(refine ⟨?_,?_⟩<;>omega))|(simp (disch:=(first|omega|(simp only [lnS];omega))) [rdT,rdS];done)));cbv)
  |(refine ⟨fun _ h_s=>?_,fun _ h_s=>?_⟩<;>(cbv;(try simp only [nc] at *);try simp (disch:=(first|omega|(simp only [lnS];omega))) only [rdT,rdS,reduceCtorEq,trT] at h_s))
  |(refine hF ?_;intro _;clear hF)
  |(refine hF ?_;cbv;clear hF)
  |(refine ⟨fun _=>?_,?_⟩;(· ((try simp only [nc] at *);first|done|omega|exact ⟨by omega,rfl⟩|(simp (disch:=(first|omega|(simp only [lnS];omega))) only [rdT,rdS];first|done|omega|rfl|exact ⟨by omega,rfl⟩|(simp;done)|(simp;omega))|(intros;trivial)));try cbv)
  | fail
 )
 all_goals (try simp only [nc] at *)
 all_goals (try simp (disch:=(first|omega|(simp only [lnS];omega))) only [rdT,rdS])
 simp [ecoF,porfF,hbF]
theorem dAll_no (g:Gr) (hg:Rd g) (h:¬ GOk g):Pure Tryz.prog γ false 38 [aGr g] (.tup [aDer 0 [] [] [] [] [] [] [] [] [],.i fun _=>2]):=by
 refine Pure.go (ty:=ty) ty_eq mo Tryz.func38 rfl Tryz.ntmps38 Tryz.results38 Tryz.call38 (by simp) fun P C CQ D W F E hF=>?_
 cbv
 repeat' (first
  |(refine E.c (SCalls.of_le (viewOf_no g hg h) ?_ ?_);(· (cbv;(try simp only [nc] at *);first|done|(simp;done)|(simp (disch:=(first|omega|(simp only [lnS];omega))) only [rdT,rdS,anT];first|done|omega|(refine ⟨?_,?_⟩<;>omega))|(simp (disch:=(first|omega|(simp only [lnS];omega))) [rdT,rdS];done)));cbv)
  |(refine ⟨fun _ h_s=>?_,fun _ h_s=>?_⟩<;>(cbv;(try simp only [nc] at *);try simp (disch:=(first|omega|(simp only [lnS];omega))) only [rdT,rdS,reduceCtorEq,trT] at h_s))
  |(refine hF ?_;intro _;clear hF)
  |(refine hF ?_;cbv;clear hF)
  |(refine ⟨fun _=>?_,?_⟩;(· ((try simp only [nc] at *);first|done|omega|exact ⟨by omega,rfl⟩|(simp (disch:=(first|omega|(simp only [lnS];omega))) only [rdT,rdS];first|done|omega|rfl|exact ⟨by omega,rfl⟩|(simp;done)|(simp;omega))|(intros;trivial)));try cbv)
  | fail
 )
 all_goals (try simp only [nc] at *)
 all_goals (try simp (disch:=(first|omega|(simp only [lnS];omega))) only [rdT,rdS])
 all_goals simp [us,LV.of,LV.l]
end Go.AL.Rl
namespace Go.AL.Rl
open Go Go.AL Go.Proofs
set_option maxRecDepth 100000
set_option maxHeartbeats 1600000
variable {γ:Nat→Option AV}
def runL (mx cap:Int):List Nat→Int→Int
 | [],s=>s
 | n :: r,s=>if s≤cap then runL mx cap r (s+min (mx+1) n) else s
def sumL (mx:Int) (l:List Nat) (s:Int) (k:Nat):Int:=(l.take k).foldl (fun (a:Int) (n:Nat)=>a+min (mx+1) (n:Int)) s
theorem sumL_zero (mx:Int) (l:List Nat) (s:Int):sumL mx l s 0=s:=rfl
theorem sumL_succ (mx:Int) (l:List Nat) (s:Int) (k:Nat) (h:k<l.length):sumL mx l s (k+1)=sumL mx l s k+min (mx+1) (l.getD k 0):=by
 simp only [sumL]
 rw [List.take_succ_eq_append_getElem h,List.foldl_append]
 simp [h]
theorem runL_step {mx cap:Int} {l:List Nat} {s:Int} {k:Nat} (h:k<l.length) (hs:sumL mx l s k≤cap) (hr:runL mx cap (l.drop k) (sumL mx l s k)=runL mx cap l s) :
  runL mx cap (l.drop (k+1)) (sumL mx l s (k+1))=runL mx cap l s:=by
 rw [←hr,List.drop_eq_getElem_cons h,runL,if_pos hs,sumL_succ _ _ _ _ h]
 simp [h]
theorem runL_end {mx cap:Int} {l:List Nat} {s:Int} {k:Nat} (h:l.length≤k∨¬ sumL mx l s k≤cap) (hr:runL mx cap (l.drop k) (sumL mx l s k)=runL mx cap l s):sumL mx l s k=runL mx cap l s:=by
 rw [←hr]
 by_cases hk:l.length≤k
 ·rw [List.drop_eq_nil_of_le hk,runL]
 ·rw [List.drop_eq_getElem_cons (by omega),runL,if_neg (by rcases h with h | h;omega;exact h)]
theorem runL_bd {mx cap B:Int} (h0:0≤mx) (hB:cap+mx+1≤B):∀ (l:List Nat) (s:Int),0≤s→s≤B→0≤runL mx cap l s∧runL mx cap l s≤B
 | [],s,h1,h2=>⟨h1,h2⟩
 | n :: r,s,h1,h2=>by
  rw [runL]
  split
  ·exact runL_bd h0 hB r _ (by omega) (by omega)
  ·exact ⟨h1,h2⟩
theorem ths_le {g:Gr} (hg:Rd g) (x:Nat):((g.th.getD x []).length:Int)≤9223372036854775807:=by
 rcases Nat.lt_or_ge x g.th.length with h1 | h1
 ·exact hg.ths _ (getD_mem h1)
 ·simp [List.getElem?_eq_none h1]
theorem frs_le {g:Gr} (hg:Rd g) (x:Nat):((g.fr.getD x []).length:Int)≤9223372036854775807:=by
 rcases Nat.lt_or_ge x g.fr.length with h1 | h1
 ·exact hg.frs _ (getD_mem h1)
 ·simp [List.getElem?_eq_none h1]
def lensT (g:Gr):List Nat:=g.th.map (·.length)
def lensF (g:Gr):List Nat:=g.fr.map (·.length)
def lensO (g:Gr):List Nat:=g.ord.map (·.length)
def light0 (mx:Int) (g:Gr):Int:=min (mx+1) g.init.length+min (mx+1) g.th.length+min (mx+1) g.fr.length+min (mx+1) g.ord.length
def lightM (mx:Int) (g:Gr):Bool:=decide (runL mx (3 * mx) (lensO g) (runL mx (2 * mx) (lensF g) (runL mx mx (lensT g) (light0 mx g)))≤3 * mx)
theorem lensT_get (g:Gr) (k:Nat) (h:k<g.th.length):(lensT g).getD k 0=(g.th.getD k []).length:=by simp [lensT,h]
theorem lensF_get (g:Gr) (k:Nat) (h:k<g.fr.length):(lensF g).getD k 0=(g.fr.getD k []).length:=by simp [lensF,h]
theorem lensO_get (g:Gr) (k:Nat) (h:k<g.ord.length):(lensO g).getD k 0=(g.ord.getD k []).length:=by simp [lensO,h]
theorem light_ok (g:Gr) (hg:Rd g) (mx:Int) (h0:0≤mx) (h1:mx≤1000):Pure Tryz.prog γ false 5 [aGr g,.i fun _=>mx] (.b fun _=>lightM mx g):=by
 have b1:=hg.init
 have b2:=hg.th
 have b3:=hg.fr
 have b4:=hg.ord
 have hs0:0≤light0 mx g∧light0 mx g≤4 * mx+4:=by unfold light0;omega
 obtain ⟨s0,hs⟩:∃ s,s=light0 mx g:=⟨_,rfl⟩
 rw [←hs] at hs0
 unfold lightM
 rw [←hs]
 have hlT:(lensT g).length=g.th.length:=by simp [lensT]
 have hlF:(lensF g).length=g.fr.length:=by simp [lensF]
 have hlO:(lensO g).length=g.ord.length:=by simp [lensO]
 obtain ⟨r1,hr1⟩:∃ r,r=runL mx mx (lensT g) s0:=⟨_,rfl⟩
 obtain ⟨r2,hr2⟩:∃ r,r=runL mx (2 * mx) (lensF g) r1:=⟨_,rfl⟩
 obtain ⟨r3,hr3⟩:∃ r,r=runL mx (3 * mx) (lensO g) r2:=⟨_,rfl⟩
 obtain ⟨S1,hS1⟩:∃ S:Nat→Int,∀ k,S k=sumL mx (lensT g) s0 k:=⟨_,fun _=>rfl⟩
 obtain ⟨S2,hS2⟩:∃ S:Nat→Int,∀ k,S k=sumL mx (lensF g) r1 k:=⟨_,fun _=>rfl⟩
 obtain ⟨S3,hS3⟩:∃ S:Nat→Int,∀ k,S k=sumL mx (lensO g) r2 k:=⟨_,fun _=>rfl⟩
 have z1:S1 0=s0:=by rw [hS1,sumL_zero]
 have z2:S2 0=r1:=by rw [hS2,sumL_zero]
 have z3:S3 0=r2:=by rw [hS3,sumL_zero]
 have n1:∀ k,k<g.th.length→S1 (k+1)=S1 k+min (mx+1) (g.th.getD k []).length:=fun k hk=>by rw [hS1,hS1,sumL_succ _ _ _ _ (by omega),lensT_get _ _ hk]
 have n2:∀ k,k<g.fr.length→S2 (k+1)=S2 k+min (mx+1) (g.fr.getD k []).length:=fun k hk=>by rw [hS2,hS2,sumL_succ _ _ _ _ (by omega),lensF_get _ _ hk]
 have n3:∀ k,k<g.ord.length→S3 (k+1)=S3 k+min (mx+1) (g.ord.getD k []).length:=fun k hk=>by rw [hS3,hS3,sumL_succ _ _ _ _ (by omega),lensO_get _ _ hk]
 rw [←hr1,←hr2,←hr3]
 have q1:=runL_bd (mx:=mx) (cap:=mx) (B:=4 * mx+4) h0 (by omega) (lensT g) s0 (by omega) (by omega)
 rw [←hr1] at q1
 have q2:=runL_bd (mx:=mx) (cap:=2 * mx) (B:=4 * mx+4) h0 (by omega) (lensF g) r1 (by omega) (by omega)
 rw [←hr2] at q2
 have q3:=runL_bd (mx:=mx) (cap:=3 * mx) (B:=4 * mx+4) h0 (by omega) (lensO g) r2 (by omega) (by omega)
 rw [←hr3] at q3
 refine Pure.goL (ty:=ty) ty_eq mo Tryz.func5 rfl Tryz.ntmps5 Tryz.results5 Tryz.call5 (by simp) fun P C CQ D W F E hF=>?_
 refine E.cut 4 (told 111 [(1,.i fun _=>mx),(2,.ptr 0 0),(5,.i fun _=>r1)] [.box (aGr g)]) (by kernel_rfl) (Nat.zero_le _) (fun I hI=>?_) ?_
 ·cbv
  repeat' (first
   |(refine ⟨fun _ h_s=>?_,fun _ h_s=>?_⟩<;>(cbv;(try simp only [nc] at *);try simp (disch:=(first|omega|(simp only [lnS];omega))) only [rdT,rdS,reduceCtorEq,trT] at h_s))
   |(refine hF ?_;intro _;clear hF)
   |(refine hF ?_;cbv;clear hF)
   |(refine ⟨fun _=>?_,?_⟩;(· ((try simp only [nc] at *);first|done|omega|exact ⟨by omega,rfl⟩|(simp (disch:=(first|omega|(simp only [lnS];omega))) only [rdT,rdS];first|done|omega|rfl|exact ⟨by omega,rfl⟩|(simp;done)|(simp;omega))|(intros;trivial)));(try (simp only [nc] at *));(try simp (disch:=(first|omega|(simp only [lnS];omega))) only [rdT,rdS]);(try cbv))
   | fail
  )
  refine E.loopS (ι:=Nat) (fun k=>k≤g.th.length∧(runL mx mx ((lensT g).drop k) (S1 k)=r1∧0≤S1 k∧S1 k≤4 * mx+4)) (fun k=>g.th.length-k) (fun k=>[(6,.i fun _=>((k:Nat):Int)),(5,.i fun _=>S1 k)]) (fun k h=>h) 0 (fun _=>by first|rfl|simp) ⟨Nat.zero_le _,?_⟩ ?_ fun k hk I2 hI2=>?_
  ·rw [z1,List.drop_zero];exact ⟨hr1.symm,by omega⟩
  ·cbv
   rw [z1,hs]
   simp (disch:=omega) [light0,w64_of]
   repeat' split
   all_goals omega
  cbv
  have hgt:=ths_le hg k
  have nk:=n1 k
  have ek:=fun h1 h2=>runL_step (mx:=mx) (cap:=mx) (l:=lensT g) (s:=s0) (k:=k) h1 h2
  have fk:=fun h1=>runL_end (mx:=mx) (cap:=mx) (l:=lensT g) (s:=s0) (k:=k) h1
  rw [←hS1,←hS1,←hr1] at ek
  rw [←hS1,←hr1] at fk
  repeat' (first
   |(refine hI2 (k+1) ?_ ?_ ?_;rotate_left 1;(· ((try simp only [nc] at *);omega));(cbv;clear hI2;(try clear hF);(try simp only [nc] at *);(try simp (disch:=(first|omega|(simp only [lnS];omega))) only [rdT,rdS,anT]));rotate_left 1;(try ((try simp only [nc] at *);omega)))
   |(refine ⟨fun _ h_s=>?_,fun _ h_s=>?_⟩<;>(cbv;(try simp only [nc] at *);try simp (disch:=(first|omega|(simp only [lnS];omega))) only [rdT,rdS,reduceCtorEq,trT] at h_s))
   |(refine hF ?_;intro _;clear hF)
   |(refine hF ?_;cbv;clear hF)
   |(refine ⟨fun _=>?_,?_⟩;(· ((try simp only [nc] at *);first|done|omega|exact ⟨by omega,rfl⟩|(simp (disch:=(first|omega|(simp only [lnS];omega))) only [rdT,rdS];first|done|omega|rfl|exact ⟨by omega,rfl⟩|(simp;done)|(simp;omega))|(intros;trivial)));(try (simp only [nc] at *));(try simp (disch:=(first|omega|(simp only [lnS];omega))) only [rdT,rdS]);(try cbv))
   | fail
  )
  ·refine ⟨?_,?_⟩<;>first | omega | (rw [nk (by ((try simp only [nc] at *);omega))];split<;>omega)
  all_goals
   have hfk:=fk (by ((try simp only [nc] at *);omega)) hk.2.1
   refine hI ?_
   cbv
   clear hI hI2 ek fk nk
   simp [hfk]
 refine E.cut 2 (told 111 [(1,.i fun _=>mx),(2,.ptr 0 0),(5,.i fun _=>r2)] [.box (aGr g)]) (by kernel_rfl) (Nat.zero_le _) (fun I hI=>?_) ?_
 ·cbv
  repeat' (first
   |(refine ⟨fun _ h_s=>?_,fun _ h_s=>?_⟩<;>(cbv;(try simp only [nc] at *);try simp (disch:=(first|omega|(simp only [lnS];omega))) only [rdT,rdS,reduceCtorEq,trT] at h_s))
   |(refine hF ?_;intro _;clear hF)
   |(refine hF ?_;cbv;clear hF)
   |(refine ⟨fun _=>?_,?_⟩;(· ((try simp only [nc] at *);first|done|omega|exact ⟨by omega,rfl⟩|(simp (disch:=(first|omega|(simp only [lnS];omega))) only [rdT,rdS];first|done|omega|rfl|exact ⟨by omega,rfl⟩|(simp;done)|(simp;omega))|(intros;trivial)));(try (simp only [nc] at *));(try simp (disch:=(first|omega|(simp only [lnS];omega))) only [rdT,rdS]);(try cbv))
   | fail
  )
  refine E.loopS (ι:=Nat) (fun k=>k≤g.fr.length∧(runL mx (2 * mx) ((lensF g).drop k) (S2 k)=r2∧0≤S2 k∧S2 k≤4 * mx+4)) (fun k=>g.fr.length-k) (fun k=>[(7,.i fun _=>((k:Nat):Int)),(5,.i fun _=>S2 k)]) (fun k h=>h) 0 (fun _=>by first|rfl|simp) ⟨Nat.zero_le _,?_⟩ ?_ fun k hk I2 hI2=>?_
  ·rw [z2,List.drop_zero];exact ⟨hr2.symm,by omega⟩
  ·cbv
   rw [z2]
   simp
  cbv
  have hgt:=frs_le hg k
  have nk:=n2 k
  have ek:=fun h1 h2=>runL_step (mx:=mx) (cap:=(2 * mx)) (l:=lensF g) (s:=r1) (k:=k) h1 h2
  have fk:=fun h1=>runL_end (mx:=mx) (cap:=(2 * mx)) (l:=lensF g) (s:=r1) (k:=k) h1
  rw [←hS2,←hS2,←hr2] at ek
  rw [←hS2,←hr2] at fk
  repeat' (first
   |(refine hI2 (k+1) ?_ ?_ ?_;rotate_left 1;(· ((try simp only [nc] at *);omega));(cbv;clear hI2;(try clear hF);(try simp only [nc] at *);(try simp (disch:=(first|omega|(simp only [lnS];omega))) only [rdT,rdS,anT]));rotate_left 1;(try ((try simp only [nc] at *);omega)))
   |(refine ⟨fun _ h_s=>?_,fun _ h_s=>?_⟩<;>(cbv;(try simp only [nc] at *);try simp (disch:=(first|omega|(simp only [lnS];omega))) only [rdT,rdS,reduceCtorEq,trT] at h_s))
   |(refine hF ?_;intro _;clear hF)
   |(refine hF ?_;cbv;clear hF)
   |(refine ⟨fun _=>?_,?_⟩;(· ((try simp only [nc] at *);first|done|omega|exact ⟨by omega,rfl⟩|(simp (disch:=(first|omega|(simp only [lnS];omega))) only [rdT,rdS];first|done|omega|rfl|exact ⟨by omega,rfl⟩|(simp;done)|(simp;omega))|(intros;trivial)));(try (simp only [nc] at *));(try simp (disch:=(first|omega|(simp only [lnS];omega))) only [rdT,rdS]);(try cbv))
   | fail
  )
  ·refine ⟨?_,?_⟩<;>first | omega | (rw [nk (by ((try simp only [nc] at *);omega))];split<;>omega)
  all_goals
   have hfk:=fk (by ((try simp only [nc] at *);omega)) hk.2.1
   refine hI ?_
   cbv
   clear hI hI2 ek fk nk
   simp [hfk]
 refine E.cut 2 (told 111 [(1,.i fun _=>mx),(2,.ptr 0 0),(5,.i fun _=>r3)] [.box (aGr g)]) (by kernel_rfl) (Nat.zero_le _) (fun I hI=>?_) (E.bl ?_)
 ·cbv
  repeat' (first
   |(refine ⟨fun _ h_s=>?_,fun _ h_s=>?_⟩<;>(cbv;(try simp only [nc] at *);try simp (disch:=(first|omega|(simp only [lnS];omega))) only [rdT,rdS,reduceCtorEq,trT] at h_s))
   |(refine hF ?_;intro _;clear hF)
   |(refine hF ?_;cbv;clear hF)
   |(refine ⟨fun _=>?_,?_⟩;(· ((try simp only [nc] at *);first|done|omega|exact ⟨by omega,rfl⟩|(simp (disch:=(first|omega|(simp only [lnS];omega))) only [rdT,rdS];first|done|omega|rfl|exact ⟨by omega,rfl⟩|(simp;done)|(simp;omega))|(intros;trivial)));(try (simp only [nc] at *));(try simp (disch:=(first|omega|(simp only [lnS];omega))) only [rdT,rdS]);(try cbv))
   | fail
  )
  refine E.loopS (ι:=Nat) (fun k=>k≤g.ord.length∧(runL mx (3 * mx) ((lensO g).drop k) (S3 k)=r3∧0≤S3 k∧S3 k≤4 * mx+4)) (fun k=>g.ord.length-k) (fun k=>[(8,.i fun _=>((k:Nat):Int)),(5,.i fun _=>S3 k)]) (fun k h=>h) 0 (fun _=>by first|rfl|simp) ⟨Nat.zero_le _,?_⟩ ?_ fun k hk I2 hI2=>?_
  ·rw [z3,List.drop_zero];exact ⟨hr3.symm,by omega⟩
  ·cbv
   rw [z3]
   simp
  cbv
  have hgt:=ordsAt hg k
  have nk:=n3 k
  have ek:=fun h1 h2=>runL_step (mx:=mx) (cap:=(3 * mx)) (l:=lensO g) (s:=r2) (k:=k) h1 h2
  have fk:=fun h1=>runL_end (mx:=mx) (cap:=(3 * mx)) (l:=lensO g) (s:=r2) (k:=k) h1
  rw [←hS3,←hS3,←hr3] at ek
  rw [←hS3,←hr3] at fk
  repeat' (first
   |(refine hI2 (k+1) ?_ ?_ ?_;rotate_left 1;(· ((try simp only [nc] at *);omega));(cbv;clear hI2;(try clear hF);(try simp only [nc] at *);(try simp (disch:=(first|omega|(simp only [lnS];omega))) only [rdT,rdS,anT]));rotate_left 1;(try ((try simp only [nc] at *);omega)))
   |(refine ⟨fun _ h_s=>?_,fun _ h_s=>?_⟩<;>(cbv;(try simp only [nc] at *);try simp (disch:=(first|omega|(simp only [lnS];omega))) only [rdT,rdS,reduceCtorEq,trT] at h_s))
   |(refine hF ?_;intro _;clear hF)
   |(refine hF ?_;cbv;clear hF)
   |(refine ⟨fun _=>?_,?_⟩;(· ((try simp only [nc] at *);first|done|omega|exact ⟨by omega,rfl⟩|(simp (disch:=(first|omega|(simp only [lnS];omega))) only [rdT,rdS];first|done|omega|rfl|exact ⟨by omega,rfl⟩|(simp;done)|(simp;omega))|(intros;trivial)));(try (simp only [nc] at *));(try simp (disch:=(first|omega|(simp only [lnS];omega))) only [rdT,rdS]);(try cbv))
   | fail
  )
  ·refine ⟨?_,?_⟩<;>first | omega | (rw [nk (by ((try simp only [nc] at *);omega))];split<;>omega)
  all_goals
   have hfk:=fk (by ((try simp only [nc] at *);omega)) hk.2.1
   refine hI ?_
   cbv
   clear hI hI2 ek fk nk
   simp [hfk]
 ·cbv
  repeat' (first
   |(refine ⟨fun _ h_s=>?_,fun _ h_s=>?_⟩<;>(cbv;(try simp only [nc] at *);try simp (disch:=(first|omega|(simp only [lnS];omega))) only [rdT,rdS,reduceCtorEq,trT] at h_s))
   |(refine hF ?_;intro _;clear hF)
   |(refine hF ?_;cbv;clear hF)
   |(refine ⟨fun _=>?_,?_⟩;(· ((try simp only [nc] at *);first|done|omega|exact ⟨by omega,rfl⟩|(simp (disch:=(first|omega|(simp only [lnS];omega))) only [rdT,rdS];first|done|omega|rfl|exact ⟨by omega,rfl⟩|(simp;done)|(simp;omega))|(intros;trivial)));(try (simp only [nc] at *));(try simp (disch:=(first|omega|(simp only [lnS];omega))) only [rdT,rdS]);(try cbv))
   | fail
  )
  rw [w64_of (by omega) (by omega)]
end Go.AL.Rl
namespace Go.AL.Rl
open Go Go.AL Go.Proofs
set_option maxRecDepth 100000
set_option maxHeartbeats 1600000
variable {γ:Nat→Option AV}
def gS (o:Int):Gr:=⟨[0],[[⟨2,0,o,0,1⟩],[⟨1,0,3,1,0⟩]],[[⟨0,0⟩],[⟨1,0⟩]],[[⟨1,0⟩]]⟩
def tgtC (V:Vw) (n w:Nat):BitVec 64:=maskTo (fun a=>acqM (V.ev.getD a ev0) && behM V n (maskTo (rdrM V (1#64 <<< w)) n) a) n
def rowC (V:Vw) (n:Nat):Nat→Nat→BitVec 64
 | 0,_=>0#64
 | w+1,r=>if swR V w r=true then rowC V n w r ||| tgtC V n w else rowC V n w r
def swC (V:Vw) (n:Nat):List (BitVec 64):=relRows n (bit (tab n (rowC V n n)))
theorem seq_plain {V:Vw} {n w:Nat} (hn:n≤64) (hw:w<n) (h:∀ i<n,(V.ev.getD i ev0).kind≠3):1#64 <<< w=seqM V n w:=by
 refine seq_unique hn hw ?_ (fun j hj=>?_) fun i hi hk=>absurd hk (h i hi)
 ·rw [BitVec.getLsbD_shiftLeft,BitVec.getLsbD_one];simp;omega
 ·rw [BitVec.getLsbD_shiftLeft,BitVec.getLsbD_one] at hj
  simp at hj
  have:j=w:=by omega
  subst this
  exact .base
theorem rowC_eq {V:Vw} {n:Nat} (hn:n≤64) (h:∀ i<n,(V.ev.getD i ev0).kind≠3):∀ k,k≤n→∀ r,rowT V n k r=rowC V n k r
 | 0,_,_=>rfl
 | k+1,hk,r=>by
  have e:tgtM V n k=tgtC V n k:=by unfold tgtM tgtC;rw [seq_plain hn (by omega) h]
  show (if swR V k r=true then rowT V n k r ||| tgtM V n k else rowT V n k r)=if swR V k r=true then rowC V n k r ||| tgtC V n k else rowC V n k r
  rw [rowC_eq hn h k (by omega) r,e]
theorem swC_eq {V:Vw} {n:Nat} (hn:n≤64) (h:∀ i<n,(V.ev.getD i ev0).kind≠3):swF V n=swC V n:=by
 unfold swF swC swRows
 rw [show rowT V n n=rowC V n n from funext fun r=>rowC_eq hn h n (Nat.le_refl _) r]
def vS (o:Int):Vw:=⟨[⟨0,0⟩,⟨1,0⟩,⟨2,0⟩],[⟨2,0,1,0,0⟩,⟨2,0,o,0,1⟩,⟨1,0,3,1,0⟩],[-1,-1,1],[0,1,-1]⟩
theorem gS4:GOk (gS 4):=by decide +kernel
theorem gS4v:viewG (gS 4)=vS 4:=by
 unfold viewG vS
 simp only [Vw.mk.injEq]
 decide +kernel
theorem gSn (o:Int):nG (gS o)=3:=rfl
theorem rows4 (f:Vw→Nat→List (BitVec 64)):rowsG (gS 4) f=f (vS 4) 3:=by unfold rowsG;rw [if_pos gS4,gSn,gS4v]
theorem sw4:rowsG (gS 4) swF=[0,4,0]:=by rw [rows4,swC_eq (by omega) (by decide +kernel)];decide +kernel
theorem hb4:rowsG (gS 4) hbF=[6,4,0]:=by
 rw [rows4]
 have:=sw4
 rw [rows4] at this
 unfold hbF
 rw [this]
 decide +kernel
end Go.AL.Rl
namespace Go.AL.Rl
open Go Go.AL Go.Proofs
set_option maxRecDepth 100000
theorem plus_self {n:Nat} {rows:List (BitVec 64)} (hf:Fits n rows) (h:∀ i k j,bit rows i k=true→bit rows k j=true→bit rows i j=true):plusM n rows=rows:=
 fits_ext (fits_plus hf) hf fun i j=>⟨fun hb=>plus_least (fun i j=>bit rows i j=true) (fun _ _ h=>h) h hb,plus_edge⟩
theorem plus_idem {n:Nat} {rows:List (BitVec 64)} (hf:Fits n rows):plusM n (plusM n rows)=plusM n rows:=
 plus_self (fits_plus hf) fun _ _ _ h1 h2=>plus_trans hf h1 h2
theorem fits_orP (V:Vw) {n:Nat} (hn:n≤62):Fits n (orM n [((n:Int),rfF V n),((n:Int),coF V n),((n:Int),frF V n)]):=
 fits_or (by omega) (by simp [fits_rfF V hn,fits_coF V hn,fits_frF V hn])
theorem plus_porf (V:Vw) {n:Nat} (hn:n≤62):plusM n (porfF V n)=porfF V n:=plus_idem (fits_or2 (fits_poF V hn) (fits_rfF V hn))
theorem plus_hb (V:Vw) {n:Nat} (hn:n≤62):plusM n (hbF V n)=hbF V n:=plus_idem (fits_or2 (fits_poF V hn) (fits_swF V hn))
end Go.AL.Rl
namespace Go.AL.Rl
open Go Go.AL Go.Proofs
set_option maxRecDepth 100000
theorem notFence_w {e:Ev} (h:writesM e=true):fenceM e=false:=by
 unfold writesM at h;unfold fenceM
 simp only [Bool.or_eq_true,decide_eq_true_eq,decide_eq_false_iff_not] at *
 omega
theorem near_of {V:Vw} {a b:Nat} (h1:fenceM (V.ev.getD a ev0)=false) (h2:fenceM (V.ev.getD b ev0)=false) (h:(V.ev.getD a ev0).loc=(V.ev.getD b ev0).loc):nearM V a b=true:=by
 unfold nearM
 simp only [h1,h2,Bool.not_false,Bool.true_and,decide_eq_true_eq]
 exact h
theorem event_init {g:Gr} {d:EId} {e:Ev} (h:eventM g d=some e) (h0:d.t=0):e.kind=2∧e.loc=d.i∧0≤d.i:=by
 unfold eventM at h
 rw [if_pos h0] at h
 split at h
 ·rename_i hc
  cases h
  exact ⟨rfl,rfl,hc.1⟩
 ·cases h
theorem event_fine {g:Gr} (hg:GOk g) {d:EId} {e:Ev} (h:eventM g d=some e) (h0:d.t≠0):fineM g.init.length e=true:=by
 unfold eventM at h
 rw [if_neg h0] at h
 split at h
 ·rename_i hc
  cases h
  exact (hg.events (d.t-1).toNat (by omega)).2 d.i.toNat (by omega)
 ·cases h
theorem fine_loc {n:Int} {e:Ev} (h:fineM n e=true) (hk:fenceM e=false):0≤e.loc∧e.loc<n:=by
 unfold fineM at h;unfold fenceM at hk
 simp only [Bool.and_eq_true,decide_eq_true_eq,decide_eq_false_iff_not] at *
 have:=h.2
 rw [if_neg hk] at this
 simpa using this
theorem ord_has {g:Gr} (hg:GOk g) {x:Nat} {d:EId} (h:isW g x d=true):d∈g.ord.getD x []:=by
 have hp:=(orders_perm hg.lord hg.events).1 hg.orders
 have:=hp.symm.subset ((isW_mem g x d).1 h)
 unfold qsT at this
 simp only [List.mem_flatMap,List.mem_range,List.mem_map] at this
 obtain ⟨k,hk,d',hd,he⟩:=this
 obtain ⟨rfl,h2⟩:=Prod.mk.inj he
 have:k=x:=by omega
 subst this
 exact hd
theorem isW_of {g:Gr} {d:EId} {e:Ev} (h:eventM g d=some e) (h0:d.t≠0) (hw:writesM e=true) (x:Int) (hx:e.loc=x):isW g x d=true:=by
 unfold isW
 rw [h]
 simp [h0,hw,hx]
theorem pl_write {g:Gr} (hg:GOk g) {d:EId} {e:Ev} (h:eventM g d=some e) (hw:writesM e=true) :
  d.t=0∧plOf g d=0∨d.t≠0∧∃ k:Nat,plOf g d=k+1∧k<(g.ord.getD e.loc.toNat []).length∧(g.ord.getD e.loc.toNat []).getD k id0=d:=by
 by_cases h0:d.t=0
 ·exact .inl ⟨h0,by unfold plOf;rw [if_pos h0]⟩
 ·refine .inr ⟨h0,?_⟩
  have hl:=fine_loc (event_fine hg h h0) (notFence_w hw)
  have hm:=ord_has hg (x:=e.loc.toNat) (isW_of h h0 hw _ (by omega))
  have hf:=numOf_find hm
  refine ⟨numOf (g.ord.getD e.loc.toNat []) d,?_,numOf_lt hm,numOf_get hm⟩
  unfold plOf
  rw [if_neg h0,h,Option.getD_some,hf]
theorem pl_other {g:Gr} (hg:GOk g) {d:EId} {e:Ev} (h:eventM g d=some e) (hw:writesM e=false):plOf g d = -1:=by
 have h0:d.t≠0:=fun h0=>by
  obtain ⟨hk,_⟩:=event_init h h0
  unfold writesM at hw
  simp [hk] at hw
 unfold plOf
 rw [if_neg h0,h,Option.getD_some]
 split
 ·rename_i k hk
  exfalso
  rw [List.findIdx?_eq_some_iff_getElem] at hk
  obtain ⟨h1,h2,_⟩:=hk
  have hm:=List.getElem_mem h1
  simp only [decide_eq_true_eq] at h2
  rw [h2] at hm
  have hx:e.loc.toNat<g.init.length:=by
   rcases Nat.lt_or_ge e.loc.toNat g.ord.length with hc | hc
   ·rw [←hg.lord];exact hc
   ·rw [List.getD_eq_getElem?_getD,List.getElem?_eq_none hc] at hm;simp at hm
  obtain ⟨_,q2,_⟩:=(ordered_iff g e.loc.toNat).1 (hg.orders _ hx)
  obtain ⟨e',he',_,hw',_⟩:=isW_event (q2 _ hm)
  rw [h] at he'
  cases he'
  rw [hw] at hw';cases hw'
 ·rfl
theorem vev {g:Gr} (_:GOk g) (i:Nat) (hi:i<nG g):eventM g ((idsG g).getD i id0)=some ((viewG g).ev.getD i ev0):=evsG_get g i hi
theorem vpl {g:Gr} (_:GOk g) (i:Nat) (hi:i<nG g):(viewG g).pl.getD i 0=plOf g ((idsG g).getD i id0):=tabI_get _ _ _ hi
theorem vfr {g:Gr} (_:GOk g) (i:Nat) (hi:i<nG g):(viewG g).fr.getD i 0=frOf g ((idsG g).getD i id0):=tabI_get _ _ _ hi
theorem init_reads {g:Gr} {d:EId} {e:Ev} (h:eventM g d=some e) (h0:d.t=0):readsM e=false:=by
 obtain ⟨hk,_⟩:=event_init h h0
 unfold readsM;rw [hk];rfl
section
variable {g:Gr} (hg:GOk g)
include hg
theorem pl_iff (i:Nat) (hi:i<nG g):0≤(viewG g).pl.getD i 0↔writesM ((viewG g).ev.getD i ev0)=true:=by
 rw [vpl hg i hi]
 constructor
 ·intro h
  cases hw:writesM ((viewG g).ev.getD i ev0) with
  | true=>rfl
  | false=>rw [pl_other hg (vev hg i hi) hw] at h;omega
 ·intro h
  rcases pl_write hg (vev hg i hi) h with ⟨_,h2⟩ | ⟨_,k,h2,_⟩<;>omega
theorem fr_iff (i:Nat) (hi:i<nG g):0≤(viewG g).fr.getD i 0↔readsM ((viewG g).ev.getD i ev0)=true:=by
 rw [vfr hg i hi]
 have he:=vev hg i hi
 unfold frOf
 split
 ·rename_i h0
  rw [init_reads he h0]
  constructor
  ·intro h;omega
  ·intro h;cases h
 ·rw [he,Option.getD_some]
  split
  ·rename_i h;simp only [h,iff_true];omega
  ·rename_i h;simp only [h,Bool.false_eq_true,iff_false];omega
theorem src_of (i:Nat) (hi:i<nG g) (hr:readsM ((viewG g).ev.getD i ev0)=true):∃ w:Nat,(viewG g).fr.getD i 0=w∧w<nG g∧w≠i∧writesM ((viewG g).ev.getD w ev0)=true∧((viewG g).ev.getD w ev0).loc=((viewG g).ev.getD i ev0).loc:=by
 have he:=vev hg i hi
 have h0:((idsG g).getD i id0).t≠0:=fun h0=>by
  rw [init_reads he h0] at hr;cases hr
 have hd:(idsG g).getD i id0∈idsG g:=getD_mem hi
 obtain ⟨w,hw,h1,h2,h3,_⟩:=source_mem (src_ok hg hd h0) (by rw [he];exact hr)
 have hm:srcOf g ((idsG g).getD i id0)∈idsG g:=idsG_mem.2 (by rw [hw];rfl)
 have hlt:numOf (idsG g) (srcOf g ((idsG g).getD i id0))<nG g:=numOf_lt hm
 have hev:=vev hg _ hlt
 rw [numOf_get hm,hw] at hev
 have hev:=Option.some.inj hev
 refine ⟨numOf (idsG g) (srcOf g ((idsG g).getD i id0)),?_,hlt,fun e=>h1 ?_,by rw [←hev];exact h2,by rw [←hev,h3,he];rfl⟩
 ·rw [vfr hg i hi];unfold frOf;rw [if_neg h0,he,Option.getD_some,if_pos hr]
 ·have:=numOf_get hm;rw [e] at this;exact this.symm
end
theorem mod2_bit (x:BitVec 64) (i:Nat):(x >>> i) % BitVec.ofInt 64 2=1#64↔x.getLsbD i=true:=by
 rw [←BitVec.toNat_inj,BitVec.toNat_umod,BitVec.toNat_ushiftRight,BitVec.getLsbD,Nat.testBit_eq_decide_div_mod_eq,decide_eq_true_eq,Nat.shiftRight_eq_div_pow]
 rfl
end Go.AL.Rl
namespace Go.AL.Rl
open Go Go.AL Go.Proofs
set_option maxRecDepth 100000
set_option maxHeartbeats 1600000
end Go.AL.Rl
namespace Go.AL.Rl
open Go Go.AL Go.Proofs
set_option maxRecDepth 100000
set_option maxHeartbeats 1600000
variable {γ:Nat→Option AV}
def numI (l:List EId) (d:EId):Int:=match l.findIdx? (fun x=>decide (x=d)) with | some k=>(k:Nat) | none=>-1
theorem numI_at {l:List EId} {d:EId} {k:Nat} (hk:k<l.length) (h:l.getD k id0=d) (hb:∀ j<k,l.getD j id0≠d):numI l d=k:=by
 have e:l.findIdx? (fun x=>decide (x=d))=some k:=by
  rw [List.findIdx?_eq_some_iff_getElem]
  refine ⟨hk,by simpa [hk] using h,fun j hj=>?_⟩
  have:=hb j hj
  have hj':j<l.length:=by omega
  simpa [hj'] using this
 unfold numI;rw [e]
theorem numI_no {l:List EId} {d:EId} (hb:∀ j<l.length,l.getD j id0≠d):numI l d = -1:=by
 have e:l.findIdx? (fun x=>decide (x=d))=none:=by
  rw [List.findIdx?_eq_none_iff]
  intro x hx
  obtain ⟨j,hj,rfl⟩:=List.getElem_of_mem hx
  have:=hb j hj
  simpa [hj] using this
 unfold numI;rw [e]
theorem numI_lt (l:List EId) (d:EId):-1≤numI l d∧numI l d<l.length:=by
 unfold numI
 cases h:l.findIdx? (fun x=>decide (x=d)) with
 | none=>simp;omega
 | some k=>
  have:=(List.findIdx?_eq_some_iff_getElem.1 h).1
  simp only;omega
end Go.AL.Rl
namespace Go.AL.Rl
open Go Go.AL Go.Proofs
set_option maxRecDepth 100000
set_option maxHeartbeats 3200000
variable {γ:Nat→Option AV}
end Go.AL.Rl
namespace Go.AL.Rl
open Go Go.AL Go.Proofs
set_option maxRecDepth 100000
set_option maxHeartbeats 3200000
variable {γ:Nat→Option AV}
end Go.AL.Rl
namespace Go.AL.Rl
open Go Go.AL Go.Proofs
set_option maxRecDepth 100000
set_option maxHeartbeats 3200000
variable {γ:Nat→Option AV}
end Go.AL.Rl
namespace Go.AL.Rl
open Go Go.AL Go.Proofs
set_option maxRecDepth 100000
set_option maxHeartbeats 3200000
variable {γ:Nat→Option AV}
end Go.AL.Rl
namespace Go.AL.Rl
open Go Go.AL Go.Proofs
set_option maxRecDepth 100000
set_option maxHeartbeats 3200000
variable {γ:Nat→Option AV}
structure Mk where
 id:EId
 w:Bool
theorem Mk.ext' {a b:Mk} (h1:a.id=b.id) (h2:a.w=b.w):a=b:=by cases a;cases b;simp_all
instance:DecidableEq Mk:=fun a b=>decidable_of_iff (a.id=b.id∧a.w=b.w) ⟨fun h=>Mk.ext' h.1 h.2,fun h=>by subst h;exact ⟨rfl,rfl⟩⟩
abbrev mk0:Mk:=⟨⟨0,0⟩,false⟩
abbrev aMk (m:Mk):AV:=.agg [.i fun _=>m.id.t,.i fun _=>m.id.i,.b fun _=>m.w]
def mks (l:List Mk):LV:=LV.of (l.map aMk)
@[simp] theorem mks_len (l:List Mk):(mks l).l.length=l.length:=by simp [mks]
structure Sta where
 g:Gr
 ms:List Mk
 half:Int
def needM (d:EId) (k:Int):List Mk:=(if k=2 then [] else [⟨d,false⟩])++if k=2∨k=3 then [⟨d,true⟩] else []
end Go.AL.Rl
namespace Go.AL.Rl
open Go Go.AL Go.Proofs
set_option maxRecDepth 100000
set_option maxHeartbeats 1600000
end Go.AL.Rl
namespace Go.AL
open Go Go.RowKit
section
variable {P:Program} {γ:Nat→Option AV}
end
end Go.AL
namespace Go.AL
open Go Go.RowKit
section
variable {P:Program} {γ:Nat→Option AV} {τ:Nat→TI} {C:EC}
def vown (t:TK) (cs:List CK) (n:Nat) (parts:List (Nat × AV)) (h:List Blk) (k:AV→List Blk→Prop):Prop:=
 match t with
 | .slice _ sz _ (some zero)=>if parts.all (fun p=>p.2.closed && p.2.flat && (p.2.cells.length == sz) && decide (p.1<n)) then
   if zero.closed && zero.flat && (zero.cells.length == sz) && decide (0<sz) && decide (n * sz≤16777216) then
    (∀ _:Unit,∀ v∈(LV.of ((setAll (List.replicate n zero) parts).map (AV.nrm cs))).l,v.flat=true)∧k (.sl h.length 0 sz (fun _=>0) fun _=>n) (h++[.run 0 sz fun _=>LV.of ((setAll (List.replicate n zero) parts).map (AV.nrm cs))]) else False
  else False
 | _=>False
theorem run_vown {t:TypeId} {cs:List CK} {n:Nat} {parts:List (Nat × AV)} {h:List Blk} {k:AV→List Blk→Prop} (hv:vown (tiOf P t).k cs n parts h k) :
  ∃ y h',k y h'∧∀ B S ρ w (qs:Array (Nat × Value)),HeapR B S γ ρ h w→PartsR S w (some ρ) parts qs.toList→∃ y' S' ρ' w',(Instr.buildSlice t n qs).run P w=.ok y' w'∧Ext B S ρ w S' ρ' w'∧HeapR B S' γ ρ' h' w'∧R S' w' (some ρ') y y':=by
 unfold vown at hv
 split at hv
 ·rename_i e sz by' zero hk
  obtain ⟨h1,i,h2,h3,_,h5⟩:=tk_slice hk
  split at hv
  ·rename_i hp0
   simp only [List.all_eq_true,Bool.and_eq_true,beq_iff_eq,decide_eq_true_eq] at hp0
   split at hv
   ·rename_i hz0
    simp only [Bool.and_eq_true,beq_iff_eq,decide_eq_true_eq] at hz0
    obtain ⟨⟨⟨⟨hz1,hz2⟩,hz3⟩,hz4⟩,hz5⟩:=hz0
    obtain ⟨zv,hzv,rfl⟩:∃ zv,i.zero=some zv∧zero=ofV zv:=by
     cases hx:i.zero with
     | none=>simp [hx] at h5
     | some zv=>exact ⟨zv,rfl,by simpa [hx] using h5.symm⟩
    have hzc:zv.cells.size=sz:=by
     have:=Rs_len (Rs_ofV (S:=fun _=>True) (w:=default) (ρ:=none) zv)
     simpa [hz3] using this
    obtain ⟨hfl,hv⟩:=hv
    have hfl:=hfl ()
    refine ⟨_,_,hv,fun B S ρ w qs hh hp=>?_⟩
    have hrep:∀ e∈List.replicate n zv,e.cells.size=sz:=fun e he=>by rw [List.eq_of_mem_replicate he];exact hzc
    have hqs:∀ q∈qs.toList,(q.2.cells.size=sz∧q.1<(List.replicate n zv).length):=by
     intro q hq
     obtain ⟨j,hj,rfl⟩:=List.mem_iff_getElem.1 hq
     obtain ⟨k1,k2⟩:=hp
     have hjp:j<parts.length:=by have:=congrArg List.length k1;simp at this;simp at hj;omega
     have hfst:parts[j].1=(qs.toList[j]).1:=by
      have:=congrArg (fun l=>l[j]?) k1
      simpa [List.getElem?_eq_getElem hjp,List.getElem?_eq_getElem hj] using this
     have hr:R S w (some ρ) parts[j].2 (qs.toList[j]).2:=(Rs_iff.1 k2).2 j _ _ (by simp [List.getElem?_eq_getElem hjp]) (by simp [List.getElem?_eq_getElem hj])
     have hpj:=hp0 parts[j] (List.getElem_mem hjp)
     refine ⟨?_,by rw [←hfst];simpa using hpj.2⟩
     have:=Rs_len (R_cells hr hpj.1.1.2).1
     simpa [hpj.1.2] using this
    obtain ⟨f1,f2⟩:=run_fill_slice qs.toList (List.replicate n zv) hrep hqs
    have hnsz:¬ n * i.size > 2 ^ 24:=by rw [h3];omega
    have hlen:(setAllV (List.replicate n zv) qs.toList).length=n:=by rw [setAllV_length];simp
    have hrl:RL S w (LV.of ((setAll (List.replicate n (ofV zv)) parts).map (AV.nrm cs))) (setAllV (List.replicate n zv) qs.toList):=by
     rw [RL_iff,LV.l_of]
     refine Rs_nrm cs (Rs_setAll (ρ:=none) ⟨hp.1,?_⟩ (Rs_replicate (R_ofV zv) n))
     have hcl:∀ (ps:List AV),(∀ p∈ps,p.closed=true)→AV.closed.closeds ps=true:=by
      intro ps
      induction ps with
      | nil=>intro _;rfl
      | cons p ps ih=>intro hps;simp only [AV.closed.closeds,Bool.and_eq_true];exact ⟨hps p (by simp),ih fun q hq=>hps q (by simp [hq])⟩
     exact closed_Rs _ _ (hcl _ fun p hp'=>by
      obtain ⟨q,hq,rfl⟩:=List.mem_map.1 hp'
      exact (hp0 q hq).1.1.1) hp.2
    have hS:SameOn S w (w.alloc (.cells (flat (setAllV (List.replicate n zv) qs.toList)).toArray e)):=fun k hk=>Below.heap_alloc w _ k (hh.sle k hk)
    have hone:=onecells_of hrl hfl
    have hsz:(flat (setAllV (List.replicate n zv) qs.toList)).toArray.size=n * sz:=by rw [List.size_toArray,flat_length f2,hlen]
    obtain ⟨p1,p2⟩:=hh.push (.cells (flat (setAllV (List.replicate n zv) qs.toList)).toArray e) (by intro _ _ _ _ e;cases e;exact ⟨rfl,rfl⟩) ⟨false,0,some w.heap.size,sz,n * sz,[]⟩ (.inl rfl) (.run 0 sz fun _=>LV.of ((setAll (List.replicate n (ofV zv)) parts).map (AV.nrm cs)))
     ⟨rfl,rfl,rfl,_,RL.mono (fun _ h=>h) hS _ _ hrl,hone,.inr ⟨w.heap.size,_,e,rfl,heap_alloc_new w _,hsz,by rw [hlen];exact Nat.le_refl _,fun j ev hj=>⟨f2 ev (List.mem_of_getElem? hj),fun c x hx=>by
      have:=flat_get f2 hj hx
      simpa using this⟩⟩⟩
    refine ⟨.slice (some ⟨w.heap.size,0,none⟩) n n,_,_,w.alloc (.cells (flat (setAllV (List.replicate n zv) qs.toList)).toArray e),?_,p2,p1,_,_,some ⟨w.heap.size,0,none⟩,n,rfl,by rw [←hh.len];exact getElem?_concat _ _,rfl,rfl,Nat.le_refl _,rfl,Nat.le_refl _,.inr ⟨_,_,rfl⟩,fun _=>.inr ⟨w.heap.size,rfl,.inr (by simp),by simp⟩⟩
    ·simp only [Instr.buildSlice,Sem.run_bind,run_underlying h1,Result.andThen_ok,run_sizeOf h2,hnsz,if_false]
     by_cases hn0:n * i.size=0
     ·have hn:n=0:=by rcases Nat.mul_eq_zero.1 hn0 with h | h<;>omega
      subst hn
      simp only [hn0,if_true]
      have hq0:qs.toList=[]:=by
       cases hq:qs.toList with
       | nil=>rfl
       | cons q _=>have:=(hqs q (by simp [hq])).2;simp at this
      rw [hq0] at f1 ⊢
      simp [Instr.fill,newRow,setAllV,flat,Array.range_zero']
     ·simp only [hn0,if_false,Sem.run_bind,run_zeroValue h2 hzv,Result.andThen_ok,Sem.run_pure]
      have hz:((Array.range (n * i.size)).map fun x=>zv.cells[x % zv.cells.size]!)=(flat (List.replicate n zv)).toArray:=by
       rw [flat_replicate,←range_mod zv.cells sz hzc n,h3]
       rw [←List.map_toArray]
       congr 1
       exact Array.ext (by simp) (by intro j h1 h2;simp)
      rw [hz,h3,f1]
      simp [newRow]
   ·exact hv.elim
  ·exact hv.elim
 ·exact hv.elim
def vopO (own:List Nat) (τ:Nat→TI) (γ:Nat→Option AV) (C:EC) (o:Oper) (A:St) (K:St→Prop):Prop:=
 match o.op with
 | .buildSlice t n ps=>match o.dst with
  | some d=>match own.contains d with
   | true=>vown (τ t).k (τ (τ t).k.elem).cs n (ps.toList.map fun p=>(p.1,A.ev γ p.2)) A.h fun v h=>K (St.put ⟨A.n,A.s,h⟩ o.dst v)
   | false=>vop τ γ C o A K
  | none=>vop τ γ C o A K
 | _=>vop τ γ C o A K
theorem vopO_sound {own:List Nat} (hτ:∀ t,τ t=tiOf P t) (hC:∀ f args h Q,C f args h Q→PC P γ f args h Q) {o:Oper} {A:St} {K:St→Prop} (hv:vopO own τ γ C o A K):OpR P γ o A K:=by
 unfold vopO at hv
 split at hv
 ·rename_i t n ps ho
  split at hv
  ·split at hv
   ·rw [hτ,hτ] at hv
    obtain ⟨v,h',h1,h2⟩:=run_vown (γ:=γ) hv
    have hr:OpR P γ o A (fun A'=>A'=St.put ⟨A.n,A.s,h'⟩ o.dst v):=OpR.of_e fun B S ρ w re hh hx=>by
     have hp:PartsR S w (some ρ) (ps.toList.map fun p=>(p.1,A.ev γ p.2)) (ps.map fun x=>(x.1,re x.2)).toList:=by
      rw [Array.toList_map]
      exact PartsR.of _ fun p hp=>hx p.2
     obtain ⟨y',S',ρ',w',k1,k2,k3,k4⟩:=h2 B S ρ w _ hh hp
     refine ⟨y',S',ρ',w',.inl ?_,k2,k3,k4⟩
     obtain ⟨dd,op,ty,pos,af,gg⟩:=o
     simp only at ho
     subst ho
     simp only [execOp,Sem.run_bind];rw [k1];rfl
    exact hr.mono fun A' e=>e ▸ h1
   ·exact vop_sound hτ hC hv
  ·exact vop_sound hτ hC hv
 ·exact vop_sound hτ hC hv
def vopsO (own:List Nat) (τ:Nat→TI) (γ:Nat→Option AV) (C:EC) (ops:List Oper):List Oper→St→(St→Prop)→Prop
 | [],A,K=>K A
 | o :: r,A,K=>
  match o.guard with
  | none=>vopO own τ γ C o A fun A=>vopsO own τ γ C ops r A K
  | some (j,want)=>match ops[j]? with
   | some oj=>match oj.dst with
    | some d=>match A.s.get d with
     | .tt=>match want with
      | true=>vopO own τ γ C o A fun A=>vopsO own τ γ C ops r A K
      | false=>vopsO own τ γ C ops r (A.put o.dst .undef) K
     | .ff=>match want with
      | false=>vopO own τ γ C o A fun A=>vopsO own τ γ C ops r A K
      | true=>vopsO own τ γ C ops r (A.put o.dst .undef) K
     | .undef=>vopsO own τ γ C ops r (A.put o.dst .undef) K
     | .b x=>match want with
      | true=>(∀ _:Unit,x ()=true→vopO own τ γ C o (A.put (some d) .tt) fun A=>vopsO own τ γ C ops r A K)∧(∀ _:Unit,x ()=false→vopsO own τ γ C ops r ((A.put (some d) .ff).put o.dst .undef) K)
      | false=>(∀ _:Unit,x ()=true→vopsO own τ γ C ops r ((A.put (some d) .tt).put o.dst .undef) K)∧(∀ _:Unit,x ()=false→vopO own τ γ C o (A.put (some d) .ff) fun A=>vopsO own τ γ C ops r A K)
     | _=>False
    | none=>False
   | none=>False
theorem vopsO_sound {own:List Nat} (hτ:∀ t,τ t=tiOf P t) (hC:∀ f args h Q,C f args h Q→PC P γ f args h Q) {ops:Array Oper} {Q:Exit→Act→World→Prop} {K:St→Prop}:∀ (l:List Oper) (A:St) (B:Nat) (S:Nat→Prop) (ρ:List Loc) (a:Act) (w:World),
  Sim B S γ ρ A a w→vopsO own τ γ C ops.toList l A K→(∀ S' ρ' A' a' w',K A'→Sim B S' γ ρ' A' a' w'→Ext B S ρ w S' ρ' w'→Q .normal a' w')→wpList P ops Q l a w
 | [],A,B,S,ρ,a,w,hs,hv,hK=>hK S ρ A a w hv hs (Ext.refl B S ρ w)
 | o :: l,A,B,S,ρ,a,w,hs,hv,hK=>by
  have go:∀ A0,Sim B S γ ρ A0 a w→vopO own τ γ C o A0 (fun A=>vopsO own τ γ C ops.toList l A K)→o.wp P a w (wpList P ops Q l) Q:=fun A0 hs0 h0=>
   vopO_sound hτ hC h0 B S ρ a w _ _ hs0 fun S' ρ' A' a' w' h1 h2 h3=>vopsO_sound hτ hC l A' B S' ρ' a' w' h2 h1 fun S'' ρ'' A'' a'' w'' k1 k2 k3=>hK S'' ρ'' A'' a'' w'' k1 k2 (h3.trans k3)
  have skip:∀ A0,Sim B S γ ρ A0 a w→vopsO own τ γ C ops.toList l (A0.put o.dst .undef) K→wpList P ops Q l (a.put o.dst Go.undef) w:=fun A0 hs0 h0=>
   vopsO_sound hτ hC l _ B S ρ _ w (hs0.put o.dst (v:=.undef) (v':=Go.undef) rfl) h0 hK
  simp only [wpList]
  simp only [vopsO] at hv
  split at hv
  ·rename_i hg
   rw [if_pos (by simp [Region.wanted,hg])]
   exact .inl (go A hs hv)
  ·rename_i j want hg
   split at hv
   ·rename_i oj hj
    split at hv
    ·rename_i d hd
     have hy:=yielded_eq hj hd a.tmps
     have hslot:=hs.slot d
     have yes:∀ b:Bool,a.tmps.getD d Go.undef=.bool b→want=b→Region.wanted o (yielded ops a.tmps)=true:=fun b h1 h2=>by
      simp only [Region.wanted,hg,hy,h1,h2];simp
     have no:∀ b:Bool,a.tmps.getD d Go.undef=.bool b→want≠b→¬ Region.wanted o (yielded ops a.tmps)=true:=fun b h1 h2=>by
      simp only [Region.wanted,hg,hy,h1];simp;exact fun h=>h2 h.symm
     split at hv
     ·rename_i hst;rw [hst] at hslot
      split at hv
      ·rw [if_pos (yes true hslot rfl)];exact .inl (go A hs hv)
      ·rw [if_neg (no true hslot (by simp))];exact skip A hs hv
     ·rename_i hst;rw [hst] at hslot
      split at hv
      ·rw [if_pos (yes false hslot rfl)];exact .inl (go A hs hv)
      ·rw [if_neg (no false hslot (by simp))];exact skip A hs hv
     ·rename_i hst;rw [hst] at hslot
      have:¬ Region.wanted o (yielded ops a.tmps)=true:=by
       have e:a.tmps.getD d Go.undef=Go.undef:=hslot
       unfold Region.wanted
       rw [hg]
       simp only [hy]
       rw [e]
       simp [Go.undef]
      rw [if_neg this];exact skip A hs hv
     ·rename_i x hst;rw [hst] at hslot
      have hslot:a.tmps.getD d Go.undef=.bool (x ()):=hslot
      split at hv
      ·cases hx:x () with
       | true=>
        rw [hx] at hslot
        rw [if_pos (yes true hslot rfl)];exact .inl (go _ (hs.reput d (v:=.tt) hslot) (hv.1 () hx))
       | false=>
        rw [hx] at hslot
        rw [if_neg (no false hslot (by simp))];exact skip _ (hs.reput d (v:=.ff) hslot) (hv.2 () hx)
      ·cases hx:x () with
       | true=>
        rw [hx] at hslot
        rw [if_neg (no true hslot (by simp))];exact skip _ (hs.reput d (v:=.tt) hslot) (hv.1 () hx)
       | false=>
        rw [hx] at hslot
        rw [if_pos (yes false hslot rfl)];exact .inl (go _ (hs.reput d (v:=.ff) hslot) (hv.2 () hx))
     ·exact hv.elim
    ·exact hv.elim
   ·exact hv.elim
theorem AWP.regionO (own:List Nat) {id:Nat} {ops:Array Oper} {Q:Exit→St→Prop} {A:St} (hτ:∀ t,τ t=tiOf P t) (hC:∀ f args h Q,C f args h Q→PC P γ f args h Q) (hv:vopsO own τ γ C ops.toList ops.toList A (Q .normal)):AWP P γ (.region id ops false) Q A:=
 fun B S ρ a w hs=>wp_region_list (vopsO_sound hτ hC _ A B S ρ a w hs hv fun S' ρ' A' _ _ h1 h2 h3=>⟨S',ρ',A',h1,h2,h3⟩)
end
section
variable {P:Program} {γ:Nat→Option AV}
theorem Pure.goO {ty:Program→Nat→TI} (hτ:∀ t,ty P t=tiOf P t) (hm:P.follows .mixedOrders=true) {f:FuncId} {fn:Func} {n:Nat} {rs:Array ResultVar}
  (hf:P.funcs[f]?=some fn) (hb:fn.body=some (fn.body.getD .skip)) (hn:fn.ntmps=n) (hr:fn.results=rs) (he:Enters P f) {args:List AV} {y:AV} (hsz:args.length≤n∧n<1000)
  (h:∀ (P':Program) (C:EC) (CQ:List Blk→QC) (D:Array Oper→(St→Prop)→St→Prop) (W:Code→(Exit→St→Prop)→St→Prop) (F:AV→List Blk→Prop),Env P γ C CQ (ty P') D W →
   (∀ (own:List Nat) {id:Nat} {ops:Array Oper} {n:Nat} {r:List Code} {Q:Exit→St→Prop} {A:St},vopsO own (ty P') γ C.noY ops.toList ops.toList A (fun A=>vcl (ty P') γ C D W r Q A)→AWPl P γ n (.region id ops false :: r) Q A) →
   (∀ {v h},fz h y v→F v h)→AWPl P γ 0 (citems (fn.body.getD .skip)) (bodyQ (ty P') rs.toList F) (start n args [])):Pure P γ false f args y:=
 Pure.of_body hτ hf hb hn (by rw [hr]) he hsz (AWPr.to (AWPr.of_items _ (h P _ _ _ _ _ (Env.top hτ hm) (fun own {id ops n r Q A} hv=>
  AWPr.mono (AWPr.of (AWP.regionO own (Q:=thenE (fun A=>vcl (ty P) γ (SC P γ) (Dany P γ (ty P)) (fun c Q A=>AWP P γ (.loop c) Q A) r Q A) Q) hτ SC.noY_pc hv)) fun e A' h'=>by
   cases e with
   | normal=>exact (Env.top hτ hm).bl h'
   | _=>exact h') (fun h=>h))))
end
end Go.AL
namespace Go.AL
open Go Go.RowKit
section
variable {P:Program} {γ:Nat→Option AV}
theorem AWPr.step {n:Nat} {c:Code} {Q:Exit→St→Prop} {A A':St} (hs:Step γ A A') (h:AWPr P γ n c Q A'):AWPr P γ n c Q A:=fun B S ρ a w h0=>by
 obtain ⟨S',ρ',h1,h2⟩:=hs B S ρ a w h0
 exact wp_mono (h B S' ρ' a w h1) fun e a' w' ⟨S'',ρ'',A'',q1,q2,q3⟩=>⟨S'',ρ'',A'',q1,q2,h2.takeL.transR q3⟩
theorem AWPl.step {n:Nat} {l:List Code} {Q:Exit→St→Prop} {A A':St} (hs:Step γ A A') (hl:l.isEmpty=false) (h:AWPl P γ n l Q A'):AWPl P γ n l Q A:=by
 cases l with
 | nil=>cases hl
 | cons c r=>exact AWPr.step hs h
section
variable {C:EC} {CQ:List Blk→QC} {T:Nat→TI} {D:Array Oper→(St→Prop)→St→Prop} {W:Code→(Exit→St→Prop)→St→Prop}
theorem Env.at (E:Env P γ C CQ T D W) {n:Nat} {l:List Code} {Q:Exit→St→Prop} {A:St} (k:Nat)
  (h:∀ I:St→Prop,(∀ {A'},AWPl P γ n (l.drop k) Q A'→I A')→vcl T γ C D W (l.take k) (thenE I Q) A):AWPl P γ n l Q A:=by
 rw [←List.take_append_drop k l]
 exact AWPl.app ((E.bl (h (fun A'=>AWPl P γ n (l.drop k) Q A') fun hl=>hl)).mono fun e A' h=>by cases e<;>exact h)
end
theorem Step.heap {A:St} {h':List Blk} (hr:∀ B S ρ w,HeapR B S γ ρ A.h w→∃ S' ρ',HeapR B S' γ ρ' h' w∧Ext B S ρ w S' ρ' w):Step γ A ⟨A.n,A.s,h'⟩:=fun B S ρ a w hs=>by
 obtain ⟨S',ρ',h1,h2⟩:=hr B S ρ w hs.heap
 exact ⟨S',ρ',hs.ext h2 h1,h2⟩
theorem HeapR.adopt {B:Nat} {S:Nat→Prop} {ρ:List Loc} {h:List Blk} {w:World} (hh:HeapR B S γ ρ h w) (loc:Loc) (blk:Blk) (hsub:loc.sub=[])
  (hk:∀ K,loc.k=some K→¬ S K∧K<w.heap.size∧B≤K∧∀ (b:Nat) (l:Loc),ρ[b]?=some l→¬ l.has K) (hb:BlkR S w (ρ++[loc]) loc blk) :
  HeapR B S γ (ρ++[loc]) (h++[blk]) w∧Ext B S ρ w S (ρ++[loc]) w:=by
 have hup:=LocsUp.append ρ [loc]
 have key:∀ (b:Nat) (lc:Loc),(ρ++[loc])[b]?=some lc→(b<ρ.length∧ρ[b]?=some lc)∨(b=ρ.length∧lc=loc):=by
  intro b lc h1
  by_cases hlt:b<ρ.length
  ·rw [List.getElem?_append_left hlt] at h1;exact .inl ⟨hlt,h1⟩
  ·rw [List.getElem?_append_right (by omega)] at h1
   have e1:b-ρ.length=0:=by
    have:=(List.getElem?_eq_some_iff.1 h1).1;simp at this;omega
   rw [e1] at h1;simp at h1;exact .inr ⟨by omega,h1.symm⟩
 refine ⟨⟨by simp [hh.len],fun b bk lc h1 h2=>?_,fun b lc K h1 h2=>?_,fun b b' lc lc' K h1 h2 h3 h4=>?_,hh.sle,hh.gok,hh.bsz,fun b lc h1=>?_⟩,Fr.refl w,fun _ _=>rfl,fun _ h=>h,fun _ _=>rfl,hup,fun _ h=>.inl h⟩
 ·rcases key b lc h2 with ⟨a1,a2⟩ | ⟨a1,rfl⟩
  ·rw [List.getElem?_append_left (by rw [←hh.len];exact a1)] at h1
   exact (hh.blk b bk lc h1 a2).mono (fun _ h=>h) (fun _ _=>rfl) hup fun _ _=>rfl
  ·rw [a1,hh.len] at h1
   simp at h1;subst h1;exact hb
 ·rcases key b lc h1 with ⟨a1,a2⟩ | ⟨a1,rfl⟩
  ·exact hh.own b lc K a2 h2
  ·obtain ⟨k1,k2,k3,_⟩:=hk K (Loc.has_nil hsub h2)
   exact ⟨k1,k2,k3⟩
 ·rcases key b lc h1 with ⟨a1,a2⟩ | ⟨a1,rfl⟩
  ·rcases key b' lc' h2 with ⟨c1,c2⟩ | ⟨c1,rfl⟩
   ·exact hh.inj b b' lc lc' K a2 c2 h3 h4
   ·exact absurd h3 ((hk K (Loc.has_nil hsub h4)).2.2.2 b lc a2)
  ·rcases key b' lc' h2 with ⟨c1,c2⟩ | ⟨c1,rfl⟩
   ·exact absurd h4 ((hk K (Loc.has_nil hsub h3)).2.2.2 b' lc' c2)
   ·omega
 ·rcases key b lc h1 with ⟨a1,a2⟩ | ⟨a1,rfl⟩
  ·exact hh.sok b lc a2
  ·exact .nil hsub
theorem HeapR.move {B:Nat} {S:Nat→Prop} {ρ:List Loc} {h:List Blk} {w:World} (hh:HeapR B S γ ρ h w) {b b2:Nat} {loc loc2 loc' loc2':Loc} {blk':Blk} (hne:b≠b2) (hb:ρ[b]?=some loc) (hb2:ρ[b2]?=some loc2)
  (hup:loc.up loc') (hup2:loc2.up loc2') (hk:∀ K,loc'.has K→loc.has K∨loc2.has K) (hk2:∀ K,¬ loc2'.has K) (hsok:loc'.SubOk) (hsub2:loc2'.sub=[])
  (hblk:BlkR S w ((ρ.set b loc').set b2 loc2') loc' blk'):HeapR B S γ ((ρ.set b loc').set b2 loc2') ((h.set b blk').set b2 .any) w∧Ext B S ρ w S ((ρ.set b loc').set b2 loc2') w:=by
 have hblt:b<ρ.length:=(List.getElem?_eq_some_iff.1 hb).1
 have hblt2:b2<ρ.length:=(List.getElem?_eq_some_iff.1 hb2).1
 have key:∀ (i:Nat) (l:Loc),((ρ.set b loc').set b2 loc2')[i]?=some l→(i=b∧l=loc')∨(i=b2∧l=loc2')∨(i≠b∧i≠b2∧ρ[i]?=some l):=by
  intro i l hl
  by_cases e2:b2=i
  ·subst e2;simp [hblt2] at hl;exact .inr (.inl ⟨rfl,hl.symm⟩)
  ·rw [List.getElem?_set_ne e2] at hl
   by_cases e:b=i
   ·subst e;simp [hblt] at hl;exact .inl ⟨rfl,hl.symm⟩
   ·rw [List.getElem?_set_ne e] at hl;exact .inr (.inr ⟨fun h=>e h.symm,fun h=>e2 h.symm,hl⟩)
 have hlocs:LocsUp ρ ((ρ.set b loc').set b2 loc2'):=by
  intro i l hl
  by_cases e2:b2=i
  ·subst e2;rw [hb2] at hl;cases hl
   exact ⟨loc2',by simp [hblt2],hup2⟩
  ·by_cases e:b=i
   ·subst e;rw [hb] at hl;cases hl
    exact ⟨loc',by rw [List.getElem?_set_ne e2];simp [hblt],hup⟩
   ·exact ⟨l,by rw [List.getElem?_set_ne e2,List.getElem?_set_ne e];exact hl,l.up_refl⟩
 refine ⟨⟨by simp [hh.len],fun i bk l h1 h2=>?_,fun i l K h1 h2=>?_,fun i j l l' K h1 h2 h3 h4=>?_,hh.sle,hh.gok,hh.bsz,fun i l h1=>?_⟩,Fr.refl w,fun _ _=>rfl,fun _ h=>h,fun _ _=>rfl,hlocs,fun _ h=>.inl h⟩
 ·rcases key i l h2 with ⟨rfl,rfl⟩ | ⟨rfl,rfl⟩ | ⟨n1,n2,h2⟩
  ·rw [List.getElem?_set_ne (fun e=>hne e.symm)] at h1
   have:i<h.length:=by rw [←hh.len];exact hblt
   simp [this] at h1;subst h1;exact hblk
  ·have:i<(h.set b blk').length:=by rw [List.length_set,←hh.len];exact hblt2
   rw [List.getElem?_set_self this] at h1;cases h1;trivial
  ·rw [List.getElem?_set_ne (fun e=>n2 e.symm),List.getElem?_set_ne (fun e=>n1 e.symm)] at h1
   exact (hh.blk i bk l h1 h2).mono (fun _ h=>h) (fun _ _=>rfl) hlocs fun _ _=>rfl
 ·rcases key i l h1 with ⟨rfl,rfl⟩ | ⟨rfl,rfl⟩ | ⟨n1,n2,h1⟩
  ·rcases hk K h2 with e | e
   ·exact hh.own i loc K hb e
   ·exact hh.own b2 loc2 K hb2 e
  ·exact absurd h2 (hk2 K)
  ·exact hh.own i l K h1 h2
 ·have none2:∀ (i:Nat) (l:Loc),i≠b→i≠b2→ρ[i]?=some l→l.has K→¬ loc'.has K:=fun i l n1 n2 g1 g2 g3=>by
   rcases hk K g3 with e | e
   ·exact n1 (hh.inj i b l loc K g1 hb g2 e)
   ·exact n2 (hh.inj i b2 l loc2 K g1 hb2 g2 e)
  rcases key i l h1 with ⟨rfl,rfl⟩ | ⟨rfl,rfl⟩ | ⟨n1,n2,g1⟩
  ·rcases key j l' h2 with ⟨rfl,rfl⟩ | ⟨rfl,rfl⟩ | ⟨m1,m2,g2⟩
   ·rfl
   ·exact absurd h4 (hk2 K)
   ·exact absurd h3 (none2 j l' m1 m2 g2 h4)
  ·exact absurd h3 (hk2 K)
  ·rcases key j l' h2 with ⟨rfl,rfl⟩ | ⟨rfl,rfl⟩ | ⟨m1,m2,g2⟩
   ·exact absurd h4 (none2 i l n1 n2 g1 h3)
   ·exact absurd h4 (hk2 K)
   ·exact hh.inj i j l l' K g1 g2 h3 h4
 ·rcases key i l h1 with ⟨rfl,rfl⟩ | ⟨rfl,rfl⟩ | ⟨_,_,g1⟩
  ·exact hsok
  ·exact .nil hsub2
  ·exact hh.sok i l g1
theorem Loc.SubOk.set {l l':Loc} (h:l.SubOk) {i:Nat} (hs:l'.sub=l.sub.set i none) (hk:l'.k=l.k):l'.SubOk where
 out:=fun K hK=>by
  rw [hs] at hK
  rw [hk]
  rcases List.mem_or_eq_of_mem_set hK with hK | hK
  ·exact h.out K hK
  ·cases hK
 one:=fun a c K ha hc=>by
  have key:∀ a,l'.sub[a]?=some (some K)→l.sub[a]?=some (some K):=fun a ha=>by
   rw [hs,List.getElem?_set] at ha
   split at ha
   ·split at ha<;>cases ha
   ·exact ha
  exact h.one a c K (key a ha) (key c hc)
theorem Loc.has_set {l l':Loc} {i K:Nat} (hs:l'.sub=l.sub.set i none) (hk:l'.k=l.k) (h:l'.has K):l.has K:=by
 rcases h with h | h
 ·exact .inl (by rw [←hk];exact h)
 ·rw [hs] at h
  rcases List.mem_or_eq_of_mem_set h with h | h
  ·exact .inr h
  ·cases h
theorem LocsUp.set1 {ρ:List Loc} {b:Nat} {loc loc':Loc} (hb:ρ[b]?=some loc) (hup:loc.up loc'):LocsUp ρ (ρ.set b loc'):=by
 have hblt:b<ρ.length:=(List.getElem?_eq_some_iff.1 hb).1
 intro i l hl
 by_cases e:b=i
 ·subst e;rw [hb] at hl;cases hl
  exact ⟨_,by simp [hblt],hup⟩
 ·exact ⟨l,by rw [List.getElem?_set_ne e];exact hl,l.up_refl⟩
theorem HeapR.drop {B:Nat} {S:Nat→Prop} {ρ:List Loc} {h:List Blk} {w:World} (hh:HeapR B S γ ρ h w) {b g q:Nat} {ess:Unit→List LV} (hb:h[b]?=some (.nest g q ess none)) (i:Unit→Nat) {loc:Loc} (hl:ρ[b]?=some loc) :
  HeapR B S γ (ρ.set b { loc with sub:=loc.sub.set (i ()) none }) (h.set b (.nest g q ess (some (i,.any)))) w∧Ext B S ρ w S (ρ.set b { loc with sub:=loc.sub.set (i ()) none }) w:=by
 obtain ⟨d1,d2,d3,evs,d4,d5,d6,d7⟩:=hh.blk b _ loc hb hl
 refine hh.updS (loc':={ loc with sub:=loc.sub.set (i ()) none }) hl (.inl ⟨_,rfl⟩) (fun K hK=>.inl (Loc.has_set (l:=loc) (l':={ loc with sub:=loc.sub.set (i ()) none }) rfl rfl hK)) (Fr.refl w) (fun _ _ _=>rfl) ⟨d1,d2,d3,evs,d4,d5,by simp [d6],fun p es v s g1 g2 g3=>?_⟩ ((hh.sok b loc hl).set rfl rfl)
 have hpl:p<loc.sub.length:=by have:=(List.getElem?_eq_some_iff.1 g2).1;omega
 have hold:InR S w q es v loc.sub[p]:=d7 p es v _ g1 g2 (List.getElem?_eq_getElem hpl)
 have g3:(loc.sub.set (i ()) none)[p]?=some s:=g3
 rw [List.getElem?_set] at g3
 split at g3
 ·rename_i e
  rw [if_pos (by omega)] at g3
  cases g3
  obtain ⟨a,cap,ievs,rfl,_⟩:=hold
  exact .inl ⟨e.symm,rfl,trivial,rfl⟩
 ·rename_i e
  rw [List.getElem?_eq_getElem hpl] at g3
  cases g3
  exact .inr ⟨fun h=>e h.symm,hold⟩
theorem Step.drop {A:St} (b:Nat) {g q:Nat} {ess:Unit→List LV} (hb:A.h[b]?=some (.nest g q ess none)) (i:Unit→Nat):Step γ A ⟨A.n,A.s,A.h.set b (.nest g q ess (some (i,.any)))⟩:=
 Step.heap fun B S ρ w hh=>by
  have hlt:b<ρ.length:=by rw [hh.len];exact (List.getElem?_eq_some_iff.1 hb).1
  have:=hh.drop hb i (List.getElem?_eq_getElem hlt)
  exact ⟨_,_,this.1,this.2⟩
theorem Step.take {A:St} (b:Nat) {g q:Nat} {ess:Unit→List LV} (hb:A.h[b]?=some (.nest g q ess none)) (i:Unit→Nat) (hi:∀ _:Unit,i ()<(ess ()).length) :
  Step γ A ⟨A.n,A.s,(A.h.set b (.nest g q ess (some (i,.sl A.h.length 0 q (fun _=>0) fun _=>((ess ()).getD (i ()) .nil).l.length))))++[.run 0 q fun _=>(ess ()).getD (i ()) .nil]⟩:=
 Step.heap fun B S ρ w hh=>by
  have hlt:b<ρ.length:=by rw [hh.len];exact (List.getElem?_eq_some_iff.1 hb).1
  obtain ⟨loc,hl⟩:∃ loc,ρ[b]?=some loc:=⟨_,List.getElem?_eq_getElem hlt⟩
  obtain ⟨d1,d2,d3,evs,d4,d5,d6,d7⟩:=hh.blk b _ loc hb hl
  have hi:=hi ()
  obtain ⟨p1,p2⟩:=hh.drop hb i hl
  have hie:(ess ())[i ()]?=some ((ess ()).getD (i ()) .nil):=by rw [List.getD_eq_getElem?_getD,List.getElem?_eq_getElem hi];rfl
  have hve:evs[i ()]?=some evs[i ()]:=List.getElem?_eq_getElem (by omega)
  have hse:loc.sub[i ()]?=some loc.sub[i ()]:=List.getElem?_eq_getElem (by omega)
  have hin:InR S w q ((ess ()).getD (i ()) .nil) evs[i ()] loc.sub[i ()]:=d7 _ _ _ _ hie hve hse
  generalize hes:(ess ()).getD (i ()) .nil=es at hin hie
  generalize hv:evs[i ()]'(by omega)=v at hin hve
  generalize hs:loc.sub[i ()]'(by omega)=s at hin hse
  obtain ⟨a,cap,ievs,rfl,c2,c3,c4,c5,c6⟩:=hin
  have hil:ievs.length=es.l.length:=Rs_len ((RL_iff _ _ _ _).1 c4)
  -- the run that comes
  obtain ⟨l2,hl2,hbl,hr⟩:∃ l2:Loc,(l2.sub=[]∧l2.k=s∧l2.box=false∧l2.g=0∧l2.e=q)∧(∀ ρ2,BlkR S w ρ2 l2 (.run 0 q fun _=>es)) ∧
    (∀ ρ2:List Loc,R S w (some (ρ2++[l2])) (.sl ρ2.length 0 q (fun _=>0) fun _=>es.l.length) (.slice a ievs.length cap)):=by
   rcases c6 with ⟨rfl,c6⟩ | ⟨K,c,ty,rfl,r2,r3,r4,r5⟩
   ·have:ievs=[]:=List.eq_nil_of_length_eq_zero (by omega)
    subst this
    exact ⟨⟨false,0,none,q,0,[]⟩,⟨rfl,rfl,rfl,rfl,rfl⟩,fun ρ2=>⟨rfl,rfl,rfl,[],c4,fun e he=>(by cases he),.inl ⟨rfl,rfl⟩⟩,
     fun ρ2=>⟨_,_,a,cap,rfl,getElem?_concat _ _,rfl,rfl,Nat.le_refl _,by rw [←hil],by rw [←hil];exact c2,c3,fun _=>.inl ⟨rfl,c6,rfl⟩⟩⟩
   ·exact ⟨⟨false,0,some K,q,c.size,[]⟩,⟨rfl,rfl,rfl,rfl,rfl⟩,fun ρ2=>⟨rfl,rfl,rfl,ievs,c4,c5,.inr ⟨K,c,ty,rfl,r4,rfl,Nat.le_trans (Nat.mul_le_mul_right _ c2) r3,r5⟩⟩,
     fun ρ2=>⟨_,_,a,cap,rfl,getElem?_concat _ _,rfl,rfl,Nat.le_refl _,by rw [←hil],by rw [←hil];exact c2,c3,fun _=>.inr ⟨K,rfl,by simpa using r2,by simpa using r3⟩⟩⟩
  obtain ⟨m1,m2,m3,m4,m5⟩:=hl2
  obtain ⟨q1,q2⟩:=p1.adopt l2 (.run 0 q fun _=>es) m1 (fun K hK=>by
   rw [m2] at hK
   obtain ⟨k1,k2,k3⟩:=hh.own b loc K hl (.inr (by rw [←hK,←hs];exact List.getElem_mem _))
   refine ⟨k1,k2,k3,fun b' l' hb' hK'=>?_⟩
   by_cases e:b=b'
   ·subst e
    rw [List.getElem?_set_self hlt] at hb';cases hb'
    rcases hK' with hK' | hK'
    ·exact (hh.sok b loc hl).out K (by rw [←hK];exact List.mem_of_getElem? hse) hK'
    ·obtain ⟨j,hj,hj2⟩:=List.getElem_of_mem hK'
     have hj3:(loc.sub.set (i ()) none)[j]?=some (some K):=by rw [←hj2];exact List.getElem?_eq_getElem hj
     rw [List.getElem?_set] at hj3
     split at hj3
     ·split at hj3<;>cases hj3
     ·rename_i ne
      exact ne ((hh.sok b loc hl).one j (i ()) K hj3 (by rw [hse,hK])).symm
   ·rw [List.getElem?_set_ne e] at hb'
    exact e (hh.inj b b' loc l' K hl hb' (.inr (by rw [←hK];exact List.mem_of_getElem? hse)) hK')) (hbl _)
  have hρ:(ρ.set b { loc with sub:=loc.sub.set (i ()) none }).length=A.h.length:=by rw [List.length_set,hh.len]
  have hT:=q1.retell b (.nest g q ess (some (i,.sl A.h.length 0 q (fun _=>0) fun _=>((ess ()).getD (i ()) .nil).l.length))) fun loc3 h3=>by
   rw [List.getElem?_append_left (by rw [List.length_set];exact hlt),List.getElem?_set_self hlt] at h3
   cases h3
   refine ⟨d1,d2,d3,evs,d4,d5,by simp [d6],fun p es' v' s' g1 g2 g3=>?_⟩
   have hpl:p<loc.sub.length:=by have:=(List.getElem?_eq_some_iff.1 g2).1;omega
   have hold:InR S w q es' v' loc.sub[p]:=d7 p es' v' _ g1 g2 (List.getElem?_eq_getElem hpl)
   have g3:(loc.sub.set (i ()) none)[p]?=some s':=g3
   rw [List.getElem?_set] at g3
   split at g3
   ·rename_i e
    rw [if_pos (by omega)] at g3
    cases g3
    rw [←e,hve] at g2
    cases g2
    refine .inl ⟨e.symm,rfl,?_,rfl⟩
    have:=hr (ρ.set b { loc with sub:=loc.sub.set (i ()) none })
    rw [hρ] at this
    simp only [hes]
    exact this
   ·rename_i e
    rw [List.getElem?_eq_getElem hpl] at g3
    cases g3
    exact .inr ⟨fun h=>e h.symm,hold⟩
  refine ⟨S,_,?_,p2.trans q2⟩
  rw [List.set_append_left _ _ (by rw [List.length_set];exact (List.getElem?_eq_some_iff.1 hb).1),List.set_set] at hT
  simp only [hes] at hT
  exact hT
end
end Go.AL
namespace Go.AL
open Go Go.RowKit
section
variable {P:Program} {γ:Nat→Option AV}
theorem Step.put {A:St} (b b2:Nat) {g q g2 g3:Nat} {ess:Unit→List LV} {i off len:Unit→Nat} {es:Unit→LV} (hb:A.h[b]?=some (.nest g q ess (some (i,.sl b2 g2 q off len)))) (hb2:A.h[b2]?=some (.run g3 q es))
  (hc:∀ _:Unit,g3=g2∧off ()=0∧len ()=(es ()).l.length) :
  Step γ A ⟨A.n,A.s,(A.h.set b (.nest g q (fun _=>(ess ()).set (i ()) (es ())) none)).set b2 .any⟩:=
 Step.heap fun B S ρ w hh=>by
  obtain ⟨rfl,c0,c1⟩:=hc ()
  have hne:b≠b2:=fun e=>by subst e;rw [hb] at hb2;cases hb2
  have hlt:b<ρ.length:=by rw [hh.len];exact (List.getElem?_eq_some_iff.1 hb).1
  have hlt2:b2<ρ.length:=by rw [hh.len];exact (List.getElem?_eq_some_iff.1 hb2).1
  obtain ⟨loc,hl⟩:∃ loc,ρ[b]?=some loc:=⟨_,List.getElem?_eq_getElem hlt⟩
  obtain ⟨loc2,hl2⟩:∃ loc,ρ[b2]?=some loc:=⟨_,List.getElem?_eq_getElem hlt2⟩
  obtain ⟨d1,d2,d3,evs,d4,d5,d6,d7⟩:=hh.blk b _ loc hb hl
  obtain ⟨f1,f2,f3,ievs,f4,f5,f6⟩:=hh.blk b2 _ loc2 hb2 hl2
  have hil:ievs.length=(es ()).l.length:=Rs_len ((RL_iff _ _ _ _).1 f4)
  have hk2:∀ K,some K∈(loc.sub.set (i ()) loc2.k)→some K∈loc.sub∨loc2.k=some K:=fun K hK=>by
   rcases List.mem_or_eq_of_mem_set hK with hK | hK
   ·exact .inl hK
   ·exact .inr hK.symm
  have hsi:∀ s,loc.sub[i ()]?=some s→s=none:=fun s hs=>by
   have hil':i ()<loc.sub.length:=(List.getElem?_eq_some_iff.1 hs).1
   rcases d7 (i ()) _ _ s (List.getElem?_eq_getElem (by omega)) (List.getElem?_eq_getElem (by omega)) hs with ⟨_,h,_⟩ | ⟨h,_⟩
   ·exact h
   ·exact absurd rfl h
  have hsub:∀ K,loc2.k=some K→¬ some K∈loc.sub∧loc.k≠some K:=fun K hK=>⟨fun h=>hne (hh.inj b b2 loc loc2 K hl hl2 (.inr h) (.inl hK)),fun h=>hne (hh.inj b b2 loc loc2 K hl hl2 (.inl h) (.inl hK))⟩
  have hm:=hh.move (loc':={ loc with sub:=loc.sub.set (i ()) loc2.k }) (loc2':={ loc2 with g:=g3+1,k:=none,size:=0,sub:=[] }) (blk':=.nest g q (fun _=>(ess ()).set (i ()) (es ())) none) hne hl hl2 (.inl ⟨_,rfl⟩)
   (.inr (.inl ⟨f1,f1,by show loc2.g<g3+1;omega,rfl⟩))
   (fun K hK=>by
    rcases hK with hK | hK
    ·exact .inl (.inl hK)
    ·rcases hk2 K hK with h | h
     ·exact .inl (.inr h)
     ·exact .inr (.inl h))
   (fun K hK=>by rcases hK with hK | hK<;>first | (cases hK;done) | exact absurd hK (by simp))
   ⟨fun K hK hk=>by
    rcases hk2 K hK with h | h
    ·exact (hh.sok b loc hl).out K h hk
    ·exact (hsub K h).2 hk,fun x y K hx hy=>by
    have key:∀ x,(loc.sub.set (i ()) loc2.k)[x]?=some (some K)→(x=i ()∧loc2.k=some K)∨(x≠i ()∧loc.sub[x]?=some (some K)):=fun x hx=>by
     rw [List.getElem?_set] at hx
     split at hx
     ·rename_i e
      split at hx
      ·left;exact ⟨e.symm,by simpa using hx⟩
      ·cases hx
     ·rename_i e;exact .inr ⟨fun h=>e h.symm,hx⟩
    rcases key x hx with ⟨x1,x2⟩ | ⟨x1,x2⟩<;>rcases key y hy with ⟨y1,y2⟩ | ⟨y1,y2⟩
    ·omega
    ·exact absurd (List.mem_of_getElem? y2) (hsub K x2).1
    ·exact absurd (List.mem_of_getElem? x2) (hsub K y2).1
    ·exact (hh.sok b loc hl).one x y K x2 y2⟩ rfl
   ⟨d1,d2,d3,evs,d4,by simp [d5],by simp [d6],fun p es' v s g1 g2 g4=>by
    have hpl:p<evs.length:=(List.getElem?_eq_some_iff.1 g2).1
    by_cases hp:p=i ()
    ·subst hp
     have g1:((ess ()).set (i ()) (es ()))[i ()]?=some es':=g1
     rw [List.getElem?_set_self (by omega)] at g1
     cases g1
     have g4:(loc.sub.set (i ()) loc2.k)[i ()]?=some s:=g4
     rw [List.getElem?_set_self (by omega)] at g4
     cases g4
     rcases d7 (i ()) _ _ _ (List.getElem?_eq_getElem (by omega)) g2 (List.getElem?_eq_getElem (by omega)) with ⟨_,_,hr,_⟩ | ⟨h,_⟩
     ·obtain ⟨l,lc,a,cap,e0,q1,q2,q3,q4,rfl,q6,q7,q8⟩:=hr
      cases e0
      rw [hl2] at q1;cases q1
      refine ⟨a,cap,ievs,by rw [c1,hil],by omega,q7,f4,f5,?_⟩
      rcases q8 f2 with ⟨r1,r2,_⟩ | ⟨K,r1,r2,r3⟩
      ·exact .inl ⟨r1,r2⟩
      ·rcases f6 with ⟨e1,_⟩ | ⟨K',c,ty,e1,e2,e3,e4,e5⟩
       ·rw [r1] at e1;cases e1
       ·rw [r1] at e1;cases e1
        rw [c0,Nat.zero_mul] at r2
        rw [c0,Nat.zero_add,f3] at r3
        rw [f3] at e5
        exact .inr ⟨K,c,ty,r1,r2,by omega,e2,e5⟩
     ·exact absurd rfl h
    ·have g1:((ess ()).set (i ()) (es ()))[p]?=some es':=g1
     rw [List.getElem?_set_ne (fun e=>hp e.symm)] at g1
     have g4:(loc.sub.set (i ()) loc2.k)[p]?=some s:=g4
     rw [List.getElem?_set_ne (fun e=>hp e.symm)] at g4
     rcases d7 p es' v s g1 g2 g4 with ⟨h,_⟩ | ⟨_,h⟩
     ·exact absurd h hp
     ·exact h⟩
  exact ⟨S,_,hm.1,hm.2⟩
theorem Step.takeE {A:St} (b:Nat) {g q:Nat} {ess:Unit→List LV} (hb:A.h[b]?=some (.nest g q ess none)) (i:Unit→Nat) (es:Unit→LV) (len:Unit→Nat) (hi:∀ _:Unit,i ()<(ess ()).length)
  (he:∀ _:Unit,(ess ()).getD (i ()) .nil=es ()∧(es ()).l.length=len ()):Step γ A ⟨A.n,A.s,(A.h.set b (.nest g q ess (some (i,.sl A.h.length 0 q (fun _=>0) len))))++[.run 0 q es]⟩:=by
 have h:=Step.take (γ:=γ) b hb i hi
 have e1:(fun _:Unit=>(ess ()).getD (i ()) .nil)=es:=funext fun _=>(he ()).1
 have e2:(fun _:Unit=>((ess ()).getD (i ()) .nil).l.length)=len:=funext fun _=>by rw [(he ()).1];exact (he ()).2
 rw [e1,e2] at h
 exact h
theorem Step.putE {A:St} (b b2:Nat) {g q g2 g3:Nat} {ess:Unit→List LV} {i off len:Unit→Nat} {es:Unit→LV} (ess':Unit→List LV) (hb:A.h[b]?=some (.nest g q ess (some (i,.sl b2 g2 q off len)))) (hb2:A.h[b2]?=some (.run g3 q es))
  (hc:∀ _:Unit,(g3=g2∧off ()=0∧len ()=(es ()).l.length)∧(ess ()).set (i ()) (es ())=ess' ()) :
  Step γ A ⟨A.n,A.s,(A.h.set b (.nest g q ess' none)).set b2 .any⟩:=by
 have h:=Step.put (γ:=γ) b b2 hb hb2 fun _=>(hc ()).1
 have e1:(fun _:Unit=>(ess ()).set (i ()) (es ()))=ess':=funext fun _=>(hc ()).2
 rw [e1] at h
 exact h
theorem Step.unrun {A:St} (b q:Nat) {g:Nat} {es:Unit→LV} (hb:A.h[b]?=some (.run g 1 es)):Step γ A ⟨A.n,A.s,A.h.set b (.nest g q (fun _=>[]) none)⟩:=
 Step.heap fun B S ρ w hh=>by
  have hlt:b<ρ.length:=by rw [hh.len];exact (List.getElem?_eq_some_iff.1 hb).1
  obtain ⟨loc,hl⟩:∃ loc,ρ[b]?=some loc:=⟨_,List.getElem?_eq_getElem hlt⟩
  obtain ⟨f1,f2,f3,ievs,f4,f5,f6⟩:=hh.blk b _ loc hb hl
  have:=hh.updS (loc':={ loc with sub:=[] }) (blk':=.nest g q (fun _=>[]) none) (w':=w) hl (.inl ⟨_,rfl⟩) (fun K hK=>.inl (.inl (Loc.has_nil (l:={ loc with sub:=[] }) rfl hK))) (Fr.refl w) (fun _ _ _=>rfl)
   ⟨f1,f2,f3,[],by
    rcases f6 with ⟨e1,_⟩ | ⟨K',c,ty,e1,e2,e3,e4,e5⟩
    ·exact .inl ⟨e1,rfl⟩
    ·exact .inr ⟨K',c,ty,e1,e2,e3,Nat.zero_le _,fun i e h=>by simp at h⟩,rfl,rfl,fun p es v s g1=>by simp at g1⟩ (.nil rfl)
  exact ⟨S,_,this.1,this.2⟩
end
end Go.AL
namespace Go.AL
open Go Go.RowKit
section
variable {P:Program} {γ:Nat→Option AV} {τ:Nat→TI} {C:EC} {CQ:List Blk→QC}
variable {ro:Option Nat} {ds:List Deferred}
structure EnvX (P:Program) (γ:Nat→Option AV) (C:EC) (CQ:List Blk→QC) (T:Nat→TI) (D:Array Oper→(St→Prop)→St→Prop):Prop where
 c:∀ {f args h Q},SCalls P γ f args h Q→C (.inl f) args h Q
 q:∀ {h f args k},QCalls P γ h f args k→CQ h f args k
 d:∀ n {ops K A},drawB ops n=true→vhd T γ CQ ops (ops.toList.take n) A (fun A=>vops T γ C ops.toList (ops.toList.drop n) A K)→D ops K A
end
end Go.AL
namespace Go.AL
open Go Go.RowKit
section
variable {P:Program} {γ:Nat→Option AV}
end
end Go.AL
namespace Go.AL
open Go Go.RowKit
section
variable {P:Program} {γ:Nat→Option AV}
end
end Go.AL
namespace Go.AL
open Go Go.RowKit
section
variable {P:Program} {γ:Nat→Option AV}
def mark (D:Nat):Deferred:={ target:=.collected D,args:=#[] }
end
end Go.AL
namespace Go.AL
open Go Go.RowKit
section
variable {P:Program} {γ:Nat→Option AV}
end
end Go.AL
namespace Go.AL
open Go Go.RowKit
section
variable {P:Program} {γ:Nat→Option AV}
theorem Rs_nils {S:Nat→Prop} {w:World} {ρ:Option (List Loc)}:∀ (n:Nat) (evs:List Value),Rs S w ρ (List.replicate n .nils) evs→evs.length=n∧∀ v∈evs,∃ a,v=.slice a 0 0
 | 0,evs,h=>by
  have:evs=[]:=h
  subst this;exact ⟨rfl,fun v hv=>by cases hv⟩
 | n+1,evs,h=>by
  obtain ⟨x,xs,rfl,h2,h3⟩:=h
  obtain ⟨e1,e2⟩:=Rs_nils n xs h3
  refine ⟨by simp [e1],fun v hv=>?_⟩
  rcases List.mem_cons.1 hv with rfl | hv
  ·exact h2
  ·exact e2 v hv
theorem Step.nilsN {A:St} (b q n:Nat) {g:Nat} {es:Unit→LV} (hb:A.h[b]?=some (.run g 1 es)) (he:es ()=LV.of (List.replicate n .nils)):Step γ A ⟨A.n,A.s,A.h.set b (.nest g q (fun _=>List.replicate n .nil) none)⟩:=
 Step.heap fun B S ρ w hh=>by
  have hlt:b<ρ.length:=by rw [hh.len];exact (List.getElem?_eq_some_iff.1 hb).1
  obtain ⟨loc,hl⟩:∃ loc,ρ[b]?=some loc:=⟨_,List.getElem?_eq_getElem hlt⟩
  obtain ⟨f1,f2,f3,ievs,f4,f5,f6⟩:=hh.blk b _ loc hb hl
  rw [he,RL_iff,LV.l_of] at f4
  obtain ⟨n1,n2⟩:=Rs_nils n ievs f4
  have:=hh.updS (loc':={ loc with sub:=List.replicate n none }) (blk':=.nest g q (fun _=>List.replicate n .nil) none) (w':=w) hl (.inl ⟨_,rfl⟩) (fun K hK=>by
    rcases hK with hK | hK
    ·exact .inl (.inl hK)
    ·have:=List.eq_of_mem_replicate hK;cases this) (Fr.refl w) (fun _ _ _=>rfl)
   ⟨f1,f2,f3,ievs,by
    rcases f6 with ⟨e1,e2⟩ | ⟨K',c,ty,e1,e2,e3,e4,e5⟩
    ·exact .inl ⟨e1,e2⟩
    ·refine .inr ⟨K',c,ty,e1,e2,e3,by rw [f3,Nat.mul_one] at e4;exact e4,fun i e h=>?_⟩
     obtain ⟨a,rfl⟩:=n2 e (List.mem_of_getElem? h)
     have:=(e5 i _ h).2 0 (.slice a 0 0) rfl
     rw [f3,Nat.mul_one,Nat.add_zero] at this
     exact this,by simp [n1],by simp [n1],fun p es v s g1 g2 g3=>by
    obtain ⟨a,rfl⟩:=n2 v (List.mem_of_getElem? g2)
    have e1:=List.eq_of_mem_replicate (List.mem_of_getElem? g1)
    have e2:=List.eq_of_mem_replicate (List.mem_of_getElem? g3)
    subst e1 e2
    exact ⟨a,0,[],rfl,Nat.le_refl _,.inl rfl,rfl,fun e he=>(by cases he),.inl ⟨rfl,rfl⟩⟩⟩
   ⟨fun K hK=>(by have:=List.eq_of_mem_replicate hK;cases this),fun i j K h1=>(by have:=List.eq_of_mem_replicate (List.mem_of_getElem? h1);cases this)⟩
  exact ⟨S,_,this.1,this.2⟩
theorem SCalls.nilrun (k:Nat) {f:FuncId} {args:List AV} {h:List Blk} {Q:AV→List Blk→Prop}
  (hc:SCalls P γ f args h fun v h'=>Q v h'∨(v=.nils∧Q (.sl h'.length 0 k (fun _=>0) fun _=>0) (h'++[.run 0 k fun _=>.nil]))):SCalls P γ f args h Q:=by
 refine ⟨hc.1,fun B S ρ w vals hh hr=>(hc.2 B S ρ w vals hh hr).mono fun e w' ⟨v,h',S',ρ',v',h1,h2,h3,h4,h5⟩=>?_⟩
 rcases h2 with h2 | ⟨rfl,h2⟩
 ·exact ⟨v,h',S',ρ',v',h1,h2,h3,h4,h5⟩
 ·obtain ⟨a,rfl⟩:=h3
  obtain ⟨p1,p2⟩:=h4.ghost ⟨false,0,none,k,0,[]⟩ rfl (.run 0 k fun _=>.nil) ⟨rfl,rfl,rfl,[],rfl,fun e he=>(by cases he),.inl ⟨rfl,rfl⟩⟩
  exact ⟨_,_,S',_,_,h1,h2,⟨_,_,a,0,rfl,by rw [←h4.len];exact getElem?_concat _ _,rfl,rfl,Nat.le_refl _,rfl,Nat.le_refl _,.inl rfl,fun _=>.inl ⟨rfl,rfl,rfl⟩⟩,p1,h5.trans p2⟩
theorem Env.loopCA {C:EC} {CQ:List Blk→QC} {T:Nat→TI} {D:Array Oper→(St→Prop)→St→Prop} {W:Code→(Exit→St→Prop)→St→Prop} (_:Env P γ C CQ T D W) {c:Code} {Q:Exit→St→Prop} {A:St} {ι:Type} (ok:ι→Prop) (m:ι→Nat) (upd:ι→List (Nat × AV)) (hp:ι→List Blk) (j0:ι)
  (hA:A.h.length=(hp j0).length) (hn:∀ j,(hp j).length=(hp j0).length) (hok:ok j0) (h0:leSt (hp j0).length (headSt c A (upd j0) (hp j0)) A)
  (round:∀ j,ok j→∀ (I:St→Prop),(∀ {A'} j',ok j'→m j'<m j→leSt (hp j0).length (headSt c A (upd j') (hp j')) A'→I A')→AWPl P γ (hp j0).length (citems c) (thenE I Q) (headSt c A (upd j) (hp j))):AWP P γ (.loop c) Q A:=
 AWP.loopI (ι:=ι) (hp j0).length (fun j=>headSt c A (upd j) (hp j)) ok m j0 hA hn ⟨hok,h0⟩ fun j hj=>AWPr.to (by
  show AWPr P γ (hp j).length c _ _
  rw [hn j]
  exact AWPr.of_items c (round j hj _ fun j' h1 h2 h3=>⟨j',h1,h2,h3⟩))
theorem AWPl.blockS {n id:Nat} {c:Code} {r:List Code} {Q:Exit→St→Prop} {A:St} (h:∀ J:St→Prop,(∀ {A'},AWPl P γ n r Q A'→J A')→AWPl P γ n (citems c) (inBlk id (thenE J Q)) A):AWPl P γ n (.block id c :: r) Q A:=
 AWPl.block (h (fun A=>AWPl P γ n r Q A) fun h=>h)
end
end Go.AL
namespace Go.AL
open Go Go.RowKit
section
variable {P:Program} {γ:Nat→Option AV} {C:EC} {CQ:List Blk→QC} {T:Nat→TI} {D:Array Oper→(St→Prop)→St→Prop} {W:Code→(Exit→St→Prop)→St→Prop}
end
end Go.AL
namespace Go.AL.Rl
open Go Go.AL Go.Proofs
set_option maxRecDepth 100000
set_option maxHeartbeats 3200000
variable {γ:Nat→Option AV}
abbrev gz:Gr:=⟨[],[],[],[]⟩
end Go.AL.Rl
namespace Go.AL.Rl
open Go Go.AL Go.Proofs
set_option maxRecDepth 100000
set_option maxHeartbeats 3200000
variable {γ:Nat→Option AV}
def lastK (ms:List Mk) (d:Mk):Nat→Option Nat
 | 0=>none
 | n+1=>if ms.getD n mk0=d then some n else lastK ms d n
def plK (ms:List Mk) (d:Mk):Int:=match lastK ms d ms.length with | some k=>(k:Nat) | none=>-1
def scanK (p:Mk→Int) (l:List Mk):Option Int:=l.foldl (fun s d=>s.bind fun x=>if x<p d then some (p d) else none) (some (-1))
def needE (t:Nat) (l:List Ev) (i:Nat):List Mk:=(List.range i).flatMap fun (j:Nat)=>needM ⟨(t:Int)+1,(j:Int)⟩ (l.getD j ev0).kind
def cntN (g:Gr) (t:Nat):Nat:=((List.range t).map fun k=>(needE k (g.th.getD k []) (g.th.getD k []).length).length).sum
def markedM (g:Gr) (ms:List Mk):Bool:=decide (∀ t<g.th.length,(scanK (plK ms) (needE t (g.th.getD t []) (g.th.getD t []).length)).isSome=true) && decide (cntN g g.th.length=ms.length)
end Go.AL.Rl
namespace Go.AL.Rl
open Go Go.AL Go.Proofs
set_option maxRecDepth 100000
set_option maxHeartbeats 3200000
variable {γ:Nat→Option AV}
end Go.AL.Rl
namespace Go.AL.Rl
open Go Go.AL Go.Proofs
set_option maxRecDepth 100000
set_option maxHeartbeats 3200000
variable {γ:Nat→Option AV}
end Go.AL.Rl
namespace Go.AL.Rl
open Go Go.AL Go.Proofs
set_option maxRecDepth 100000
set_option maxHeartbeats 3200000
variable {γ:Nat→Option AV}
def halfOk (s:Sta):Bool:=decide (0≤s.half) && decide (s.half≤s.g.th.length) && (decide (s.half=0) || (decide ((s.g.th.getD (s.half-1).toNat []).length≠0) && decide (((s.g.th.getD (s.half-1).toNat []).getD ((s.g.th.getD (s.half-1).toNat []).length-1) ev0).kind=1)))
def SOk (s:Sta):Prop:=GOk s.g∧markedM s.g s.ms=true∧halfOk s=true
instance (s:Sta):Decidable (SOk s):=inferInstanceAs (Decidable (_∧_))
end Go.AL.Rl
namespace Go.AL.Rl
open Go Go.AL Go.Proofs
set_option maxRecDepth 100000
set_option maxHeartbeats 3200000
variable {γ:Nat→Option AV}
abbrev sz:Sta:=⟨gz,[],0⟩
end Go.AL.Rl
namespace Go.AL.Rl
open Go Go.AL Go.Proofs
set_option maxRecDepth 100000
set_option maxHeartbeats 3200000
variable {γ:Nat→Option AV}
theorem kids_ok (a b:List EId) (ha:(a.length:Int)≤9223372036854775807):Pure Tryz.prog γ false 10 [.vs 2 fun _=>ids a,.vs 2 fun _=>ids b] (.b fun _=>decide (a=b)):=by
 refine Pure.go (ty:=ty) ty_eq mo Tryz.func10 rfl Tryz.ntmps10 Tryz.results10 Tryz.call10 (by simp) fun P C CQ D W F E hF=>?_
 cbv
 repeat' (first
  |(refine ⟨fun _ h_s=>?_,fun _ h_s=>?_⟩<;>(cbv;(try simp only [nc] at *);try simp (disch:=(first|omega|(simp only [lnS];omega))) only [rdT,rdS,reduceCtorEq,trT] at h_s))
  |(refine hF ?_;intro _;clear hF)
  |(refine hF ?_;cbv;clear hF)
  |(refine ⟨fun _=>?_,?_⟩;(· ((try simp only [nc] at *);first|done|omega|exact ⟨by omega,rfl⟩|(simp (disch:=(first|omega|(simp only [lnS];omega))) only [rdT,rdS];first|done|omega|rfl|exact ⟨by omega,rfl⟩|(simp;done)|(simp;omega))|(intros;trivial)));(try (simp only [nc] at *));(try simp (disch:=(first|omega|(simp only [lnS];omega))) only [rdT,rdS]);(try cbv))
  |(refine E.d 8 (by decide +kernel) ?_;cbv;(fail_if_success guard_target =~ False))
  | fail
 )
 ·simp
  intro e;subst e;simp_all
 ·refine E.loopS (ι:=Nat) (fun i=>i≤a.length∧(∀ k<i,a.getD k id0=b.getD k id0)) (fun i=>a.length-i) (fun i=>[(5,.i fun _=>((i:Nat):Int))]) (fun i h=>h) 0 (fun _=>by first|rfl|simp) ⟨Nat.zero_le _,?_⟩ ?_ fun i hi I hI=>?_
  ·intro k hk;omega
  ·cbv;simp
  cbv
  obtain ⟨hi,hp⟩:=hi
  repeat' (first
   |(refine hI (i+1) ?_ ?_ ?_;rotate_left 1;(· ((try simp only [nc] at *);omega));(cbv;clear hI;(try clear hF);(try simp only [nc] at *);(try simp (disch:=(first|omega|(simp only [lnS];omega))) only [rdT,rdS,anT]));rotate_left 1;(try ((try simp only [nc] at *);omega)))
   |(refine ⟨fun _ h_s=>?_,fun _ h_s=>?_⟩<;>(cbv;(try simp only [nc] at *);try simp (disch:=(first|omega|(simp only [lnS];omega))) only [rdT,rdS,reduceCtorEq,trT] at h_s))
   |(refine hF ?_;intro _;clear hF)
   |(refine hF ?_;cbv;clear hF)
   |(refine ⟨fun _=>?_,?_⟩;(· ((try simp only [nc] at *);first|done|omega|exact ⟨by omega,rfl⟩|(simp (disch:=(first|omega|(simp only [lnS];omega))) only [rdT,rdS];first|done|omega|rfl|exact ⟨by omega,rfl⟩|(simp;done)|(simp;omega))|(intros;trivial)));(try (simp only [nc] at *));(try simp (disch:=(first|omega|(simp only [lnS];omega))) only [rdT,rdS]);(try cbv))
   |(refine E.d 8 (by decide +kernel) ?_;cbv;(fail_if_success guard_target =~ False))
   | fail
  )
  ·refine decide_eq_false fun e=>?_
   subst e
   simp at h_s
  ·refine ⟨by ((try simp only [nc] at *);omega),fun k hk=>?_⟩
   rcases Nat.lt_or_ge k i with h1 | h1
   ·exact hp k h1
   ·obtain rfl:k=i:=by omega
    have h2:(a.getD k id0).t=(b.getD k id0).t∧(a.getD k id0).i=(b.getD k id0).i:=by simpa using h_s
    exact EId.ext' h2.1 h2.2
  ·push_cast;rfl
  ·refine decide_eq_true (List.ext_getElem (by ((try simp only [nc] at *);omega)) fun k h1 h2=>?_)
   have:=hp k (by ((try simp only [nc] at *);omega))
   simpa [h1,h2] using this
end Go.AL.Rl
namespace Go.AL.Rl
open Go Go.AL Go.Proofs
set_option maxRecDepth 100000
set_option maxHeartbeats 3200000
variable {γ:Nat→Option AV}
end Go.AL.Rl
namespace Go.AL.Rl
open Go Go.AL Go.Proofs
set_option maxRecDepth 100000
set_option maxHeartbeats 3200000
def evT (g:Gr) (d:EId):Prop:=1≤d.t∧d.t≤g.th.length∧0≤d.i∧d.i<(g.th.getD (d.t-1).toNat []).length
theorem evT_iff {g:Gr} {d:EId}:evT g d↔d∈idsT g g.th.length:=(idsT_mem (g:=g) (t:=g.th.length) (d:=d)).symm
def ahead (g:Gr) (a d:EId):Prop:=(a.t=d.t∧a.i<d.i)∨(readsM ((eventM g d).getD ev0)=true∧srcOf g d=a)
def Dn (g:Gr) (l:List EId):Prop:=∀ d∈l,∀ a,evT g a→ahead g a d→a∈l
def ClG (g:Gr) (l:List EId):Prop:=l.Nodup∧(∀ d∈l,evT g d)∧Dn g l
end Go.AL.Rl
namespace Go.AL.Rl
open Go Go.AL Go.Proofs
set_option maxRecDepth 100000
set_option maxHeartbeats 3200000
section
variable {g:Gr} {l:List EId} (hg:GOk g) (hC:ClG g l)
include hg hC
omit hg hC in
theorem event_T {g:Gr} {d:EId} (h:evT g d):eventM g d=some ((g.th.getD (d.t-1).toNat []).getD d.i.toNat ev0):=by
 unfold eventM
 obtain ⟨h1,h2,h3,h4⟩:=h
 rw [if_neg (by omega),if_pos ⟨by omega,h2,h3,h4⟩]
end
end Go.AL.Rl
namespace Go.AL.Rl
open Go Go.AL Go.Proofs
set_option maxRecDepth 100000
set_option maxHeartbeats 3200000
section
variable {g:Gr} {l:List EId} (hg:GOk g) (hC:ClG g l)
include hg hC
end
end Go.AL.Rl
namespace Go.AL.Rl
open Go Go.AL Go.Proofs
set_option maxRecDepth 100000
set_option maxHeartbeats 1600000
variable {γ:Nat→Option AV}
structure Ft where
 a:Int
 b:Int
 br:Bool
abbrev aFt (f:Ft):AV:=.agg [.i fun _=>f.a,.i fun _=>f.b,.b fun _=>f.br]
def ft0:Ft:=⟨0,0,false⟩
def leadM (p:Nat→Bool) (n:Nat):Option Nat:=(List.range n).find? p
theorem leadM_succ (p:Nat→Bool) (n:Nat):leadM p (n+1)=(leadM p n).or (if p n=true then some n else none):=by
 unfold leadM
 rw [List.range_succ,List.find?_append]
 congr 1
 by_cases h:p n=true
 ·rw [if_pos h,List.find?_cons_of_pos h]
 ·rw [if_neg h,List.find?_cons_of_neg h];rfl
theorem leadM_none {p:Nat→Bool}:∀ {n:Nat},(∀ k<n,p k=false)→leadM p n=none
 | 0,_=>rfl
 | n+1,h=>by rw [leadM_succ,leadM_none fun k hk=>h k (by omega),h n (by omega)];rfl
theorem leadM_some {p:Nat→Bool} {i:Nat} (hi:p i=true) (hb:∀ k<i,p k=false):∀ {n:Nat},i<n→leadM p n=some i
 | n+1,h=>by
  rw [leadM_succ]
  by_cases e:n=i
  ·subst e;rw [leadM_none hb,if_pos hi];rfl
  ·rw [leadM_some hi hb (n:=n) (by omega)];rfl
theorem leadM_mem {p:Nat→Bool} {i:Nat}:∀ {n:Nat},leadM p n=some i→i<n∧p i=true∧∀ k<i,p k=false
 | 0,h=>by cases h
 | n+1,h=>by
  rw [leadM_succ] at h
  cases hf:leadM p n with
  | some j=>rw [hf] at h;cases h;have:=leadM_mem hf;exact ⟨by omega,this.2⟩
  | none=>
   rw [hf] at h
   by_cases hp:p n=true
   ·simp [hp] at h;subst h
    refine ⟨by omega,hp,fun k hk=>?_⟩
    have hn:=List.find?_eq_none.1 hf k (by simpa using hk)
    simpa using hn
   ·simp [hp] at h
theorem leadM_nothing {p:Nat→Bool} {n:Nat} (h:leadM p n=none):∀ k<n,p k=false:=fun k hk=>by
 have hn:=List.find?_eq_none.1 h k (by simpa using hk)
 simpa using hn
def ftOf:Option Nat→Ft
 | some i=>⟨i,-1,true⟩
 | none=>ft0
def circF (rows:List (BitVec 64)):Ft:=ftOf (leadM (fun i=>bit rows i i) rows.length)
theorem circF_at {rows:List (BitVec 64)} {i:Nat} (hi:i<rows.length) (h:bit rows i i=true) (hb:∀ k<i,bit rows k k=false):circF rows=⟨i,-1,true⟩:=by
 unfold circF;rw [leadM_some (p:=fun i=>bit rows i i) h hb hi];rfl
theorem circF_no {rows:List (BitVec 64)} (hb:∀ k<rows.length,bit rows k k=false):circF rows=⟨0,0,false⟩:=by
 unfold circF;rw [leadM_none (p:=fun i=>bit rows i i) hb];rfl
def updB (V:Vw) (k:Nat):Bool:=decide ((V.ev.getD k ev0).kind=3) && decide (V.pl.getD k 0≠V.pl.getD (V.fr.getD k 0).toNat 0+1)
def updF (V:Vw) (n:Nat):Ft:=ftOf (leadM (updB V) n)
theorem updF_at {V:Vw} {n i:Nat} (hi:i<n) (h:updB V i=true) (hb:∀ k<i,updB V k=false):updF V n=⟨i,-1,true⟩:=by
 unfold updF;rw [leadM_some h hb hi];rfl
theorem updF_no {V:Vw} {n:Nat} (hb:∀ k<n,updB V k=false):updF V n=⟨0,0,false⟩:=by
 unfold updF;rw [leadM_none hb];rfl
def cohB (hb eco:List (BitVec 64)) (a b:Nat):Bool:=decide (a≠b) && bit hb a b && bit eco b a
def cohR (hb eco:List (BitVec 64)) (a:Nat):Option Nat:=leadM (cohB hb eco a) eco.length
def cohF (hb eco:List (BitVec 64)):Ft:=
 match leadM (fun a=>(cohR hb eco a).isSome) hb.length with
 | some a=>⟨a,((cohR hb eco a).getD 0:Nat),true⟩
 | none=>ft0
theorem cohF_at {hb eco:List (BitVec 64)} {a b:Nat} (ha:a<hb.length) (hbl:b<eco.length) (h:cohB hb eco a b=true) (hr:∀ k<b,cohB hb eco a k=false) (hp:∀ k<a,∀ j<eco.length,cohB hb eco k j=false) :
  cohF hb eco=⟨a,b,true⟩:=by
 have e1:cohR hb eco a=some b:=leadM_some h hr hbl
 have e2:leadM (fun a=>(cohR hb eco a).isSome) hb.length=some a:=leadM_some (by simp [e1]) (fun k hk=>by
  have:cohR hb eco k=none:=leadM_none (hp k hk)
  simp [this]) ha
 unfold cohF;rw [e2];simp [e1]
theorem cohF_no {hb eco:List (BitVec 64)} (hp:∀ k<hb.length,∀ j<eco.length,cohB hb eco k j=false):cohF hb eco=⟨0,0,false⟩:=by
 have e2:leadM (fun a=>(cohR hb eco a).isSome) hb.length=none:=leadM_none fun k hk=>by
  have:cohR hb eco k=none:=leadM_none (hp k hk)
  simp [this]
 unfold cohF;rw [e2];rfl
def togF (V:Vw) (n:Nat):List (BitVec 64):=orM n [((n:Int),poF V n),((n:Int),rfF V n),((n:Int),coF V n),((n:Int),frF V n)]
noncomputable def fltM (V:Vw) (n:Nat) (k:Int):Ft:=
 if k=2 then updF V n else if k=3 then circF (porfF V n) else if k=4 then circF (hbF V n) else if k=5 then cohF (hbF V n) (ecoF V n) else if k=6 then circF (plusM n (togF V n)) else ft0
def rulesM (m:Int):List Int:=if m=1 then [1,2,6] else if m=2 then [1,2,3,4,5] else []
structure Bk where
 rule:Int
 a:Int
 b:Int
 br:Bool
end Go.AL.Rl
namespace Go.AL.Rl
open Go Go.AL Go.Proofs
set_option maxRecDepth 100000
set_option maxHeartbeats 1600000
variable {γ:Nat→Option AV}
end Go.AL.Rl
namespace Go.AL.Rl
open Go Go.AL Go.Proofs
set_option maxRecDepth 100000
set_option maxHeartbeats 1600000
variable {γ:Nat→Option AV}
end Go.AL.Rl
namespace Go.AL.Rl
open Go Go.AL Go.Proofs
set_option maxRecDepth 100000
set_option maxHeartbeats 1600000
variable {γ:Nat→Option AV}
theorem ids14_ok (g:Gr) (hs:Short g):Pure Tryz.prog γ false 118 [aGr g] (.vs 2 fun _=>ids (idsG g)):=by
 have hin:=hs.init
 have hth:=hs.th
 have hg:∀ t,(g.th.getD t []).length≤14:=hs.at
 obtain ⟨L,hL⟩:∃ L:Nat→List EId,∀ x,L x=idsI x:=⟨_,fun _=>rfl⟩
 obtain ⟨L2,hL2⟩:∃ L2:Nat→Nat→List EId,∀ t i,L2 t i=idsI g.init.length++idsT g t++idsE t i:=⟨_,fun _ _=>rfl⟩
 have l0:L 0=[]:=by rw [hL];rfl
 have lS:∀ x,L (x+1)=L x++[⟨0,x⟩]:=fun x=>by rw [hL,hL,idsI_succ]
 have lL:∀ x,(L x).length=x:=fun x=>by rw [hL,idsI_len]
 have lE:L g.init.length=L2 0 0:=by rw [hL,hL2];simp [idsT,idsE]
 have mS:∀ t i,L2 t (i+1)=L2 t i++[⟨t+1,i⟩]:=fun t i=>by rw [hL2,hL2,idsE_succ];simp only [List.append_assoc]
 have mE:∀ t,L2 t (g.th.getD t []).length=L2 (t+1) 0:=fun t=>by rw [hL2,hL2,idsT_succ];simp [idsE]
 have mF:L2 g.th.length 0=idsG g:=by rw [hL2];simp [idsE,idsG]
 have mL:∀ t i,(L2 t i).length≤6+14 * t+i:=fun t i=>by
  have:=evsT_len hs t
  rw [hL2];simp only [List.length_append,idsI_len,idsE_len,idsT_len];omega
 obtain ⟨G,hG⟩:∃ G:List EId→Nat,∀ l,G l=l.length:=⟨_,fun _=>rfl⟩
 have hG0:G []=0:=by rw [hG];rfl
 refine Pure.go (ty:=ty) ty_eq mo Tryz.func118 rfl Tryz.ntmps118 Tryz.results118 Tryz.call118 (by simp) fun P C CQ D W F E hF=>?_
 cbv
 repeat' (first
  |(refine ⟨fun _ h_s=>?_,fun _ h_s=>?_⟩<;>(cbv;(try simp only [nc] at *);try simp (disch:=(first|omega|(simp only [lnS];omega))) only [rdT,rdS,reduceCtorEq,trT] at h_s))
  |(refine hF ?_;intro _;clear hF)
  |(refine hF ?_;cbv;clear hF)
  |(refine ⟨fun _=>?_,?_⟩;(· ((try simp only [nc] at *);first|done|omega|exact ⟨by omega,rfl⟩|(simp (disch:=(first|omega|(simp only [lnS];omega))) only [rdT,rdS];first|done|omega|rfl|exact ⟨by omega,rfl⟩|(simp;done)|(simp;omega))|(intros;trivial)));(try (simp only [nc] at *));(try simp (disch:=(first|omega|(simp only [lnS];omega))) only [rdT,rdS]);(try cbv))
  | fail
 )
 refine E.w (AWP.ghostSlot 3 2 rfl (by omega) (E.loopSA (ι:=Nat) (fun x=>x≤g.init.length) (fun x=>g.init.length-x) (fun x=>[(4,.i fun _=>((x:Nat):Int)),(3,.sl 1 (G (L x)) 2 (fun _=>0) fun _=>(L x).length)]) (fun x h=>h.set 1 (.run (G (L x)) 2 fun _=>ids (L x))) 0 (fun _=>by first | rfl | simp) (Nat.zero_le _) ?_ fun x hx I hI=>?_))
 ·cbv;simp [l0,hG0,ids,LV.of]
 cbv
 have e1:=lS x
 have e2:=lL x
 skip
 repeat' (first
  |(refine hI (x+1) ?_ ?_ ?_;rotate_left 1;(· ((try simp only [nc] at *);omega));(cbv;clear hI;(try clear hF);(try simp only [nc] at *);(try simp (disch:=(first|omega|(simp only [lnS];omega))) only [rdT,rdS,anT]));rotate_left 1;(try ((try simp only [nc] at *);omega)))
  |(refine ⟨fun _ h_s=>?_,fun _ h_s=>?_⟩<;>(cbv;(try simp only [nc] at *);try simp (disch:=(first|omega|(simp only [lnS];omega))) only [rdT,rdS,reduceCtorEq,trT] at h_s))
  |(refine hF ?_;intro _;clear hF)
  |(refine hF ?_;cbv;clear hF)
  |(refine ⟨fun _=>?_,?_⟩;(· ((try simp only [nc] at *);first|done|omega|exact ⟨by omega,rfl⟩|(simp (disch:=(first|omega|(simp only [lnS];omega))) only [rdT,rdS];first|done|omega|rfl|exact ⟨by omega,rfl⟩|(simp;done)|(simp;omega))|(intros;trivial)|exact ⟨by first|trivial|rfl,by first|trivial|rfl|simp,by first|trivial|simp,by simp;omega,by simp;omega,by simp [AV.flat,AV.cells,AV.one]⟩));(try (simp only [nc] at *));(try simp (disch:=(first|omega|(simp only [lnS];omega))) only [rdT,rdS]);(try cbv))
  | fail
 )
 ·refine ⟨⟨⟨by rw [hG,hG,e1];simp,?_⟩,by push_cast;rfl⟩,by rw [hG,hG,e1];simp,?_⟩
  ·rw [e1];simp [setAll]
  ·show LV.of ((ids (L x)).l++(ids [⟨0,(x:Int)⟩]).l)=_
   rw [ids_app,ids_of,e1]
 clear hI
 have ex:x=g.init.length:=by ((try simp only [nc] at *);omega)
 subst ex
 rw [lE]
 refine E.loopS (ι:=Nat) (fun t=>t≤g.th.length) (fun t=>g.th.length-t) (fun t=>[(5,.i fun _=>((t:Nat):Int)),(3,.sl 1 (G (L2 t 0)) 2 (fun _=>0) fun _=>(L2 t 0).length)]) (fun t h=>h.set 1 (.run (G (L2 t 0)) 2 fun _=>ids (L2 t 0))) 0 (fun _=>by first|rfl|simp) (Nat.zero_le _) ?_ fun t ht I1 hI1=>?_
 ·cbv;simp
 cbv
 have hgt:=hg t
 repeat' (first
  |(refine ⟨fun _ h_s=>?_,fun _ h_s=>?_⟩<;>(cbv;(try simp only [nc] at *);try simp (disch:=(first|omega|(simp only [lnS];omega))) only [rdT,rdS,reduceCtorEq,trT] at h_s))
  |(refine hF ?_;intro _;clear hF)
  |(refine hF ?_;cbv;clear hF)
  |(refine ⟨fun _=>?_,?_⟩;(· ((try simp only [nc] at *);first|done|omega|exact ⟨by omega,rfl⟩|(simp (disch:=(first|omega|(simp only [lnS];omega))) only [rdT,rdS];first|done|omega|rfl|exact ⟨by omega,rfl⟩|(simp;done)|(simp;omega))|(intros;trivial)|exact ⟨by first|trivial|rfl,by first|trivial|rfl|simp,by first|trivial|simp,by simp;omega,by simp;omega,by simp [AV.flat,AV.cells,AV.one]⟩));(try (simp only [nc] at *));(try simp (disch:=(first|omega|(simp only [lnS];omega))) only [rdT,rdS]);(try cbv))
  | fail
 )
 ·refine E.loopS (ι:=Nat) (fun i=>i≤(g.th.getD t []).length) (fun i=>(g.th.getD t []).length-i) (fun i=>[(6,.i fun _=>((i:Nat):Int)),(3,.sl 1 (G (L2 t i)) 2 (fun _=>0) fun _=>(L2 t i).length)]) (fun i h=>h.set 1 (.run (G (L2 t i)) 2 fun _=>ids (L2 t i))) 0 (fun _=>by first|rfl|simp) (Nat.zero_le _) ?_ fun i hi I2 hI2=>?_
  ·cbv;simp
  cbv
  have f1:=mS t i
  have f2:=mL t i
  have f3:=mE t
  repeat' (first
   |(refine hI2 (i+1) ?_ ?_ ?_;rotate_left 1;(· ((try simp only [nc] at *);omega));(cbv;clear hI2;(try clear hF);(try simp only [nc] at *);(try simp (disch:=(first|omega|(simp only [lnS];omega))) only [rdT,rdS,anT]));rotate_left 1;(try ((try simp only [nc] at *);omega)))
   |(refine ⟨fun _ h_s=>?_,fun _ h_s=>?_⟩<;>(cbv;(try simp only [nc] at *);try simp (disch:=(first|omega|(simp only [lnS];omega))) only [rdT,rdS,reduceCtorEq,trT] at h_s))
   |(refine hF ?_;intro _;clear hF)
   |(refine hF ?_;cbv;clear hF)
   |(refine ⟨fun _=>?_,?_⟩;(· ((try simp only [nc] at *);first|done|omega|exact ⟨by omega,rfl⟩|(simp (disch:=(first|omega|(simp only [lnS];omega))) only [rdT,rdS];first|done|omega|rfl|exact ⟨by omega,rfl⟩|(simp;done)|(simp;omega))|(intros;trivial)|exact ⟨by first|trivial|rfl,by first|trivial|rfl|simp,by first|trivial|simp,by simp;omega,by simp;omega,by simp [AV.flat,AV.cells,AV.one]⟩));(try (simp only [nc] at *));(try simp (disch:=(first|omega|(simp only [lnS];omega))) only [rdT,rdS]);(try cbv))
   | fail
  )
  ·refine ⟨⟨⟨by rw [hG,hG,f1];simp,?_⟩,by push_cast;rfl⟩,by rw [hG,hG,f1];simp,?_⟩
   ·rw [f1];simp [setAll]
   ·show LV.of ((ids (L2 t i)).l++(ids [⟨(t:Int)+1,(i:Int)⟩]).l)=_
    rw [ids_app,ids_of,f1]
  ·have ei:i=(g.th.getD t []).length:=by ((try simp only [nc] at *);omega)
   subst ei
   rw [f3]
   repeat' (first
    |(refine hI1 (t+1) ?_ ?_ ?_;rotate_left 1;(· ((try simp only [nc] at *);omega));(cbv;clear hI1;(try clear hF);(try simp only [nc] at *);(try simp (disch:=(first|omega|(simp only [lnS];omega))) only [rdT,rdS,anT]));rotate_left 1;(try ((try simp only [nc] at *);omega)))
    |(refine ⟨fun _ h_s=>?_,fun _ h_s=>?_⟩<;>(cbv;(try simp only [nc] at *);try simp (disch:=(first|omega|(simp only [lnS];omega))) only [rdT,rdS,reduceCtorEq,trT] at h_s))
    |(refine hF ?_;intro _;clear hF)
    |(refine hF ?_;cbv;clear hF)
    |(refine ⟨fun _=>?_,?_⟩;(· ((try simp only [nc] at *);first|done|omega|exact ⟨by omega,rfl⟩|(simp (disch:=(first|omega|(simp only [lnS];omega))) only [rdT,rdS];first|done|omega|rfl|exact ⟨by omega,rfl⟩|(simp;done)|(simp;omega))|(intros;trivial)|exact ⟨by first|trivial|rfl,by first|trivial|rfl|simp,by first|trivial|simp,by simp;omega,by simp;omega,by simp [AV.flat,AV.cells,AV.one]⟩));try cbv)
    | fail
   )
   push_cast;rfl
 ·have et:t=g.th.length:=by ((try simp only [nc] at *);omega)
  subst et
  rw [mF]
  intro _
  refine ⟨rfl,by simp,?_⟩
  rw [List.drop_zero,List.take_of_length_le (by simp)]
end Go.AL.Rl
namespace Go.AL.Rl
open Go Go.AL Go.Proofs
set_option maxRecDepth 100000
set_option maxHeartbeats 1600000
variable {γ:Nat→Option AV}
abbrev aV15 (g:Gr) (L:List EId) (E:List Ev) (n:Nat):AV:=.agg [.vs 1 fun _=>is g.init,.vs 1 fun _=>evss g.th,.vs 1 fun _=>idss g.fr,.vs 1 fun _=>idss g.ord,.vs 2 fun _=>ids L,.vs 5 fun _=>evs E,.i fun _=>(n:Int)]
theorem look15_no (g:Gr) (hg:Rd g) (h:¬ GOk g):Pure Tryz.prog γ false 83 [aGr g] (.tup [.np,.b fun _=>false]):=by
 have hc:gcheckM g≠0:=by unfold gcheckM;split<;>simp [h]
 refine Pure.go (ty:=ty) ty_eq mo Tryz.func83 rfl Tryz.ntmps83 Tryz.results83 Tryz.call83 (by simp) fun P C CQ D W F E hF=>?_
 cbv
 refine E.c (SCalls.of_le (check14_ok g hg) ?_ ?_)
 ·(cbv;(try simp only [nc] at *);first|done|(simp;done)|(simp (disch:=(first|omega|(simp only [lnS];omega))) only [rdT,rdS,anT];first|done|omega|(refine ⟨?_,?_⟩<;>omega))|(simp (disch:=(first|omega|(simp only [lnS];omega))) [rdT,rdS];done))
 cbv
 refine br_t (by simpa using hc) ?_
 cbv
 refine hF ?_
 cbv
 simp
theorem event_of {g:Gr} (hg:GOk g) (i:Nat) (hi:i<nG g) :
  (¬ 0<((idsG g).getD i id0).t∧0≤((idsG g).getD i id0).i∧((idsG g).getD i id0).i.toNat<g.init.length∧(evsG g).getD i ev0=⟨2,((idsG g).getD i id0).i,1,0,g.init.getD ((idsG g).getD i id0).i.toNat 0⟩) ∨
  (0<((idsG g).getD i id0).t∧((idsG g).getD i id0).t≤4∧0≤((idsG g).getD i id0).t-1∧(((idsG g).getD i id0).t-1).toNat<g.th.length∧0≤((idsG g).getD i id0).i∧((idsG g).getD i id0).i.toNat<(g.th.getD (((idsG g).getD i id0).t-1).toNat []).length ∧
   (evsG g).getD i ev0=(g.th.getD (((idsG g).getD i id0).t-1).toNat []).getD ((idsG g).getD i id0).i.toNat ev0):=by
 have he:=evsG_get g i hi
 have hth:=hg.short.th
 unfold eventM at he
 split at he
 ·rename_i h0
  split at he
  ·rename_i hc
   exact .inl ⟨by omega,hc.1,by omega,(Option.some.inj he).symm⟩
  ·cases he
 ·rename_i h0
  split at he
  ·rename_i hc
   exact .inr ⟨hc.1,by omega,by omega,by omega,hc.2.2.1,by omega,(Option.some.inj he).symm⟩
  ·cases he
theorem look15_yes (g:Gr) (hg:Rd g) (h:GOk g):Pure Tryz.prog γ false 83 [aGr g] (.tup [.vp (fun _=>aV15 g (idsG g) (evsG g) (nG g)) 0,.b fun _=>true]):=by
 have kc:=check14_ok (γ:=γ) g hg
 rw [gcheck0 h] at kc
 have ki:=ids14_ok (γ:=γ) g h.short
 have hev:=event_of h
 have hn:nG g≤62:=(viewG_wf h).small
 have hin:=h.short.init
 obtain ⟨Lf,hLf⟩:∃ L,L=idsG g:=⟨_,rfl⟩
 obtain ⟨Mf,hMf⟩:∃ L,L=evsG g:=⟨_,rfl⟩
 obtain ⟨n,hnn⟩:∃ n,n=nG g:=⟨_,rfl⟩
 have hLn:Lf.length=n:=by rw [hLf,hnn];rfl
 have hMn:Mf.length=n:=by rw [hMf,←idsG_len,←hLf,hLn]
 rw [←hLf,←hMf,←hnn] at hev ⊢
 rw [←hLf] at ki
 rw [←hnn] at hn
 obtain ⟨M,hM⟩:∃ M:Nat→List Ev,∀ k,M k=Mf.take k:=⟨_,fun _=>rfl⟩
 have m0:M 0=[]:=by rw [hM];simp
 have mS:∀ k,k<n→M (k+1)=M k++[Mf.getD k ev0]:=fun k hk=>by rw [hM,hM,take_succ' _ _ ev0 (by omega)]
 have mL:∀ k,k≤n→(M k).length=k:=fun k hk=>by rw [hM,List.length_take];omega
 have mE:M n=Mf:=by rw [hM,List.take_of_length_le (by omega)]
 obtain ⟨G,hG⟩:∃ G:Nat→Nat,∀ k,G k=k:=⟨_,fun _=>rfl⟩
 have hG0:G 0=0:=hG 0
 refine Pure.go (ty:=ty) ty_eq mo Tryz.func83 rfl Tryz.ntmps83 Tryz.results83 Tryz.call83 (by simp) fun P C CQ D W F E hF=>?_
 cbv
 repeat' (first
  |((first|refine E.c (SCalls.of_le (ki) ?_ ?_)|refine E.q (QCalls.of_le (ki) ?_ ?_));(· (cbv;(try simp only [nc] at *);first|done|(simp;done)|(simp (disch:=(first|omega|(simp only [lnS];omega))) only [rdT,rdS,anT];first|done|omega|(refine ⟨?_,?_⟩<;>omega))|(simp (disch:=(first|omega|(simp only [lnS];omega))) [rdT,rdS];done)));cbv)
  |(refine E.c (SCalls.of_le (ki) ?_ ?_);(· (cbv;(try simp only [nc] at *);first|done|(simp;done)|(simp (disch:=(first|omega|(simp only [lnS];omega))) only [rdT,rdS,anT];first|done|omega|(refine ⟨?_,?_⟩<;>omega))|(simp (disch:=(first|omega|(simp only [lnS];omega))) [rdT,rdS];done)));cbv)
  |(refine E.c (SCalls.of_le (kc) ?_ ?_);(· (cbv;(try simp only [nc] at *);first|done|(simp;done)|(simp (disch:=(first|omega|(simp only [lnS];omega))) only [rdT,rdS,anT];first|done|omega|(refine ⟨?_,?_⟩<;>omega))|(simp (disch:=(first|omega|(simp only [lnS];omega))) [rdT,rdS];done)));cbv)
  |(refine ⟨fun _ h_s=>?_,fun _ h_s=>?_⟩<;>(cbv;(try simp only [nc] at *);try simp (disch:=(first|omega|(simp only [lnS];omega))) only [rdT,rdS,reduceCtorEq,trT] at h_s))
  |(refine hF ?_;intro _;clear hF)
  |(refine hF ?_;cbv;clear hF)
  |(refine ⟨fun _=>?_,?_⟩;(· ((try simp only [nc] at *);first|done|omega|exact ⟨by omega,rfl⟩|(simp (disch:=(first|omega|(simp only [lnS];omega))) only [rdT,rdS];first|done|omega|rfl|exact ⟨by omega,rfl⟩|(simp;done)|(simp;omega))|(intros;trivial)));(try (simp only [nc] at *));(try simp (disch:=(first|omega|(simp only [lnS];omega))) only [rdT,rdS]);(try cbv))
  |(refine E.d 3 (by decide +kernel) ?_;cbv;(fail_if_success guard_target =~ False))
  |(refine E.d 10 (by decide +kernel) ?_;cbv;(fail_if_success guard_target =~ False))
  |(refine E.d 21 (by decide +kernel) ?_;cbv;(fail_if_success guard_target =~ False))
  | fail
 )
 ·revert h_s;simp
 refine E.w (AWP.ghostField 1 5 5 rfl rfl (E.loopSA (ι:=Nat) (fun k=>k≤n) (fun k=>n-k) (fun k=>[(5,.i fun _=>((k:Nat):Int))]) (fun k h=>(h.set 1 (.box (.agg [.vs 1 fun _=>is g.init,.vs 1 fun _=>evss g.th,.vs 1 fun _=>idss g.fr,.vs 1 fun _=>idss g.ord,.vs 2 fun _=>ids Lf,.sl 2 (G k) 5 (fun _=>0) fun _=>(M k).length,.i fun _=>(n:Int)]))).set 2 (.run (G k) 5 fun _=>evs (M k))) 0 (fun _=>by first | rfl | simp) (Nat.zero_le _) ?_ fun k hk I hI=>?_))
 ·cbv;simp [m0,hG0,hLn,evs,LV.of]
 cbv
 have hv:=hev k
 have ml:=mL k hk
 skip
 repeat' (first
  |(refine hI (k+1) ?_ ?_ ?_;rotate_left 1;(· ((try simp only [nc] at *);omega));(cbv;clear hI;(try clear hF);(try simp only [nc] at *);(try simp (disch:=(first|omega|(simp only [lnS];omega))) only [rdT,rdS,anT]));rotate_left 1;(try ((try simp only [nc] at *);omega)))
  |(refine E.de 8 [2] [] (by decide +kernel) ?_;cbv;(fail_if_success guard_target =~ False))
  |(refine ⟨fun _ h_s=>?_,fun _ h_s=>?_⟩<;>(cbv;(try simp only [nc] at *);try simp (disch:=(first|omega|(simp only [lnS];omega))) only [rdT,rdS,reduceCtorEq,trT] at h_s))
  |(refine hF ?_;intro _;clear hF)
  |(refine hF ?_;cbv;clear hF)
  |(refine ⟨fun _=>?_,?_⟩;(· ((try simp only [nc] at *);first|done|omega|exact ⟨by omega,rfl⟩|(simp (disch:=(first|omega|(simp only [lnS];omega))) only [rdT,rdS];first|done|omega|rfl|exact ⟨by omega,rfl⟩|(simp;done)|(simp;omega))|(intros;trivial)|exact ⟨by first|trivial|rfl,by first|trivial|rfl|simp,by first|trivial|simp,by simp;omega,by simp;omega,by simp [AV.flat,AV.cells,AV.one]⟩));(try (simp only [nc] at *));(try simp (disch:=(first|omega|(simp only [lnS];omega))) only [rdT,rdS]);(try cbv))
  |(refine E.d 3 (by decide +kernel) ?_;cbv;(fail_if_success guard_target =~ False))
  |(refine E.d 10 (by decide +kernel) ?_;cbv;(fail_if_success guard_target =~ False))
  |(refine E.d 21 (by decide +kernel) ?_;cbv;(fail_if_success guard_target =~ False))
  | fail
 )
 ·obtain ⟨c1,c2,c3,c4,c5,c6,c7⟩:=(hv (by ((try simp only [nc] at *);omega))).resolve_left fun h=>h.1 h_s
  have hs:=mS k (by ((try simp only [nc] at *);omega))
  (try simp only [id0,ev0] at c1 c2 c3 c4 c5 c6 c7 hs)
  (try simp only [nc] at *)
  refine ⟨by push_cast;rfl,⟨by rw [hG,hG],by rw [hs];simp [setAll]⟩,by rw [hG,hG],?_⟩
  rw [hs,c7]
  generalize (g.th.getD ((Lf.getD k ⟨0,0⟩).t-1).toNat []).getD (Lf.getD k ⟨0,0⟩).i.toNat ⟨0,0,0,0,0⟩=e
  show LV.of ((evs (M k)).l++(evs [e]).l)=_
  rw [evs_app,evs_of]
 ·obtain ⟨c1,c2,c3,c4⟩:=(hv (by ((try simp only [nc] at *);omega))).resolve_right fun h=>by ((try simp only [nc] at *);omega)
  have hs:=mS k (by ((try simp only [nc] at *);omega))
  (try simp only [id0,ev0] at c1 c2 c3 c4 hs)
  (try simp only [nc] at *)
  refine ⟨by push_cast;rfl,⟨by rw [hG,hG],by rw [hs];simp [setAll]⟩,by rw [hG,hG],?_⟩
  rw [hs,c4]
  show LV.of ((evs (M k)).l++(evs [⟨2,(Lf.getD k ⟨0,0⟩).i,1,0,g.init.getD (Lf.getD k ⟨0,0⟩).i.toNat 0⟩]).l)=_
  rw [evs_app,evs_of]
 ·have e:k=n:=by ((try simp only [nc] at *);omega)
  subst e
  rw [mE]
  refine ⟨⟨fun _=>rfl,fun _=>rfl,fun _=>rfl,fun _=>rfl,fun _=>rfl,fun _=>⟨rfl,by simp,by rw [List.drop_zero,List.take_of_length_le (by simp)]⟩,fun _=>rfl,trivial⟩,fun _=>rfl,trivial⟩
end Go.AL.Rl
namespace Go.AL.Rl
open Go Go.AL Go.Proofs
set_option maxRecDepth 100000
set_option maxHeartbeats 1600000
variable {γ:Nat→Option AV}
abbrev pW (g:Gr):AV:=.vp (fun _=>aV15 g (idsG g) (evsG g) (nG g)) 0
theorem ids_pos {g:Gr} {i:Nat} (hi:i<nG g):0≤((idsG g).getD i id0).t:=by
 have hm:(idsG g).getD i id0∈idsG g:=getD_mem hi
 rw [idsG,List.mem_append,idsI_mem,idsT_mem,←idsG] at hm
 omega
theorem evsG_l (g:Gr):(evsG g).length=nG g:=(idsG_len g).symm
theorem idsG_l (g:Gr):(idsG g).length=nG g:=rfl
theorem xreads_ok (g:Gr) (L:List EId) (Es:List Ev) (n a:Nat) (h1:Es.length=n) (ha:a<n):Pure Tryz.prog γ false 130 [.vp (fun _=>aV15 g L Es n) 0,.i fun _=>(a:Int)] (.b fun _=>readsM (Es.getD a ev0)):=by
 refine Pure.go (ty:=ty) ty_eq mo Tryz.func130 rfl Tryz.ntmps130 Tryz.results130 Tryz.call130 (by simp) fun P C CQ D W F E hF=>?_
 cbv
 repeat' (first
  |(refine ⟨fun _ h_s=>?_,fun _ h_s=>?_⟩<;>(cbv;(try simp only [nc] at *);try simp (disch:=(first|omega|(simp only [lnS];omega))) only [rdT,rdS,reduceCtorEq,trT] at h_s))
  |(refine hF ?_;intro _;clear hF)
  |(refine hF ?_;cbv;clear hF)
  |(refine ⟨fun _=>?_,?_⟩;(· ((try simp only [nc] at *);first|done|omega|exact ⟨by omega,rfl⟩|(simp (disch:=(first|omega|(simp only [lnS];omega))) only [rdT,rdS];first|done|omega|rfl|exact ⟨by omega,rfl⟩|(simp;done)|(simp;omega))|(intros;trivial)));(try (simp only [nc] at *));(try simp (disch:=(first|omega|(simp only [lnS];omega))) only [rdT,rdS]);(try cbv))
  | fail
 )
 all_goals (try simp only [nc] at *)
 all_goals (try simp (disch:=(first|omega|(simp only [lnS];omega))) only [rdT,rdS])
 all_goals simp_all [readsM]
theorem wreads_ok (g:Gr) (a:Nat) (ha:a<nG g):Pure Tryz.prog γ false 130 [pW g,.i fun _=>(a:Int)] (.b fun _=>readsM ((viewG g).ev.getD a ev0)):=xreads_ok g _ _ _ a (evsG_l g) ha
theorem xwrites_ok (g:Gr) (L:List EId) (Es:List Ev) (n a:Nat) (h1:Es.length=n) (ha:a<n):Pure Tryz.prog γ false 128 [.vp (fun _=>aV15 g L Es n) 0,.i fun _=>(a:Int)] (.b fun _=>writesM (Es.getD a ev0)):=by
 refine Pure.go (ty:=ty) ty_eq mo Tryz.func128 rfl Tryz.ntmps128 Tryz.results128 Tryz.call128 (by simp) fun P C CQ D W F E hF=>?_
 cbv
 repeat' (first
  |(refine ⟨fun _ h_s=>?_,fun _ h_s=>?_⟩<;>(cbv;(try simp only [nc] at *);try simp (disch:=(first|omega|(simp only [lnS];omega))) only [rdT,rdS,reduceCtorEq,trT] at h_s))
  |(refine hF ?_;intro _;clear hF)
  |(refine hF ?_;cbv;clear hF)
  |(refine ⟨fun _=>?_,?_⟩;(· ((try simp only [nc] at *);first|done|omega|exact ⟨by omega,rfl⟩|(simp (disch:=(first|omega|(simp only [lnS];omega))) only [rdT,rdS];first|done|omega|rfl|exact ⟨by omega,rfl⟩|(simp;done)|(simp;omega))|(intros;trivial)));(try (simp only [nc] at *));(try simp (disch:=(first|omega|(simp only [lnS];omega))) only [rdT,rdS]);(try cbv))
  | fail
 )
 all_goals (try simp only [nc] at *)
 all_goals (try simp (disch:=(first|omega|(simp only [lnS];omega))) only [rdT,rdS])
 all_goals simp_all [writesM]
theorem wwrites_ok (g:Gr) (a:Nat) (ha:a<nG g):Pure Tryz.prog γ false 128 [pW g,.i fun _=>(a:Int)] (.b fun _=>writesM ((viewG g).ev.getD a ev0)):=xwrites_ok g _ _ _ a (evsG_l g) ha
theorem xacq_ok (g:Gr) (L:List EId) (Es:List Ev) (n a:Nat) (h1:Es.length=n) (ha:a<n):Pure Tryz.prog γ false 133 [.vp (fun _=>aV15 g L Es n) 0,.i fun _=>(a:Int)] (.b fun _=>acqM (Es.getD a ev0)):=by
 refine Pure.go (ty:=ty) ty_eq mo Tryz.func133 rfl Tryz.ntmps133 Tryz.results133 Tryz.call133 (by simp) fun P C CQ D W F E hF=>?_
 cbv
 repeat' (first
  |(refine ⟨fun _ h_s=>?_,fun _ h_s=>?_⟩<;>(cbv;(try simp only [nc] at *);try simp (disch:=(first|omega|(simp only [lnS];omega))) only [rdT,rdS,reduceCtorEq,trT] at h_s))
  |(refine hF ?_;intro _;clear hF)
  |(refine hF ?_;cbv;clear hF)
  |(refine ⟨fun _=>?_,?_⟩;(· ((try simp only [nc] at *);first|done|omega|exact ⟨by omega,rfl⟩|(simp (disch:=(first|omega|(simp only [lnS];omega))) only [rdT,rdS];first|done|omega|rfl|exact ⟨by omega,rfl⟩|(simp;done)|(simp;omega))|(intros;trivial)));(try (simp only [nc] at *));(try simp (disch:=(first|omega|(simp only [lnS];omega))) only [rdT,rdS]);(try cbv))
  | fail
 )
 all_goals (try simp only [nc] at *)
 all_goals (try simp (disch:=(first|omega|(simp only [lnS];omega))) only [rdT,rdS])
 all_goals simp_all [acqM]
theorem wacq_ok (g:Gr) (a:Nat) (ha:a<nG g):Pure Tryz.prog γ false 133 [pW g,.i fun _=>(a:Int)] (.b fun _=>acqM ((viewG g).ev.getD a ev0)):=xacq_ok g _ _ _ a (evsG_l g) ha
theorem xrel_ok (g:Gr) (L:List EId) (Es:List Ev) (n a:Nat) (h1:Es.length=n) (ha:a<n):Pure Tryz.prog γ false 132 [.vp (fun _=>aV15 g L Es n) 0,.i fun _=>(a:Int)] (.b fun _=>relM (Es.getD a ev0)):=by
 refine Pure.go (ty:=ty) ty_eq mo Tryz.func132 rfl Tryz.ntmps132 Tryz.results132 Tryz.call132 (by simp) fun P C CQ D W F E hF=>?_
 cbv
 repeat' (first
  |(refine ⟨fun _ h_s=>?_,fun _ h_s=>?_⟩<;>(cbv;(try simp only [nc] at *);try simp (disch:=(first|omega|(simp only [lnS];omega))) only [rdT,rdS,reduceCtorEq,trT] at h_s))
  |(refine hF ?_;intro _;clear hF)
  |(refine hF ?_;cbv;clear hF)
  |(refine ⟨fun _=>?_,?_⟩;(· ((try simp only [nc] at *);first|done|omega|exact ⟨by omega,rfl⟩|(simp (disch:=(first|omega|(simp only [lnS];omega))) only [rdT,rdS];first|done|omega|rfl|exact ⟨by omega,rfl⟩|(simp;done)|(simp;omega))|(intros;trivial)));(try (simp only [nc] at *));(try simp (disch:=(first|omega|(simp only [lnS];omega))) only [rdT,rdS]);(try cbv))
  | fail
 )
 all_goals (try simp only [nc] at *)
 all_goals (try simp (disch:=(first|omega|(simp only [lnS];omega))) only [rdT,rdS])
 all_goals simp_all [relM]
theorem wrel_ok (g:Gr) (a:Nat) (ha:a<nG g):Pure Tryz.prog γ false 132 [pW g,.i fun _=>(a:Int)] (.b fun _=>relM ((viewG g).ev.getD a ev0)):=xrel_ok g _ _ _ a (evsG_l g) ha
theorem xloc_ok (g:Gr) (L:List EId) (Es:List Ev) (fr pl:List Int) (n a b:Nat) (h1:Es.length=n) (ha:a<n) (hb:b<n):Pure Tryz.prog γ false 84 [.vp (fun _=>aV15 g L Es n) 0,.i fun _=>(a:Int),.i fun _=>(b:Int)] (.b fun _=>locM ⟨L,Es,fr,pl⟩ a b):=by
 refine Pure.go (ty:=ty) ty_eq mo Tryz.func84 rfl Tryz.ntmps84 Tryz.results84 Tryz.call84 (by simp) fun P C CQ D W F E hF=>?_
 cbv
 repeat' (first
  |(refine ⟨fun _ h_s=>?_,fun _ h_s=>?_⟩<;>(cbv;(try simp only [nc] at *);try simp (disch:=(first|omega|(simp only [lnS];omega))) only [rdT,rdS,reduceCtorEq,trT] at h_s))
  |(refine hF ?_;intro _;clear hF)
  |(refine hF ?_;cbv;clear hF)
  |(refine ⟨fun _=>?_,?_⟩;(· ((try simp only [nc] at *);first|done|omega|exact ⟨by omega,rfl⟩|(simp (disch:=(first|omega|(simp only [lnS];omega))) only [rdT,rdS];first|done|omega|rfl|exact ⟨by omega,rfl⟩|(simp;done)|(simp;omega))|(intros;trivial)));(try (simp only [nc] at *));(try simp (disch:=(first|omega|(simp only [lnS];omega))) only [rdT,rdS]);(try cbv))
  |(refine E.d 42 (by decide +kernel) ?_;cbv;(fail_if_success guard_target =~ False))
  | fail
 )
 all_goals (try simp only [nc] at *)
 all_goals (try simp (disch:=(first|omega|(simp only [lnS];omega))) only [rdT,rdS])
 all_goals (have e:((a:Int)=b)↔a=b:=Int.ofNat_inj;simp_all [locM,nearM,fenceM])
theorem wloc_ok (g:Gr) (a b:Nat) (ha:a<nG g) (hb:b<nG g):Pure Tryz.prog γ false 84 [pW g,.i fun _=>(a:Int),.i fun _=>(b:Int)] (.b fun _=>locM (viewG g) a b):=xloc_ok g _ _ _ _ _ a b (evsG_l g) ha hb
theorem xpo_ok (g:Gr) (L:List EId) (Es:List Ev) (fr pl:List Int) (n a b:Nat) (h1:L.length=n) (ha:a<n) (hb:b<n) (pa:0≤(L.getD a id0).t) (pb:0≤(L.getD b id0).t):Pure Tryz.prog γ false 119 [.vp (fun _=>aV15 g L Es n) 0,.i fun _=>(a:Int),.i fun _=>(b:Int)] (.b fun _=>poM ⟨L,Es,fr,pl⟩ a b):=by
 refine Pure.go (ty:=ty) ty_eq mo Tryz.func119 rfl Tryz.ntmps119 Tryz.results119 Tryz.call119 (by simp) fun P C CQ D W F E hF=>?_
 cbv
 repeat' (first
  |(refine E.de 17 [] [none,none] (by decide +kernel) ?_;cbv;(fail_if_success guard_target =~ False))
  |(refine ⟨fun _ h_s=>?_,fun _ h_s=>?_⟩<;>(cbv;(try simp only [nc] at *);try simp (disch:=(first|omega|(simp only [lnS];omega))) only [rdT,rdS,reduceCtorEq,trT] at h_s))
  |(refine hF ?_;intro _;clear hF)
  |(refine hF ?_;cbv;clear hF)
  |(refine ⟨fun _=>?_,?_⟩;(· ((try simp only [nc] at *);first|done|omega|exact ⟨by omega,rfl⟩|(simp (disch:=(first|omega|(simp only [lnS];omega))) only [rdT,rdS];first|done|omega|rfl|exact ⟨by omega,rfl⟩|(simp;done)|(simp;omega))|(intros;trivial)));(try (simp only [nc] at *));(try simp (disch:=(first|omega|(simp only [lnS];omega))) only [rdT,rdS]);(try cbv))
  | fail
 )
 all_goals (try simp only [nc] at *)
 all_goals (try simp (disch:=(first|omega|(simp only [lnS];omega))) only [rdT,rdS])
 all_goals (try simp only [poM])
 all_goals grind
end Go.AL.Rl
namespace Go.AL.Rl
open Go Go.AL Go.Proofs
set_option maxRecDepth 100000
set_option maxHeartbeats 1600000
variable {γ:Nat→Option AV}
theorem wpo_ok (g:Gr) (a b:Nat) (ha:a<nG g) (hb:b<nG g):Pure Tryz.prog γ false 119 [pW g,.i fun _=>(a:Int),.i fun _=>(b:Int)] (.b fun _=>poM (viewG g) a b):=xpo_ok g _ _ _ _ _ a b (idsG_l g) ha hb (ids_pos ha) (ids_pos hb)
theorem wfrom_ok (g:Gr) (h:GOk g) (a:Nat) (ha:a<nG g):Pure Tryz.prog γ false 131 [pW g,.i fun _=>(a:Int)] (.i fun _=>(viewG g).fr.getD a 0):=by
 have kr:=wreads_ok (γ:=γ) g a ha
 rw [vfr h a ha]
 have hev:=vev h a ha
 cases hr:readsM ((viewG g).ev.getD a ev0) with
 | false=>
  rw [hr] at kr
  have e:frOf g ((idsG g).getD a id0) = -1:=by
   unfold frOf
   rw [hev,Option.getD_some,hr];simp
  rw [e]
  refine Pure.go (ty:=ty) ty_eq mo Tryz.func131 rfl Tryz.ntmps131 Tryz.results131 Tryz.call131 (by simp) fun P C CQ D W F E hF=>?_
  cbv
  repeat' (first
   |(refine E.c (SCalls.of_le (kr) ?_ ?_);(· (cbv;(try simp only [nc] at *);first|done|(simp;done)|(simp (disch:=(first|omega|(simp only [lnS];omega))) only [rdT,rdS,anT];first|done|omega|(refine ⟨?_,?_⟩<;>omega))|(simp (disch:=(first|omega|(simp only [lnS];omega))) [rdT,rdS];done)));cbv)
   |(refine ⟨fun _ h_s=>?_,fun _ h_s=>?_⟩<;>(cbv;(try simp only [nc] at *);try simp (disch:=(first|omega|(simp only [lnS];omega))) only [rdT,rdS,reduceCtorEq,trT] at h_s))
   |(refine hF ?_;intro _;clear hF)
   |(refine hF ?_;cbv;clear hF)
   |(refine ⟨fun _=>?_,?_⟩;(· ((try simp only [nc] at *);first|done|omega|exact ⟨by omega,rfl⟩|(simp (disch:=(first|omega|(simp only [lnS];omega))) only [rdT,rdS];first|done|omega|rfl|exact ⟨by omega,rfl⟩|(simp;done)|(simp;omega))|(intros;trivial)));(try (simp only [nc] at *));(try simp (disch:=(first|omega|(simp only [lnS];omega))) only [rdT,rdS]);(try cbv))
   |(refine E.d 8 (by decide +kernel) ?_;cbv;(fail_if_success guard_target =~ False))
   | fail
  )
  all_goals (try simp only [nc] at *)
  all_goals (try simp (disch:=(first|omega|(simp only [lnS];omega))) only [rdT,rdS])
  all_goals first | rfl | (revert h_s;simp)
 | true=>
  rw [hr] at kr
  have h0:((idsG g).getD a id0).t≠0:=fun h0=>by rw [init_reads hev h0] at hr;cases hr
  obtain ⟨w1,w2,w3,w4,w5⟩:=ids_where h ha h0
  have hd:(idsG g).getD a id0∈idsG g:=getD_mem ha
  obtain ⟨w,hw,_⟩:=source_mem (src_ok h hd h0) (by rw [hev];exact hr)
  have hm:srcOf g ((idsG g).getD a id0)∈idsG g:=idsG_mem.2 (by rw [hw];rfl)
  have e:frOf g ((idsG g).getD a id0)=(numOf (idsG g) (srcOf g ((idsG g).getD a id0)):Nat):=by
   unfold frOf
   rw [if_neg h0,hev,Option.getD_some,if_pos hr]
  rw [e]
  have hnd:=idsG_nodup g
  have hn:nG g≤62:=(viewG_wf h).small
  unfold pW at kr ⊢
  obtain ⟨L,hL⟩:∃ L,L=idsG g:=⟨_,rfl⟩
  have hLn:L.length=nG g:=by rw [hL];rfl
  obtain ⟨n,hnn⟩:∃ n,n=nG g:=⟨_,rfl⟩
  rw [←hnn] at ha hn hLn kr ⊢
  rw [←hL] at kr w1 w2 w3 w4 w5 hm hnd ⊢
  obtain ⟨s,hs⟩:∃ s,s=srcOf g (L.getD a id0):=⟨_,rfl⟩
  rw [←hs] at hm ⊢
  have hsd:s=(g.fr.getD ((L.getD a ⟨0,0⟩).t-1).toNat []).getD (L.getD a ⟨0,0⟩).i.toNat ⟨0,0⟩:=hs
  refine Pure.go (ty:=ty) ty_eq mo Tryz.func131 rfl Tryz.ntmps131 Tryz.results131 Tryz.call131 (by simp) fun P C CQ D W F E hF=>?_
  cbv
  repeat' (first
   |(refine E.de 27 [] [none] (by decide +kernel) ?_;cbv;(fail_if_success guard_target =~ False))
   |(refine E.c (SCalls.of_le (kr) ?_ ?_);(· (cbv;(try simp only [nc] at *);first|done|(simp;done)|(simp (disch:=(first|omega|(simp only [lnS];omega))) only [rdT,rdS,anT];first|done|omega|(refine ⟨?_,?_⟩<;>omega))|(simp (disch:=(first|omega|(simp only [lnS];omega))) [rdT,rdS];done)));cbv)
   |(refine ⟨fun _ h_s=>?_,fun _ h_s=>?_⟩<;>(cbv;(try simp only [nc] at *);try simp (disch:=(first|omega|(simp only [lnS];omega))) only [rdT,rdS,reduceCtorEq,trT] at h_s))
   |(refine hF ?_;intro _;clear hF)
   |(refine hF ?_;cbv;clear hF)
   |(refine ⟨fun _=>?_,?_⟩;(· ((try simp only [nc] at *);first|done|omega|exact ⟨by omega,rfl⟩|(simp (disch:=(first|omega|(simp only [lnS];omega))) only [rdT,rdS];first|done|omega|rfl|exact ⟨by omega,rfl⟩|(simp;done)|(simp;omega))|(intros;trivial)));(try (simp only [nc] at *));(try simp (disch:=(first|omega|(simp only [lnS];omega))) only [rdT,rdS]);(try cbv))
   |(refine E.d 8 (by decide +kernel) ?_;cbv;(fail_if_success guard_target =~ False))
   | fail
  )
  skip
  refine E.loopS (ι:=Nat) (fun k=>k≤n∧(∀ j<k,L.getD j ⟨0,0⟩≠s)) (fun k=>n-k) (fun k=>[(6,.i fun _=>((k:Nat):Int))]) (fun k h=>h) 0 (fun _=>by first|rfl|simp) ⟨Nat.zero_le _,?_⟩ ?_ fun k hk I hI=>?_
  ·intro j hj;omega
  ·cbv;simp
  cbv
  repeat' (first
   |(refine hI (k+1) ?_ ?_ ?_;rotate_left 1;(· ((try simp only [nc] at *);omega));(cbv;clear hI;(try clear hF);(try simp only [nc] at *);(try simp (disch:=(first|omega|(simp only [lnS];omega))) only [rdT,rdS,←hsd,anT]));rotate_left 1;(try ((try simp only [nc] at *);omega)))
   |(refine ⟨fun _ h_s=>?_,fun _ h_s=>?_⟩<;>(cbv;(try simp only [nc] at *);try simp (disch:=(first|omega|(simp only [lnS];omega))) only [rdT,rdS,←hsd,reduceCtorEq,trT] at h_s))
   |(refine hF ?_;intro _;clear hF)
   |(refine hF ?_;cbv;clear hF)
   |(refine ⟨fun _=>?_,?_⟩;(· ((try simp only [nc] at *);first|done|omega|exact ⟨by omega,rfl⟩|(simp (disch:=(first|omega|(simp only [lnS];omega))) only [rdT,rdS,←hsd];first|done|omega|rfl|exact ⟨by omega,rfl⟩|(simp;done)|(simp;omega))|(intros;trivial)));(try (simp only [nc] at *));(try simp (disch:=(first|omega|(simp only [lnS];omega))) only [rdT,rdS,←hsd]);(try cbv))
   |(refine E.d 8 (by decide +kernel) ?_;cbv;(fail_if_success guard_target =~ False))
   | fail
  )
  ·simp only [Bool.and_true,Bool.and_eq_true,decide_eq_true_eq] at h_s
   have he:L.getD k id0=s:=EId.ext' h_s.1 h_s.2
   have:=numOf_at hnd (k:=k) (by ((try simp only [nc] at *);omega))
   rw [he] at this
   show (k:Int)=_
   rw [this]
  ·refine ⟨by ((try simp only [nc] at *);omega),fun j hj=>?_⟩
   rcases Nat.lt_or_ge j k with hjk | hjk
   ·exact hk.2 j hjk
   ·have:j=k:=by omega
    subst this
    intro he
    rw [he] at h_s
    simp at h_s
  ·push_cast;rfl
  ·exfalso
   exact hk.2 _ (by have:=numOf_lt hm;((try simp only [nc] at *);omega)) (numOf_get hm)
end Go.AL.Rl
namespace Go.AL.Rl
open Go Go.AL Go.Proofs
set_option maxRecDepth 100000
set_option maxHeartbeats 1600000
variable {γ:Nat→Option AV}
theorem wplace_ok (g:Gr) (hg:Rd g) (h:GOk g) (a:Nat) (ha:a<nG g) (hw:writesM ((viewG g).ev.getD a ev0)=true):Pure Tryz.prog γ false 139 [pW g,.i fun _=>(a:Int)] (.i fun _=>(viewG g).pl.getD a 0):=by
 rw [vpl h a ha]
 have hev:eventM g ((idsG g).getD a id0)=some ((evsG g).getD a ev0):=vev h a ha
 have hw:writesM ((evsG g).getD a ev0)=true:=hw
 have hn:nG g≤62:=(viewG_wf h).small
 have hEl:=evsG_l g
 have hLn:=idsG_l g
 unfold pW
 generalize idsG g=L at *
 generalize evsG g=Es at *
 generalize nG g=n at *
 have hpw:=pl_write h hev hw
 have hl:(L.getD a id0).t≠0→0≤(Es.getD a ev0).loc∧(Es.getD a ev0).loc<g.ord.length:=fun h0=>by
  have:=fine_loc (event_fine h hev h0) (notFence_w hw)
  rw [h.lord];exact this
 have hord:=ordsAt hg (Es.getD a ev0).loc.toNat
 have hnd:(g.ord.getD (Es.getD a ev0).loc.toNat []).Nodup:=by
  by_cases hx:(Es.getD a ev0).loc.toNat<g.init.length
  ·exact ((ordered_iff g _).1 (h.orders _ hx)).1
  ·rw [List.getD_eq_getElem?_getD,List.getElem?_eq_none (by rw [h.lord];omega)];simp
 obtain ⟨l,hll⟩:∃ l,l=g.ord.getD (Es.getD a ⟨0,0,0,0,0⟩).loc.toNat []:=⟨_,rfl⟩
 obtain ⟨p,hp⟩:∃ p,p=plOf g (L.getD a id0):=⟨_,rfl⟩
 rw [←hp] at hpw ⊢
 rw [←hll] at hpw hord hnd
 refine Pure.go (ty:=ty) ty_eq mo Tryz.func139 rfl Tryz.ntmps139 Tryz.results139 Tryz.call139 (by simp) fun P C CQ D W F E hF=>?_
 cbv
 skip
 repeat' (first
  |(refine ⟨fun _ h_s=>?_,fun _ h_s=>?_⟩<;>(cbv;(try simp only [nc] at *);try simp (disch:=(first|omega|(simp only [lnS];omega))) only [rdT,rdS,←hll,reduceCtorEq,trT] at h_s))
  |(refine hF ?_;intro _;clear hF)
  |(refine hF ?_;cbv;clear hF)
  |(refine ⟨fun _=>?_,?_⟩;(· ((try simp only [nc] at *);first|done|omega|exact ⟨by omega,rfl⟩|(simp (disch:=(first|omega|(simp only [lnS];omega))) only [rdT,rdS,←hll];first|done|omega|rfl|exact ⟨by omega,rfl⟩|(simp;done)|(simp;omega))|(intros;trivial)));(try (simp only [nc] at *));(try simp (disch:=(first|omega|(simp only [lnS];omega))) only [rdT,rdS,←hll]);(try cbv))
  |(refine E.d 11 (by decide +kernel) ?_;cbv;(fail_if_success guard_target =~ False))
  |(refine E.d 13 (by decide +kernel) ?_;cbv;(fail_if_success guard_target =~ False))
  | fail
 )
 ·rcases hpw with h1 | h1
  ·exact h1.2.symm
  ·exact absurd h_s h1.1
 ·obtain ⟨h0,k0,hk1,hk2,hk3⟩:=hpw.resolve_left fun h1=>h_s h1.1
  have hl':=hl h0
  repeat' (first
   |(refine ⟨fun _ h_s=>?_,fun _ h_s=>?_⟩<;>(cbv;(try simp only [nc] at *);try simp (disch:=(first|omega|(simp only [lnS];omega))) only [rdT,rdS,←hll,reduceCtorEq,trT] at h_s))
   |(refine hF ?_;intro _;clear hF)
   |(refine hF ?_;cbv;clear hF)
   |(refine ⟨fun _=>?_,?_⟩;(· ((try simp only [nc] at *);first|done|omega|exact ⟨by omega,rfl⟩|(simp (disch:=(first|omega|(simp only [lnS];omega))) only [rdT,rdS,←hll];first|done|omega|rfl|exact ⟨by omega,rfl⟩|(simp;done)|(simp;omega))|(intros;trivial)));(try (simp only [nc] at *));(try simp (disch:=(first|omega|(simp only [lnS];omega))) only [rdT,rdS,←hll]);(try cbv))
   |(refine E.d 11 (by decide +kernel) ?_;cbv;(fail_if_success guard_target =~ False))
   |(refine E.d 13 (by decide +kernel) ?_;cbv;(fail_if_success guard_target =~ False))
   | fail
  )
  refine E.loopS (ι:=Nat) (fun k=>k≤l.length∧(k≤k0)) (fun k=>l.length-k) (fun k=>[(6,.i fun _=>((k:Nat):Int))]) (fun k h=>h) 0 (fun _=>by first|rfl|simp) ⟨Nat.zero_le _,?_⟩ ?_ fun k hk I hI=>?_
  ·omega
  ·cbv;simp
  cbv
  repeat' (first
   |(refine hI (k+1) ?_ ?_ ?_;rotate_left 1;(· ((try simp only [nc] at *);omega));(cbv;clear hI;(try clear hF);(try simp only [nc] at *);(try simp (disch:=(first|omega|(simp only [lnS];omega))) only [rdT,rdS,←hll,anT]));rotate_left 1;(try ((try simp only [nc] at *);omega)))
   |(refine ⟨fun _ h_s=>?_,fun _ h_s=>?_⟩<;>(cbv;(try simp only [nc] at *);try simp (disch:=(first|omega|(simp only [lnS];omega))) only [rdT,rdS,←hll,reduceCtorEq,trT] at h_s))
   |(refine hF ?_;intro _;clear hF)
   |(refine hF ?_;cbv;clear hF)
   |(refine ⟨fun _=>?_,?_⟩;(· ((try simp only [nc] at *);first|done|omega|exact ⟨by omega,rfl⟩|(simp (disch:=(first|omega|(simp only [lnS];omega))) only [rdT,rdS,←hll];first|done|omega|rfl|exact ⟨by omega,rfl⟩|(simp;done)|(simp;omega))|(intros;trivial)));(try (simp only [nc] at *));(try simp (disch:=(first|omega|(simp only [lnS];omega))) only [rdT,rdS,←hll]);(try cbv))
   |(refine E.d 11 (by decide +kernel) ?_;cbv;(fail_if_success guard_target =~ False))
   |(refine E.d 13 (by decide +kernel) ?_;cbv;(fail_if_success guard_target =~ False))
   | fail
  )
  ·simp only [Bool.and_true,Bool.and_eq_true,decide_eq_true_eq] at h_s
   have he:l.getD k id0=l.getD k0 id0:=(EId.ext' h_s.1 h_s.2).trans hk3.symm
   have e:k=k0:=getD_inj hnd (by ((try simp only [nc] at *);omega)) hk2 he
   subst e
   show w64 ((k:Int)+1)=p
   rw [hk1,w64_of (by ((try simp only [nc] at *);omega)) (by ((try simp only [nc] at *);omega))]
  ·refine ⟨by ((try simp only [nc] at *);omega),?_⟩
   rcases Nat.lt_or_ge k k0 with hlt | hge
   ·omega
   ·exfalso
    have:k=k0:=by omega
    subst this
    rw [hk3] at h_s
    simp at h_s
  ·push_cast;rfl
  ·exfalso;((try simp only [nc] at *);omega)
theorem wrf_ok (g:Gr) (h:GOk g) (a b:Nat) (ha:a<nG g) (hb:b<nG g):Pure Tryz.prog γ false 120 [pW g,.i fun _=>(a:Int),.i fun _=>(b:Int)] (.b fun _=>rfM (viewG g) a b):=by
 have k:=wfrom_ok (γ:=γ) g h b hb
 refine Pure.go (ty:=ty) ty_eq mo Tryz.func120 rfl Tryz.ntmps120 Tryz.results120 Tryz.call120 (by simp) fun P C CQ D W F E hF=>?_
 cbv
 repeat' (first
  |((first|refine E.c (SCalls.of_le (k) ?_ ?_)|refine E.q (QCalls.of_le (k) ?_ ?_));(· (cbv;(try simp only [nc] at *);first|done|(simp;done)|(simp (disch:=(first|omega|(simp only [lnS];omega))) only [rdT,rdS,←hll,anT];first|done|omega|(refine ⟨?_,?_⟩<;>omega))|(simp (disch:=(first|omega|(simp only [lnS];omega))) [rdT,rdS,←hll];done)));cbv)
  |(refine ⟨fun _ h_s=>?_,fun _ h_s=>?_⟩<;>(cbv;(try simp only [nc] at *);try simp (disch:=(first|omega|(simp only [lnS];omega))) only [rdT,rdS,←hll,reduceCtorEq,trT] at h_s))
  |(refine hF ?_;intro _;clear hF)
  |(refine hF ?_;cbv;clear hF)
  |(refine ⟨fun _=>?_,?_⟩;(· ((try simp only [nc] at *);first|done|omega|exact ⟨by omega,rfl⟩|(simp (disch:=(first|omega|(simp only [lnS];omega))) only [rdT,rdS,←hll];first|done|omega|rfl|exact ⟨by omega,rfl⟩|(simp;done)|(simp;omega))|(intros;trivial)));(try (simp only [nc] at *));(try simp (disch:=(first|omega|(simp only [lnS];omega))) only [rdT,rdS,←hll]);(try cbv))
  | fail
 )
 all_goals (try simp only [nc] at *)
 all_goals (try simp (disch:=(first|omega|(simp only [lnS];omega))) only [rdT,rdS,←hll])
 all_goals (try simp only [rfM])
end Go.AL.Rl
namespace Go.AL.Rl
open Go Go.AL Go.Proofs
set_option maxRecDepth 100000
set_option maxHeartbeats 1600000
variable {γ:Nat→Option AV}
theorem co_eq {g:Gr} (h:GOk g) (a b:Nat) (ha:a<nG g) (hb:b<nG g):coM (viewG g) a b=(writesM ((viewG g).ev.getD a ev0) && writesM ((viewG g).ev.getD b ev0) && decide (((viewG g).ev.getD a ev0).loc=((viewG g).ev.getD b ev0).loc) && decide ((viewG g).pl.getD a 0<(viewG g).pl.getD b 0)):=by
 rw [Bool.eq_iff_iff]
 unfold coM
 simp only [Bool.and_eq_true,decide_eq_true_eq,pl_iff h a ha]
 constructor
 ·rintro ⟨⟨h1,h2⟩,h3⟩
  have p1:=(pl_iff h a ha).2 h1
  refine ⟨⟨⟨h1,(pl_iff h b hb).1 (by omega)⟩,?_⟩,h3⟩
  unfold nearM at h2
  simp only [Bool.and_eq_true,decide_eq_true_eq] at h2
  exact h2.2
 ·rintro ⟨⟨⟨h1,h2⟩,h3⟩,h4⟩
  exact ⟨⟨h1,near_of (notFence_w h1) (notFence_w h2) h3⟩,h4⟩
theorem fr_eq {g:Gr} (h:GOk g) (a b:Nat) (ha:a<nG g):frM (viewG g) a b=(decide (a≠b) && readsM ((viewG g).ev.getD a ev0) && coM (viewG g) ((viewG g).fr.getD a 0).toNat b):=by
 unfold frM
 congr 2
 rw [Bool.eq_iff_iff,decide_eq_true_eq,fr_iff h a ha]
theorem wco_ok (g:Gr) (hg:Rd g) (h:GOk g) (a b:Nat) (ha:a<nG g) (hb:b<nG g):Pure Tryz.prog γ false 121 [pW g,.i fun _=>(a:Int),.i fun _=>(b:Int)] (.b fun _=>coM (viewG g) a b):=by
 have h1:=evsG_l g
 have q1:=wwrites_ok (γ:=γ) g a ha
 have q2:=wwrites_ok (γ:=γ) g b hb
 have q3:=wplace_ok (γ:=γ) g hg h a ha
 have q4:=wplace_ok (γ:=γ) g hg h b hb
 rw [co_eq h a b ha hb]
 obtain ⟨wa,hwa⟩:∃ w,w=writesM ((viewG g).ev.getD a ev0):=⟨_,rfl⟩
 obtain ⟨wb,hwb⟩:∃ w,w=writesM ((viewG g).ev.getD b ev0):=⟨_,rfl⟩
 rw [←hwa] at q1 q3 ⊢
 rw [←hwb] at q2 q4 ⊢
 show Pure _ _ _ _ _ (.b fun _=>wa && wb && decide (((evsG g).getD a ev0).loc=((evsG g).getD b ev0).loc) && decide ((viewG g).pl.getD a 0<(viewG g).pl.getD b 0))
 generalize (viewG g).pl.getD a 0=pa at *
 generalize (viewG g).pl.getD b 0=pb at *
 refine Pure.go (ty:=ty) ty_eq mo Tryz.func121 rfl Tryz.ntmps121 Tryz.results121 Tryz.call121 (by simp) fun P C CQ D W F E hF=>?_
 cbv
 repeat' (first
  |((first|refine E.c (SCalls.of_le (q4 (by assumption)) ?_ ?_)|refine E.q (QCalls.of_le (q4 (by assumption)) ?_ ?_));(· (cbv;(try simp only [nc] at *);first|done|(simp;done)|(simp (disch:=(first|omega|(simp only [lnS];omega))) only [rdT,rdS,anT];first|done|omega|(refine ⟨?_,?_⟩<;>omega))|(simp (disch:=(first|omega|(simp only [lnS];omega))) [rdT,rdS];done)));cbv)
  |((first|refine E.c (SCalls.of_le (q3 (by assumption)) ?_ ?_)|refine E.q (QCalls.of_le (q3 (by assumption)) ?_ ?_));(· (cbv;(try simp only [nc] at *);first|done|(simp;done)|(simp (disch:=(first|omega|(simp only [lnS];omega))) only [rdT,rdS,anT];first|done|omega|(refine ⟨?_,?_⟩<;>omega))|(simp (disch:=(first|omega|(simp only [lnS];omega))) [rdT,rdS];done)));cbv)
  |((first|refine E.c (SCalls.of_le (q2) ?_ ?_)|refine E.q (QCalls.of_le (q2) ?_ ?_));(· (cbv;(try simp only [nc] at *);first|done|(simp;done)|(simp (disch:=(first|omega|(simp only [lnS];omega))) only [rdT,rdS,anT];first|done|omega|(refine ⟨?_,?_⟩<;>omega))|(simp (disch:=(first|omega|(simp only [lnS];omega))) [rdT,rdS];done)));cbv)
  |((first|refine E.c (SCalls.of_le (q1) ?_ ?_)|refine E.q (QCalls.of_le (q1) ?_ ?_));(· (cbv;(try simp only [nc] at *);first|done|(simp;done)|(simp (disch:=(first|omega|(simp only [lnS];omega))) only [rdT,rdS,anT];first|done|omega|(refine ⟨?_,?_⟩<;>omega))|(simp (disch:=(first|omega|(simp only [lnS];omega))) [rdT,rdS];done)));cbv)
  |(refine ⟨fun _ h_s=>?_,fun _ h_s=>?_⟩<;>(cbv;(try simp only [nc] at *);try simp (disch:=(first|omega|(simp only [lnS];omega))) only [rdT,rdS,reduceCtorEq,trT] at h_s))
  |(refine hF ?_;intro _;clear hF)
  |(refine hF ?_;cbv;clear hF)
  |(refine ⟨fun _=>?_,?_⟩;(· ((try simp only [nc] at *);first|done|omega|exact ⟨by omega,rfl⟩|(simp (disch:=(first|omega|(simp only [lnS];omega))) only [rdT,rdS];first|done|omega|rfl|exact ⟨by omega,rfl⟩|(simp;done)|(simp;omega))|(intros;trivial)));(try (simp only [nc] at *));(try simp (disch:=(first|omega|(simp only [lnS];omega))) only [rdT,rdS]);(try cbv))
  |(refine E.d 33 (by decide +kernel) ?_;cbv;(fail_if_success guard_target =~ False))
  | fail
 )
 all_goals (try simp only [nc] at *)
 all_goals (try simp (disch:=(first|omega|(simp only [lnS];omega))) only [rdT,rdS])
 all_goals clear q1 q2 q3 q4
 all_goals simp_all
theorem wfr_ok (g:Gr) (hg:Rd g) (h:GOk g) (a b:Nat) (ha:a<nG g) (hb:b<nG g):Pure Tryz.prog γ false 122 [pW g,.i fun _=>(a:Int),.i fun _=>(b:Int)] (.b fun _=>frM (viewG g) a b):=by
 have q1:=wreads_ok (γ:=γ) g a ha
 have q2:=wfrom_ok (γ:=γ) g h a ha
 have hi:=fr_iff h a ha
 have hl:=(viewG_wf h).frl a ha
 have q3:=fun h0:0≤(viewG g).fr.getD a 0=>wco_ok (γ:=γ) g hg h ((viewG g).fr.getD a 0).toNat b (by omega) hb
 rw [fr_eq h a b ha]
 obtain ⟨c,hc⟩:∃ c,c=coM (viewG g) ((viewG g).fr.getD a 0).toNat b:=⟨_,rfl⟩
 rw [←hc] at q3 ⊢
 obtain ⟨r,hr⟩:∃ w,w=readsM ((viewG g).ev.getD a ev0):=⟨_,rfl⟩
 rw [←hr] at q1 hi ⊢
 generalize (viewG g).fr.getD a 0=f at *
 have q4:r=true→Pure Tryz.prog γ false 121 [pW g,.i fun _=>f,.i fun _=>(b:Int)] (.b fun _=>c):=fun hr=>by
  have:=q3 (hi.2 hr)
  rwa [Int.toNat_of_nonneg (hi.2 hr)] at this
 refine Pure.go (ty:=ty) ty_eq mo Tryz.func122 rfl Tryz.ntmps122 Tryz.results122 Tryz.call122 (by simp) fun P C CQ D W F E hF=>?_
 cbv
 repeat' (first
  |(refine E.c (SCalls.of_le (q4 (by assumption)) ?_ ?_);(· (cbv;(try simp only [nc] at *);first|done|(simp;done)|(simp (disch:=(first|omega|(simp only [lnS];omega))) only [rdT,rdS,anT];first|done|omega|(refine ⟨?_,?_⟩<;>omega))|(simp (disch:=(first|omega|(simp only [lnS];omega))) [rdT,rdS];done)));cbv)
  |(refine E.c (SCalls.of_le (q2) ?_ ?_);(· (cbv;(try simp only [nc] at *);first|done|(simp;done)|(simp (disch:=(first|omega|(simp only [lnS];omega))) only [rdT,rdS,anT];first|done|omega|(refine ⟨?_,?_⟩<;>omega))|(simp (disch:=(first|omega|(simp only [lnS];omega))) [rdT,rdS];done)));cbv)
  |(refine E.c (SCalls.of_le (q1) ?_ ?_);(· (cbv;(try simp only [nc] at *);first|done|(simp;done)|(simp (disch:=(first|omega|(simp only [lnS];omega))) only [rdT,rdS,anT];first|done|omega|(refine ⟨?_,?_⟩<;>omega))|(simp (disch:=(first|omega|(simp only [lnS];omega))) [rdT,rdS];done)));cbv)
  |(refine ⟨fun _ h_s=>?_,fun _ h_s=>?_⟩<;>(cbv;(try simp only [nc] at *);try simp (disch:=(first|omega|(simp only [lnS];omega))) only [rdT,rdS,reduceCtorEq,trT] at h_s))
  |(refine hF ?_;intro _;clear hF)
  |(refine hF ?_;cbv;clear hF)
  |(refine ⟨fun _=>?_,?_⟩;(· ((try simp only [nc] at *);first|done|omega|exact ⟨by omega,rfl⟩|(simp (disch:=(first|omega|(simp only [lnS];omega))) only [rdT,rdS];first|done|omega|rfl|exact ⟨by omega,rfl⟩|(simp;done)|(simp;omega))|(intros;trivial)));(try (simp only [nc] at *));(try simp (disch:=(first|omega|(simp only [lnS];omega))) only [rdT,rdS]);(try cbv))
  | fail
 )
 all_goals (try simp only [nc] at *)
 all_goals (try simp (disch:=(first|omega|(simp only [lnS];omega))) only [rdT,rdS])
 all_goals clear q1 q2 q3 q4
 all_goals (have e:((a:Int)=b)↔a=b:=Int.ofNat_inj;simp_all)
end Go.AL.Rl
namespace Go.AL.Rl
open Go Go.AL Go.Proofs
set_option maxRecDepth 100000
set_option maxHeartbeats 1600000
variable {γ:Nat→Option AV}
end Go.AL.Rl
namespace Go.AL.Rl
open Go Go.AL Go.Proofs
set_option maxRecDepth 100000
set_option maxHeartbeats 1600000
variable {γ:Nat→Option AV}
def closedTo (V:Vw) (s:BitVec 64) (i:Nat):Prop:=∀ j<i,(V.ev.getD j ev0).kind=3→s.getLsbD (V.fr.getD j 0).toNat=true→s.getLsbD j=true
theorem mod2_bit0 (x:BitVec 64) (i:Nat):(x >>> i) % BitVec.ofInt 64 2=0#64↔x.getLsbD i=false:=by
 rw [←BitVec.toNat_inj,BitVec.toNat_umod,BitVec.toNat_ushiftRight,BitVec.getLsbD,Nat.testBit_eq_decide_div_mod_eq,decide_eq_false_iff_not,Nat.shiftRight_eq_div_pow]
 show x.toNat / 2 ^ i % 2=0↔¬ x.toNat / 2 ^ i % 2=1
 omega
theorem wsequence_ok (g:Gr) (h:GOk g) (w:Nat) (hw:w<nG g):Pure Tryz.prog γ false 129 [pW g,.i fun _=>(w:Int)] (.u fun _=>seqM (viewG g) (nG g) w):=by
 have hn:=(viewG_wf h).small
 have h64:nG g≤64:=by omega
 have hbw:=bofInt (k:=w) (by omega)
 have ew:w % 18446744073709551616=w:=Nat.mod_eq_of_lt (by omega)
 have hEl:=evsG_l g
 have hVl:(viewG g).ev=evsG g:=rfl
 have hfrom:=fun i hi=>wfrom_ok (γ:=γ) g h i hi
 have hfr0:=fun i hi=>fr_iff h i hi
 have hfrl:=(viewG_wf h).frl
 refine Pure.go (ty:=ty) ty_eq mo Tryz.func129 rfl Tryz.ntmps129 Tryz.results129 Tryz.call129 (by simp) fun P C CQ D W F E hF=>?_
 cbv
 repeat' (first
  |(refine ⟨fun _ h_s=>?_,fun _ h_s=>?_⟩<;>(cbv;(try simp only [nc] at *);try simp (disch:=(first|omega|(simp only [lnS];omega))) only [rdT,rdS,reduceCtorEq,trT] at h_s))
  |(refine hF ?_;intro _;clear hF)
  |(refine hF ?_;cbv;clear hF)
  |(refine ⟨fun _=>?_,?_⟩;(· ((try simp only [nc] at *);first|done|omega|exact ⟨by omega,rfl⟩|(simp (disch:=(first|omega|(simp only [lnS];omega))) only [rdT,rdS];first|done|omega|rfl|exact ⟨by omega,rfl⟩|(simp;done)|(simp;omega))|(intros;trivial)));(try (simp only [nc] at *));(try simp (disch:=(first|omega|(simp only [lnS];omega))) only [rdT,rdS]);(try cbv))
  | fail
 )
 refine E.loopS (ι:=BitVec 64 × Bool) (fun q=>q.1.getLsbD w=true∧(∀ j,q.1.getLsbD j=true→InSeq (viewG g) (nG g) w j)∧(q.2=false→closedTo (viewG g) q.1 (nG g))) (fun q=>2 * (64-cntB 64 q.1)+if q.2=true then 1 else 0) (fun q=>[(5,.u fun _=>q.1),(6,.b fun _=>q.2)]) (fun q h=>h) (1#64 <<< w,true) (fun _=>rfl) ?_ ?_ fun q hq I hI=>?_
 ·refine ⟨?_,fun j hj=>?_,fun hf=>by cases hf⟩
  ·simp only;rw [BitVec.getLsbD_shiftLeft,BitVec.getLsbD_one];simp;omega
  ·simp only at hj
   rw [BitVec.getLsbD_shiftLeft,BitVec.getLsbD_one] at hj
   simp at hj
   obtain rfl:j=w:=by omega
   exact .base
 ·cbv
  simp only [hbw,bof0,bof1]
  simp
 obtain ⟨s,ag⟩:=q
 obtain ⟨hq1,hq2,hq3⟩:=hq
 simp only at hq1 hq2 hq3
 cbv
 repeat' (first
  |(refine ⟨fun _ h_s=>?_,fun _ h_s=>?_⟩<;>(cbv;(try simp only [nc] at *);try simp (disch:=(first|omega|(simp only [lnS];omega))) only [rdT,rdS,reduceCtorEq,trT] at h_s))
  |(refine hF ?_;intro _;clear hF)
  |(refine hF ?_;cbv;clear hF)
  |(refine ⟨fun _=>?_,?_⟩;(· ((try simp only [nc] at *);first|done|omega|exact ⟨by omega,rfl⟩|(simp (disch:=(first|omega|(simp only [lnS];omega))) only [rdT,rdS];first|done|omega|rfl|exact ⟨by omega,rfl⟩|(simp;done)|(simp;omega))|(intros;trivial)));(try (simp only [nc] at *));(try simp (disch:=(first|omega|(simp only [lnS];omega))) only [rdT,rdS]);(try cbv))
  | fail
 )
 ·have hag:ag=true:=by simpa using h_s
  subst hag
  refine E.loopS (ι:=Nat × BitVec 64 × Bool) (fun p=>p.1≤nG g∧p.2.1.getLsbD w=true∧(∀ j,s.getLsbD j=true→p.2.1.getLsbD j=true)∧(∀ j,p.2.1.getLsbD j=true→InSeq (viewG g) (nG g) w j)∧(p.2.2=false→p.2.1=s∧closedTo (viewG g) s p.1)∧(p.2.2=true→p.2.1≠s)) (fun p=>nG g-p.1) (fun p=>[(5,.u fun _=>p.2.1),(6,.b fun _=>p.2.2),(7,.i fun _=>((p.1:Nat):Int))]) (fun p h=>h) (0,s,false) (fun _=>rfl) ?_ ?_ fun p hp I2 hI2=>?_
  ·exact ⟨Nat.zero_le _,hq1,fun _ h=>h,hq2,fun _=>⟨rfl,fun j hj=>absurd hj (Nat.not_lt_zero j)⟩,fun hf=>by cases hf⟩
  ·cbv;simp
  obtain ⟨i,t,b⟩:=p
  obtain ⟨hp0,hp1,hp2,hp3,hp4,hp5⟩:=hp
  simp only at hp0 hp1 hp2 hp3 hp4 hp5
  cbv
  have kf:=hfrom i
  have hbi:=bofInt (k:=i) (by omega)
  have eim:i % 18446744073709551616=i:=Nat.mod_eq_of_lt (by omega)
  have hstep:i<nG g→((viewG g).ev.getD i ev0).kind=3→t.getLsbD ((viewG g).fr.getD i 0).toNat=true→InSeq (viewG g) (nG g) w i:=fun h1 h2 h3=>.step h1 h2 (hp3 _ h3)
  have hnext:i<nG g→(((viewG g).ev.getD i ev0).kind=3→t.getLsbD i=false→t.getLsbD ((viewG g).fr.getD i 0).toNat=false)→(i+1≤nG g∧t.getLsbD w=true∧(∀ j,s.getLsbD j=true→t.getLsbD j=true)∧(∀ j,t.getLsbD j=true→InSeq (viewG g) (nG g) w j)∧(b=false→t=s∧closedTo (viewG g) s (i+1))∧(b=true→t≠s)):=fun h1 h2=>by
   refine ⟨h1,hp1,hp2,hp3,fun hb=>⟨(hp4 hb).1,fun j hj hk hs=>?_⟩,hp5⟩
   rcases Nat.lt_or_ge j i with hji | hji
   ·exact (hp4 hb).2 j hji hk hs
   ·have:j=i:=by omega
    subst this
    cases hc:s.getLsbD j with
    | true=>rfl
    | false=>
     have e:=(hp4 hb).1
     have:=h2 hk (by rw [e];exact hc)
     rw [e,hs] at this;cases this
  repeat' (first
   |(refine E.c (SCalls.of_le (kf (by ((try simp only [nc] at *);omega))) ?_ ?_);(· (cbv;(try simp only [nc] at *);first|done|(simp;done)|(simp (disch:=(first|omega|(simp only [lnS];omega))) only [rdT,rdS,anT];first|done|omega|(refine ⟨?_,?_⟩<;>omega))|(simp (disch:=(first|omega|(simp only [lnS];omega))) [rdT,rdS];done)));cbv)
   |(refine ⟨fun _ h_s=>?_,fun _ h_s=>?_⟩<;>(cbv;(try simp only [nc] at *);try simp (disch:=(first|omega|(simp only [lnS];omega))) only [rdT,rdS,reduceCtorEq,trT] at h_s))
   |(refine hF ?_;intro _;clear hF)
   |(refine hF ?_;cbv;clear hF)
   |(refine ⟨fun _=>?_,?_⟩;(· ((try simp only [nc] at *);first|done|omega|exact ⟨by omega,rfl⟩|(simp (disch:=(first|omega|(simp only [lnS];omega))) only [rdT,rdS];first|done|omega|rfl|exact ⟨by omega,rfl⟩|(simp;done)|(simp;omega))|(intros;trivial)));(try (simp only [nc] at *));(try simp (disch:=(first|omega|(simp only [lnS];omega))) only [rdT,rdS]);(try cbv))
   | fail
  )
  ·have hk3:((viewG g).ev.getD i ev0).kind=3:=by assumption
   have hin:i<nG g:=by ((try simp only [nc] at *);omega)
   have hf0:0≤(viewG g).fr.getD i 0:=(hfr0 i hin).2 (by unfold readsM;rw [hk3];rfl)
   have hb0:t.getLsbD i=false:=(mod2_bit0 t i).1 (by assumption)
   rw [bofZ hf0 (by have:=hfrl i hin;omega),mod2_bit] at h_s
   have hbit:∀ j,(t ||| 1#64 <<< i).getLsbD j=(t.getLsbD j || (1#64 <<< i).getLsbD j):=fun j=>BitVec.getLsbD_or
   have hii:(1#64 <<< i).getLsbD i=true:=by rw [one_shl_bit i i (by omega)];simp
   refine hI2 (i+1,t ||| 1#64 <<< i,true) ⟨hin,?_,fun j hj=>?_,fun j hj=>?_,fun hf=>(by cases hf),fun _ he=>?_⟩ (by simp only;omega) ?_
   ·simp only;rw [hbit,hp1];rfl
   ·simp only;rw [hbit,hp2 j hj];rfl
   ·simp only at hj
    rw [hbit,Bool.or_eq_true] at hj
    rcases hj with hj | hj
    ·exact hp3 j hj
    ·have hj64:j<64:=by
      rcases Nat.lt_or_ge j 64 with h' | h'
      ·exact h'
      ·rw [BitVec.getLsbD_of_ge _ _ h'] at hj;cases hj
     rw [one_shl_bit i j hj64] at hj
     have:i=j:=by simpa using hj
     subst this
     exact hstep hin hk3 h_s
   ·simp only at he
    have h1:s.getLsbD i=true:=by rw [←he,hbit,hii];simp
    rw [hp2 i h1] at hb0;cases hb0
   ·cbv
    clear hI hI2 kf hfrom
    have e:=w64_of (n:=(i:Int)+1) (by omega) (by omega)
    (try simp only [nc] at *)
    simp [e,ew,eim]
  ·have hin:i<nG g:=by ((try simp only [nc] at *);omega)
   refine hI2 (i+1,t,b) (hnext hin fun hk3 hb0=>?_) (by simp only;omega) ?_
   ·have hf0:0≤(viewG g).fr.getD i 0:=(hfr0 i hin).2 (by unfold readsM;rw [hk3];rfl)
    rw [bofZ hf0 (by have:=hfrl i hin;omega),mod2_bit] at h_s
    simpa using h_s
   ·cbv
    clear hI hI2 kf hfrom
    have e:=w64_of (n:=(i:Int)+1) (by omega) (by omega)
    (try simp only [nc] at *)
    simp [e,ew,eim]
  ·have hin:i<nG g:=by ((try simp only [nc] at *);omega)
   refine hI2 (i+1,t,b) (hnext hin fun hk3 hb0=>?_) (by simp only;omega) ?_
   ·exfalso
    exact h_s ((mod2_bit0 t i).2 hb0)
   ·cbv
    clear hI hI2 kf hfrom
    have e:=w64_of (n:=(i:Int)+1) (by omega) (by omega)
    (try simp only [nc] at *)
    simp [e,ew,eim]
  ·have hin:i<nG g:=by ((try simp only [nc] at *);omega)
   refine hI2 (i+1,t,b) (hnext hin fun hk3 hb0=>absurd hk3 h_s) (by simp only;omega) ?_
   cbv
   clear hI hI2 kf hfrom
   have e:=w64_of (n:=(i:Int)+1) (by omega) (by omega)
   (try simp only [nc] at *)
   simp [e,ew,eim]
  ·have ei:i=nG g:=by ((try simp only [nc] at *);omega)
   refine hI (t,b) ⟨hp1,hp3,fun hb=>?_⟩ ?_ ?_
   ·rw [(hp4 hb).1,←ei];exact (hp4 hb).2
   ·simp only
    have c1:=cntB_le s 64
    have c2:=cntB_le t 64
    cases b with
    | false=>rw [(hp4 rfl).1];simp
    | true=>have:=cntB_ne hp2 (Ne.symm (hp5 rfl));simp;omega
   ·cbv
    clear hI hI2 kf hfrom
    simp [ew]
 ·have hag:ag=false:=by simpa using h_s
  exact seq_unique h64 hw hq1 hq2 (hq3 hag)
end Go.AL.Rl
namespace Go.AL.Rl
open Go Go.AL Go.Proofs
set_option maxRecDepth 100000
set_option maxHeartbeats 1600000
variable {γ:Nat→Option AV}
end Go.AL.Rl
namespace Go.AL.Rl
open Go Go.AL Go.Proofs
set_option maxRecDepth 100000
set_option maxHeartbeats 1600000
def flC (c:Nat→Bool) (f:Nat→List (Int × Int)) (k:Nat):List (Int × Int):=(List.range k).flatMap fun i=>if c i=true then f i else []
theorem flC_zero (c:Nat→Bool) (f:Nat→List (Int × Int)):flC c f 0=[]:=rfl
theorem flC_yes {c:Nat→Bool} (f:Nat→List (Int × Int)) {k:Nat} (h:c k=true):flC c f (k+1)=flC c f k++f k:=by
 unfold flC;rw [List.range_succ,List.flatMap_append];simp [h]
theorem flC_no {c:Nat→Bool} (f:Nat→List (Int × Int)) {k:Nat} (h:¬ c k=true):flC c f (k+1)=flC c f k:=by
 unfold flC;rw [List.range_succ,List.flatMap_append];simp [h]
theorem flC_len (c:Nat→Bool) (f:Nat→List (Int × Int)) (m:Nat) (hf:∀ i,(f i).length≤m):∀ k,(flC c f k).length≤k * m
 | 0=>by simp [flC]
 | k+1=>by
  have ih:=flC_len c f m hf k
  have:=hf k
  rw [Nat.add_mul,Nat.one_mul]
  by_cases h:c k=true
  ·rw [flC_yes f h,List.length_append];omega
  ·rw [flC_no f h];omega
theorem flC_mem {c:Nat→Bool} {f:Nat→List (Int × Int)} {k:Nat} {q:Int × Int}:q∈flC c f k↔∃ i<k,c i=true∧q∈f i:=by
 unfold flC
 simp only [List.mem_flatMap,List.mem_range]
 constructor
 ·rintro ⟨i,hi,h⟩
  split at h
  ·exact ⟨i,hi,by assumption,h⟩
  ·cases h
 ·rintro ⟨i,hi,h1,h2⟩
  exact ⟨i,hi,by rw [if_pos h1];exact h2⟩
def cwM (V:Vw) (w:Nat):Bool:=writesM (V.ev.getD w ev0) && decide ((V.ev.getD w ev0).order≠1)
def crM (V:Vw) (w r:Nat):Bool:=relM (V.ev.getD r ev0) && (decide (r=w) || fenceM (V.ev.getD r ev0) && poM V r w)
def caM (V:Vw) (b a:Nat):Bool:=acqM (V.ev.getD a ev0) && (decide (a=b) || fenceM (V.ev.getD a ev0) && poM V b a)
theorem swR_cr (V:Vw) (w r:Nat):swR V w r=(cwM V w && crM V w r):=by unfold swR cwM crM;simp only [Bool.and_assoc]
def lA (V:Vw) (b r a:Nat):List (Int × Int):=flC (caM V b) (fun a=>[((r:Int),(a:Int))]) a
def lR (V:Vw) (n w b r:Nat):List (Int × Int):=flC (crM V w) (fun r=>lA V b r n) r
noncomputable def lB (V:Vw) (n w b:Nat):List (Int × Int):=flC (rdrM V (seqM V n w)) (fun b=>lR V n w b n) b
noncomputable def lW (V:Vw) (n w:Nat):List (Int × Int):=flC (cwM V) (fun w=>lB V n w n) w
noncomputable def lAll (V:Vw) (n w b r a:Nat):List (Int × Int):=lW V n w++lB V n w b++lR V n w b r++lA V b r a
theorem lA_len (V:Vw) (b r a:Nat):(lA V b r a).length≤a:=by have:=flC_len (caM V b) (fun a=>[((r:Int),(a:Int))]) 1 (fun _=>by simp) a;unfold lA;omega
theorem lR_len (V:Vw) (n w b r:Nat):(lR V n w b r).length≤r * n:=flC_len _ _ _ (fun _=>lA_len _ _ _ _) _
theorem lB_len (V:Vw) (n w b:Nat):(lB V n w b).length≤b * (n * n):=flC_len _ _ _ (fun _=>lR_len _ _ _ _ _) _
theorem lW_len (V:Vw) (n w:Nat):(lW V n w).length≤w * (n * (n * n)):=flC_len _ _ _ (fun _=>lB_len _ _ _ _) _
theorem lAll_len (V:Vw) (n w b r a:Nat) (hn:n≤62) (hw:w≤n) (hb:b≤n) (hr:r≤n) (ha:a≤n):(lAll V n w b r a).length≤100000000:=by
 have h1:=lW_len V n w
 have h2:=lB_len V n w b
 have h3:=lR_len V n w b r
 have h4:=lA_len V b r a
 have e2:n * n≤62 * 62:=Nat.mul_le_mul hn hn
 have e3:n * (n * n)≤62 * (62 * 62):=Nat.mul_le_mul hn e2
 have f1:w * (n * (n * n))≤62 * (62 * (62 * 62)):=Nat.mul_le_mul (by omega) e3
 have f2:b * (n * n)≤62 * (62 * 62):=Nat.mul_le_mul (by omega) e2
 have f3:r * n≤62 * 62:=Nat.mul_le_mul (by omega) hn
 unfold lAll
 simp only [List.length_append]
 omega
theorem lAll_a1 (V:Vw) (n w b r a:Nat) (h:caM V b a=true):lAll V n w b r (a+1)=lAll V n w b r a++[((r:Int),(a:Int))]:=by
 unfold lAll lA;rw [flC_yes _ h];simp only [List.append_assoc]
theorem lAll_a0 (V:Vw) (n w b r a:Nat) (h:¬ caM V b a=true):lAll V n w b r (a+1)=lAll V n w b r a:=by
 unfold lAll lA;rw [flC_no _ h]
theorem lAll_r1 (V:Vw) (n w b r:Nat) (h:crM V w r=true):lAll V n w b (r+1) 0=lAll V n w b r n:=by
 unfold lAll lR;rw [flC_yes _ h];simp only [List.append_assoc];simp [lA,flC_zero]
theorem lAll_r0 (V:Vw) (n w b r:Nat) (h:¬ crM V w r=true):lAll V n w b (r+1) 0=lAll V n w b r 0:=by
 unfold lAll lR;rw [flC_no _ h];simp [lA,flC_zero]
theorem lAll_b1 (V:Vw) (n w b:Nat) (h:rdrM V (seqM V n w) b=true):lAll V n w (b+1) 0 0=lAll V n w b n 0:=by
 unfold lAll lB;rw [flC_yes _ h];simp [lA,lR,flC_zero]
theorem lAll_b0 (V:Vw) (n w b:Nat) (h:¬ rdrM V (seqM V n w) b=true):lAll V n w (b+1) 0 0=lAll V n w b 0 0:=by
 unfold lAll lB;rw [flC_no _ h];simp [lA,lR,flC_zero]
theorem lAll_w1 (V:Vw) (n w:Nat) (h:cwM V w=true):lAll V n (w+1) 0 0 0=lAll V n w n 0 0:=by
 unfold lAll lW;rw [flC_yes _ h];simp [lA,lR,lB,flC_zero]
theorem lAll_w0 (V:Vw) (n w:Nat) (h:¬ cwM V w=true):lAll V n (w+1) 0 0 0=lAll V n w 0 0 0:=by
 unfold lAll lW;rw [flC_no _ h];simp [lA,lR,lB,flC_zero]
theorem lAll_mem (V:Vw) (n:Nat) (q:Int × Int):q∈lAll V n n 0 0 0↔∃ w<n,cwM V w=true∧∃ b<n,rdrM V (seqM V n w) b=true∧∃ r<n,crM V w r=true∧∃ a<n,caM V b a=true∧q=((r:Int),(a:Int)):=by
 have e:lAll V n n 0 0 0=lW V n n:=by unfold lAll;simp [lA,lR,lB,flC_zero]
 rw [e]
 unfold lW;rw [flC_mem]
 refine exists_congr fun w=>and_congr_right fun _=>and_congr_right fun _=>?_
 unfold lB;rw [flC_mem]
 refine exists_congr fun b=>and_congr_right fun _=>and_congr_right fun _=>?_
 unfold lR;rw [flC_mem]
 refine exists_congr fun r=>and_congr_right fun _=>and_congr_right fun _=>?_
 unfold lA;rw [flC_mem]
 refine exists_congr fun a=>and_congr_right fun _=>and_congr_right fun _=>?_
 simp
theorem rowT_bit (V:Vw) (n r a:Nat):∀ w,(rowT V n w r).getLsbD a=true↔∃ v<w,swR V v r=true∧(tgtM V n v).getLsbD a=true
 | 0=>by simp [rowT]
 | w+1=>by
  have ih:=rowT_bit V n r a w
  unfold rowT
  constructor
  ·intro h
   split at h
   ·rw [BitVec.getLsbD_or,Bool.or_eq_true] at h
    rcases h with h | h
    ·obtain ⟨v,hv,h1,h2⟩:=ih.1 h;exact ⟨v,by omega,h1,h2⟩
    ·exact ⟨w,by omega,by assumption,h⟩
   ·obtain ⟨v,hv,h1,h2⟩:=ih.1 h;exact ⟨v,by omega,h1,h2⟩
  ·rintro ⟨v,hv,h1,h2⟩
   by_cases hvw:v=w
   ·subst hvw
    rw [if_pos h1,BitVec.getLsbD_or,h2,Bool.or_true]
   ·have h3:=ih.2 ⟨v,by omega,h1,h2⟩
    split
    ·rw [BitVec.getLsbD_or,h3];rfl
    ·exact h3
theorem ne0_bit (x:BitVec 64):x≠0#64↔∃ j,x.getLsbD j=true:=by
 constructor
 ·intro h
  refine Classical.byContradiction fun hc=>h (BitVec.eq_of_getLsbD_eq fun i hi=>?_)
  cases hx:x.getLsbD i with
  | true=>exact absurd ⟨i,hx⟩ hc
  | false=>simp
 ·rintro ⟨j,hj⟩ h
  subst h;simp at hj
theorem tgt_bit (V:Vw) (n w a:Nat) (hn:n≤62):(tgtM V n w).getLsbD a=true↔a<n∧∃ b<n,rdrM V (seqM V n w) b=true∧caM V b a=true:=by
 unfold tgtM
 rw [mask_bit _ _ (by omega)]
 simp only [Bool.and_eq_true,decide_eq_true_eq,behM,Bool.or_eq_true,ne0_bit,BitVec.getLsbD_and,mask_bit _ _ (show n≤64 by omega),caM]
 constructor
 ·rintro ⟨h1,h2,⟨h3,h4⟩ | ⟨h3,j,⟨h4,h5⟩,h6,h7⟩⟩
  ·exact ⟨h1,a,h3,h4,h2,.inl rfl⟩
  ·exact ⟨h1,j,h4,h5,h2,.inr ⟨h3,h7⟩⟩
 ·rintro ⟨h1,b,h2,h3,h4,h5 | ⟨h5,h6⟩⟩
  ·subst h5;exact ⟨h1,h4,.inl ⟨h2,h3⟩⟩
  ·exact ⟨h1,h4,.inr ⟨h5,b,⟨h2,h3⟩,h2,h6⟩⟩
theorem ofTo_sw (V:Vw) (n:Nat) (hn:n≤62):ofTo n (lAll V n n 0 0 0) (lAll V n n 0 0 0).length=swF V n:=by
 unfold swF
 refine rowsEq (n:=n) (by rw [ofTo_len];simp) (relRows_len n _) fun i j=>?_
 rw [bit_ofTo n (by omega) _ (fun q hq=>by
  obtain ⟨_,_,_,_,_,_,r,hr,_,a,ha,_,he⟩:=(lAll_mem V n q).1 hq
  exact ⟨r,hr,a,ha,he⟩) i j _ (Nat.le_refl _),List.take_length,bit_rel (by omega),Bool.eq_iff_iff,decide_eq_true_iff,lAll_mem]
 by_cases hi:i<n
 ·have e:bit (swRows V n) i j=(rowT V n n i).getLsbD j:=by unfold bit swRows;rw [tab_get n _ i hi]
  simp only [Bool.and_eq_true,decide_eq_true_eq,Prod.mk.injEq,Int.ofNat_inj,hi,true_and,e,rowT_bit,tgt_bit V n _ _ hn,swR_cr]
  constructor
  ·rintro ⟨w,hw,h1,b,hb,h2,r,hr,h3,a,ha,h4,h5,h6⟩
   subst h5;subst h6
   exact ⟨ha,w,hw,⟨h1,h3⟩,ha,b,hb,h2,h4⟩
  ·rintro ⟨_,w,hw,⟨h1,h3⟩,ha,b,hb,h2,h4⟩
   exact ⟨w,hw,h1,b,hb,h2,i,hi,h3,j,ha,h4,rfl,rfl⟩
 ·simp only [hi,decide_false,Bool.false_and,Bool.false_eq_true,iff_false]
  rintro ⟨w,hw,h1,b,hb,h2,r,hr,h3,a,ha,h4,h5⟩
  simp only [Prod.mk.injEq,Int.ofNat_inj] at h5
  omega
end Go.AL.Rl
namespace Go.AL.Rl
open Go Go.AL Go.Proofs
set_option maxRecDepth 100000
set_option maxHeartbeats 3200000
structure Emb (V U:Vw) (n m:Nat) (f:Nat→Nat):Prop where
 lt:∀ i<n,f i<m
 inj:∀ i<n,∀ j<n,f i=f j→i=j
 ids:∀ i<n,U.ids.getD (f i) id0=V.ids.getD i id0
 ev:∀ i<n,U.ev.getD (f i) ev0=V.ev.getD i ev0
 fr:∀ i<n,∀ j<n,V.fr.getD i 0=(j:Nat)→U.fr.getD (f i) 0=(f j:Nat)
 pl:∀ i<n,∀ j<n,nearM V i j=true→0≤V.pl.getD i 0→V.pl.getD i 0<V.pl.getD j 0→0≤U.pl.getD (f i) 0∧U.pl.getD (f i) 0<U.pl.getD (f j) 0
 upd:∀ i<n,(V.ev.getD i ev0).kind=3→U.pl.getD (f i) 0=U.pl.getD (U.fr.getD (f i) 0).toNat 0+1→V.pl.getD i 0=V.pl.getD (V.fr.getD i 0).toNat 0+1
theorem coh_br {hb eco:List (BitVec 64)}:(cohF hb eco).br=true↔∃ a<hb.length,∃ b<eco.length,cohB hb eco a b=true:=by
 unfold cohF
 cases e:leadM (fun a=>(cohR hb eco a).isSome) hb.length with
 | some a=>
  obtain ⟨h1,h2,_⟩:=leadM_mem e
  obtain ⟨b,hb2⟩:=Option.isSome_iff_exists.1 h2
  obtain ⟨h3,h4,_⟩:=leadM_mem hb2
  exact ⟨fun _=>⟨a,h1,b,h3,h4⟩,fun _=>rfl⟩
 | none=>
  constructor
  ·intro h;cases h
  ·rintro ⟨a,h1,b,h2,h3⟩
   have:=leadM_nothing e a h1
   cases e2:cohR hb eco a with
   | some x=>rw [e2] at this;cases this
   | none=>rw [leadM_nothing e2 b h2] at h3;cases h3
theorem hb_fits (V:Vw) {n:Nat} (h:n≤62):Fits n (hbF V n):=fits_plus (fits_or2 (fits_poF V h) (fits_swF V h))
theorem eco_fits (V:Vw) {n:Nat} (h:n≤62):Fits n (ecoF V n):=fits_plus (fits_orP V h)
section
variable {V U:Vw} {n m:Nat} {f:Nat→Nat} (E:Emb V U n m f) (hV:Wf V n) (hU:Wf U m)
include E
include hV
include hU
omit E hV in
theorem fits_tog:Fits m (togF U m):=fits_or (by have:=hU.small;omega) (by simp [fits_poF U hU.small,fits_rfF U hU.small,fits_coF U hU.small,fits_frF U hU.small])
end
end Go.AL.Rl
namespace Go.AL.Rl
open Go Go.AL Go.Proofs
set_option maxRecDepth 100000
set_option maxHeartbeats 3200000
variable {γ:Nat→Option AV}
def evL (l:List (List Ev)):List LV:=l.map evs
def idL (l:List (List EId)):List LV:=l.map ids
theorem evss_L (l:List (List Ev)):(evss l).l=(evL l).map fun x=>.vs 5 fun _=>x:=by simp [evss,evL]
theorem idss_L (l:List (List EId)):(idss l).l=(idL l).map fun x=>.vs 2 fun _=>x:=by simp [idss,idL]
theorem evL_len (l:List (List Ev)):(evL l).length=l.length:=by simp [evL]
theorem idL_len (l:List (List EId)):(idL l).length=l.length:=by simp [idL]
theorem evs_flat (l:List Ev):∀ v∈(evs l).l,v.flat=true:=by
 intro v hv
 simp only [evs,LV.l_of,List.mem_map] at hv
 obtain ⟨x,_,rfl⟩:=hv
 rfl
theorem id_flat (l:List EId):∀ v∈(ids l).l,v.flat=true:=by
 intro v hv
 simp only [ids,LV.l_of,List.mem_map] at hv
 obtain ⟨x,_,rfl⟩:=hv
 rfl
theorem set_last {α:Type} (l:List α) (a b:α):(l++[a]).set l.length b=l++[b]:=by simp
abbrev cpV (g:Gr) (n1 n2 n3 a b c d:Nat):AV:=.agg [.sl a 0 1 (fun _=>0) fun _=>g.init.length,.sl b n1 1 (fun _=>0) fun _=>g.th.length,.sl c n2 1 (fun _=>0) fun _=>g.fr.length,.sl d n3 1 (fun _=>0) fun _=>g.ord.length]
theorem rcopy_own0 (g:Gr) (hb:RdB g) (hR:Rd g):Owns Tryz.prog γ 60 [aGr g] (cpV g g.th.length g.fr.length g.ord.length 2 4 5 6)
  [.any,.any,.run 0 1 fun _=>is g.init,.any,.nest g.th.length 5 (fun _=>evL g.th) none,.nest g.fr.length 2 (fun _=>idL g.fr) none,.nest g.ord.length 2 (fun _=>idL g.ord) none]:=by
 have b0:=hb.init
 have b1:=hb.th
 have b2:=hb.fr
 have b3:=hb.ord
 have c1:∀ t,(g.th.getD t []).length * 40≤140737488351232:=fun t=>by
  rcases Nat.lt_or_ge t g.th.length with h1 | h1
  ·exact hb.ths _ (getD_mem h1)
  ·simp [List.getElem?_eq_none h1]
 have c2:∀ t,(g.fr.getD t []).length * 16≤140737488351232:=fun t=>by
  rcases Nat.lt_or_ge t g.fr.length with h1 | h1
  ·exact hb.frs _ (getD_mem h1)
  ·simp [List.getElem?_eq_none h1]
 have c3:∀ t,(g.ord.getD t []).length * 16≤140737488351232:=fun t=>by
  rcases Nat.lt_or_ge t g.ord.length with h1 | h1
  ·exact hb.ords _ (getD_mem h1)
  ·simp [List.getElem?_eq_none h1]
 obtain ⟨TH,hTH⟩:∃ TH:Nat→List LV,∀ i,TH i=evL (g.th.take i):=⟨_,fun _=>rfl⟩
 obtain ⟨FR,hFR⟩:∃ FR:Nat→List LV,∀ i,FR i=idL (g.fr.take i):=⟨_,fun _=>rfl⟩
 obtain ⟨OR,hOR⟩:∃ OR:Nat→List LV,∀ i,OR i=idL (g.ord.take i):=⟨_,fun _=>rfl⟩
 have t0:TH 0=[]:=by rw [hTH];rfl
 have f0:FR 0=[]:=by rw [hFR];rfl
 have o0:OR 0=[]:=by rw [hOR];rfl
 have tS:∀ i,i<g.th.length→TH (i+1)=TH i++[evs (g.th.getD i [])]:=fun i hi=>by rw [hTH,hTH,take_succ' _ i [] hi];simp [evL]
 have fS:∀ i,i<g.fr.length→FR (i+1)=FR i++[ids (g.fr.getD i [])]:=fun i hi=>by rw [hFR,hFR,take_succ' _ i [] hi];simp [idL]
 have oS:∀ i,i<g.ord.length→OR (i+1)=OR i++[ids (g.ord.getD i [])]:=fun i hi=>by rw [hOR,hOR,take_succ' _ i [] hi];simp [idL]
 have tl:∀ i,i≤g.th.length→(TH i).length=i:=fun i hi=>by rw [hTH,evL_len];simp;omega
 have fl:∀ i,i≤g.fr.length→(FR i).length=i:=fun i hi=>by rw [hFR,idL_len];simp;omega
 have ol:∀ i,i≤g.ord.length→(OR i).length=i:=fun i hi=>by rw [hOR,idL_len];simp;omega
 have te:TH g.th.length=evL g.th:=by rw [hTH,List.take_length]
 have fe:FR g.fr.length=idL g.fr:=by rw [hFR,List.take_length]
 have oe:OR g.ord.length=idL g.ord:=by rw [hOR,List.take_length]
 clear hTH hFR hOR
 obtain ⟨G,hG⟩:∃ G:Nat→Nat,∀ x,G x=x:=⟨_,fun _=>rfl⟩
 have hG0:G 0=0:=hG 0
 refine Owns.go (ty:=ty) ty_eq mo Tryz.func60 rfl Tryz.ntmps60 Tryz.results60 Tryz.call60 (by simp) fun P C CQ D W F E hF=>?_
 cbv
 skip
 repeat' (first
  |(refine ⟨fun _ h_s=>?_,fun _ h_s=>?_⟩<;>(cbv;(try simp only [nc] at *);try simp (disch:=(first|omega|(simp only [lnS];omega))) only [rdT,rdS,reduceCtorEq,trT] at h_s))
  |(refine hF ?_;intro _;clear hF)
  |(refine hF ?_;cbv;clear hF)
  |(refine ⟨fun _=>?_,?_⟩;(· ((try simp only [nc] at *);first|done|omega|exact ⟨by omega,rfl⟩|(simp (disch:=(first|omega|(simp only [lnS];omega))) only [rdT,rdS];first|done|omega|rfl|exact ⟨by omega,rfl⟩|(simp;done)|(simp;omega))|(intros;trivial)|(refine ⟨by simp;omega,by simp;omega,fun v hv=>?_⟩;simp only [is,evs,ids,LV.l_of,List.mem_map] at hv;obtain ⟨_,_,rfl⟩:=hv;rfl)));(try (simp only [nc] at *));(try simp (disch:=(first|omega|(simp only [lnS];omega))) only [rdT,rdS]);(try cbv))
  | fail
 )
 skip
 skip
 refine E.w (AWP.ghostField 3 1 1 rfl rfl ?_)
 refine AWP.step (Step.unrun 4 5 rfl) ?_
 refine E.loopSA (ι:=Nat) (fun i=>i≤g.th.length) (fun i=>g.th.length-i) (fun i=>[(4,.i fun _=>((i:Nat):Int))]) (fun i h=>(h.set 3 (.box (.agg [.sl 2 0 1 (fun _=>0) fun _=>g.init.length,.sl 4 (G i) 1 (fun _=>0) fun _=>i,.nils,.nils]))).set 4 (.nest (G i) 5 (fun _=>TH i) none)) 0 (fun _=>by first|rfl|simp) (Nat.zero_le _) ?_ fun i hi I hI=>?_
 ·cbv;simp [t0,hG0]
 cbv
 have e1:=tS i
 have e2:=tl i hi
 have e3:=c1 i
 repeat' (first
  |(refine hI (i+1) ?_ ?_ ?_;rotate_left 1;(· ((try simp only [nc] at *);omega));(cbv;clear hI;(try clear hF);(try simp only [nc] at *);(try simp (disch:=(first|omega|(simp only [lnS];omega))) only [rdT,rdS,anT]));rotate_left 1;(try ((try simp only [nc] at *);omega)))
  | (refine hJ (Step.put 4 5 rfl rfl fun _=>⟨rfl,rfl,?_⟩) ?_)
  |(refine E.st fun J hJ=>?_;refine E.de 10 [] [some 5] (by decide +kernel) ?_;cbv;(fail_if_success guard_target =~ False))
  |(refine ⟨fun _ h_s=>?_,fun _ h_s=>?_⟩<;>(cbv;(try simp only [nc] at *);try simp (disch:=(first|omega|(simp only [lnS];omega))) only [rdT,rdS,reduceCtorEq,trT] at h_s))
  |(refine hF ?_;intro _;clear hF)
  |(refine hF ?_;cbv;clear hF)
  |(refine ⟨fun _=>?_,?_⟩;(· ((try simp only [nc] at *);first|done|omega|exact ⟨by omega,rfl⟩|(simp (disch:=(first|omega|(simp only [lnS];omega))) only [rdT,rdS];first|done|omega|rfl|exact ⟨by omega,rfl⟩|(simp;done)|(simp;omega))|(intros;trivial)|(refine ⟨by simp;omega,by simp;omega,fun v hv=>?_⟩;simp only [is,evs,ids,LV.l_of,List.mem_map] at hv;obtain ⟨_,_,rfl⟩:=hv;rfl)|exact ⟨by first|trivial|rfl,by first|trivial|rfl,by first|trivial|rfl|(simp [LV.l];done),by first|omega|(simp;omega),by first|omega|(simp;omega),by first|exact evs_flat _|exact id_flat _⟩|exact ⟨by first|trivial|rfl,by first|trivial|rfl,by first|omega|(simp [e2];done),by omega,by omega⟩));(try (simp only [nc] at *));(try simp (disch:=(first|omega|(simp only [lnS];omega))) only [rdT,rdS]);(try cbv))
  | fail
 )
 ·rw [LV.l_of];simp [LV.l]
 ·rw [e1 (by omega),set_last]
  simp [hG,LV.l]
 obtain rfl:i=g.th.length:=by ((try simp only [nc] at *);omega)
 clear e1 e2 e3
 refine E.w (AWP.ghostField 3 2 1 rfl rfl ?_)
 refine AWP.step (Step.unrun 5 2 rfl) ?_
 refine E.loopSA (ι:=Nat) (fun i=>i≤g.fr.length) (fun i=>g.fr.length-i) (fun i=>[(5,.i fun _=>((i:Nat):Int))]) (fun i h=>(h.set 3 (.box (.agg [.sl 2 0 1 (fun _=>0) fun _=>g.init.length,.sl 4 (G g.th.length) 1 (fun _=>0) fun _=>g.th.length,.sl 5 (G i) 1 (fun _=>0) fun _=>i,.nils]))).set 5 (.nest (G i) 2 (fun _=>FR i) none)) 0 (fun _=>by first|rfl|simp) (Nat.zero_le _) ?_ fun i hi I hI=>?_
 ·cbv;simp [f0,hG0]
 cbv
 have e1:=fS i
 have e2:=fl i hi
 have e3:=c2 i
 repeat' (first
  |(refine hI (i+1) ?_ ?_ ?_;rotate_left 1;(· ((try simp only [nc] at *);omega));(cbv;clear hI;(try clear hF);(try simp only [nc] at *);(try simp (disch:=(first|omega|(simp only [lnS];omega))) only [rdT,rdS,anT]));rotate_left 1;(try ((try simp only [nc] at *);omega)))
  | (refine hJ (Step.put 5 6 rfl rfl fun _=>⟨rfl,rfl,?_⟩) ?_)
  |(refine E.st fun J hJ=>?_;refine E.de 10 [] [some 2] (by decide +kernel) ?_;cbv;(fail_if_success guard_target =~ False))
  |(refine ⟨fun _ h_s=>?_,fun _ h_s=>?_⟩<;>(cbv;(try simp only [nc] at *);try simp (disch:=(first|omega|(simp only [lnS];omega))) only [rdT,rdS,reduceCtorEq,trT] at h_s))
  |(refine hF ?_;intro _;clear hF)
  |(refine hF ?_;cbv;clear hF)
  |(refine ⟨fun _=>?_,?_⟩;(· ((try simp only [nc] at *);first|done|omega|exact ⟨by omega,rfl⟩|(simp (disch:=(first|omega|(simp only [lnS];omega))) only [rdT,rdS];first|done|omega|rfl|exact ⟨by omega,rfl⟩|(simp;done)|(simp;omega))|(intros;trivial)|(refine ⟨by simp;omega,by simp;omega,fun v hv=>?_⟩;simp only [is,evs,ids,LV.l_of,List.mem_map] at hv;obtain ⟨_,_,rfl⟩:=hv;rfl)|exact ⟨by first|trivial|rfl,by first|trivial|rfl,by first|trivial|rfl|(simp [LV.l];done),by first|omega|(simp;omega),by first|omega|(simp;omega),by first|exact evs_flat _|exact id_flat _⟩|exact ⟨by first|trivial|rfl,by first|trivial|rfl,by first|omega|(simp [e2];done),by omega,by omega⟩));(try (simp only [nc] at *));(try simp (disch:=(first|omega|(simp only [lnS];omega))) only [rdT,rdS]);(try cbv))
  | fail
 )
 ·rw [LV.l_of];simp [LV.l]
 ·rw [e1 (by omega),set_last]
  simp [hG,LV.l]
 obtain rfl:i=g.fr.length:=by ((try simp only [nc] at *);omega)
 clear e1 e2 e3
 refine E.w (AWP.ghostField 3 3 1 rfl rfl ?_)
 refine AWP.step (Step.unrun 6 2 rfl) ?_
 refine E.loopSA (ι:=Nat) (fun i=>i≤g.ord.length) (fun i=>g.ord.length-i) (fun i=>[(6,.i fun _=>((i:Nat):Int))]) (fun i h=>(h.set 3 (.box (.agg [.sl 2 0 1 (fun _=>0) fun _=>g.init.length,.sl 4 (G g.th.length) 1 (fun _=>0) fun _=>g.th.length,.sl 5 (G g.fr.length) 1 (fun _=>0) fun _=>g.fr.length,.sl 6 (G i) 1 (fun _=>0) fun _=>i]))).set 6 (.nest (G i) 2 (fun _=>OR i) none)) 0 (fun _=>by first|rfl|simp) (Nat.zero_le _) ?_ fun i hi I hI=>?_
 ·cbv;simp [o0,hG0]
 cbv
 have e1:=oS i
 have e2:=ol i hi
 have e3:=c3 i
 repeat' (first
  |(refine hI (i+1) ?_ ?_ ?_;rotate_left 1;(· ((try simp only [nc] at *);omega));(cbv;clear hI;(try clear hF);(try simp only [nc] at *);(try simp (disch:=(first|omega|(simp only [lnS];omega))) only [rdT,rdS,anT]));rotate_left 1;(try ((try simp only [nc] at *);omega)))
  | (refine hJ (Step.put 6 7 rfl rfl fun _=>⟨rfl,rfl,?_⟩) ?_)
  |(refine E.st fun J hJ=>?_;refine E.de 10 [] [some 2] (by decide +kernel) ?_;cbv;(fail_if_success guard_target =~ False))
  |(refine ⟨fun _ h_s=>?_,fun _ h_s=>?_⟩<;>(cbv;(try simp only [nc] at *);try simp (disch:=(first|omega|(simp only [lnS];omega))) only [rdT,rdS,reduceCtorEq,trT] at h_s))
  |(refine hF ?_;intro _;clear hF)
  |(refine hF ?_;cbv;clear hF)
  |(refine ⟨fun _=>?_,?_⟩;(· ((try simp only [nc] at *);first|done|omega|exact ⟨by omega,rfl⟩|(simp (disch:=(first|omega|(simp only [lnS];omega))) only [rdT,rdS];first|done|omega|rfl|exact ⟨by omega,rfl⟩|(simp;done)|(simp;omega))|(intros;trivial)|(refine ⟨by simp;omega,by simp;omega,fun v hv=>?_⟩;simp only [is,evs,ids,LV.l_of,List.mem_map] at hv;obtain ⟨_,_,rfl⟩:=hv;rfl)|exact ⟨by first|trivial|rfl,by first|trivial|rfl,by first|trivial|rfl|(simp [LV.l];done),by first|omega|(simp;omega),by first|omega|(simp;omega),by first|exact evs_flat _|exact id_flat _⟩|exact ⟨by first|trivial|rfl,by first|trivial|rfl,by first|omega|(simp [e2];done),by omega,by omega⟩));(try (simp only [nc] at *));(try simp (disch:=(first|omega|(simp only [lnS];omega))) only [rdT,rdS]);(try cbv))
  | fail
 )
 ·rw [LV.l_of];simp [LV.l]
 ·rw [e1 (by omega),set_last]
  simp [hG,LV.l]
 obtain rfl:i=g.ord.length:=by ((try simp only [nc] at *);omega)
 clear e1 e2 e3
 refine hF ?_ ?_
 all_goals simp [leV,leVs,leH,leB,vresult,AV.cells,hG,te,fe,oe]
theorem rcopy_own (g:Gr) (hb:RdB g) (hR:Rd g):∃ n1 n2 n3,Owns Tryz.prog γ 60 [aGr g] (cpV g n1 n2 n3 2 4 5 6)
  [.any,.any,.run 0 1 fun _=>is g.init,.any,.nest n1 5 (fun _=>evL g.th) none,.nest n2 2 (fun _=>idL g.fr) none,.nest n3 2 (fun _=>idL g.ord) none]:=⟨_,_,_,rcopy_own0 g hb hR⟩
end Go.AL.Rl
namespace Go.AL.Rl
open Go Go.AL Go.Proofs
set_option maxRecDepth 100000
set_option maxHeartbeats 3200000
variable {γ:Nat→Option AV}
def addS (g:Gr) (t:Nat) (e:Ev) (d:EId):Gr:=⟨g.init,g.th.set t (g.th.getD t []++[e]),g.fr.set t (g.fr.getD t []++[d]),g.ord⟩
def addO (g:Gr) (t:Nat) (e:Ev) (p:Int):List EId:=(g.ord.getD e.loc.toNat []).take (p-1).toNat++[⟨(t:Int)+1,((g.th.getD t []).length:Int)⟩]++(g.ord.getD e.loc.toNat []).drop (p-1).toNat
def addG (g:Gr) (t:Nat) (e:Ev) (d:EId) (p:Int):Gr:=⟨g.init,(addS g t e d).th,(addS g t e d).fr,if writesM e=true then g.ord.set e.loc.toNat (addO g t e p) else g.ord⟩
def addC (g:Gr) (t:Nat) (e:Ev) (d:EId) (p:Int):Prop:=fineM g.init.length e=true∧(if writesM e=true then 1≤p∧p≤((g.ord.getD e.loc.toNat []).length:Nat)+1 else p=0)∧GOk (addG g t e d p)
instance (g:Gr) (t:Nat) (e:Ev) (d:EId) (p:Int):Decidable (addC g t e d p):=inferInstanceAs (Decidable (_∧_))
def addE (g:Gr) (thread:Int) (e:Ev) (d:EId) (p:Int):Int:=
 if GOk g then (if 1≤thread∧thread≤(g.th.length:Nat) then (if (g.th.getD (thread-1).toNat []).length=14 then 3 else if addC g (thread-1).toNat e d p then 0 else 2) else 9) else 2
def addR (g:Gr) (thread:Int) (e:Ev) (d:EId) (p:Int):Gr:=if addE g thread e d p=0 then addG g (thread-1).toNat e d p else ⟨[],[],[],[]⟩
theorem rdb_ok {g:Gr} (h:GOk g):RdB g:=by
 have hs:=h.short
 have h1:=hs.th
 have h2:=hs.init
 have h3:=h.lfr
 have h4:=h.lord
 have e2:∀ l∈g.fr,l.length≤14:=fun l hl=>by
  obtain ⟨t,ht,rfl⟩:=List.getElem_of_mem hl
  have:=(h.events t (by omega)).1
  have h5:=hs.at t
  rw [show g.fr.getD t []=g.fr[t] by simp [ht]] at this
  omega
 have e3:∀ l∈g.ord,l.length≤56:=fun l hl=>by
  obtain ⟨x,hx,rfl⟩:=List.getElem_of_mem hl
  have:=h.orders x (by omega)
  unfold orderedM at this
  have hc:cntT x g.th≤56:=by have:=cntT_take hs x g.th.length;rw [List.take_length] at this;omega
  rw [show g.ord.getD x []=g.ord[x] by simp [hx]] at this
  simp only [Bool.and_eq_true,decide_eq_true_eq] at this
  omega
 exact ⟨by omega,by omega,by omega,by omega,fun l hl=>by have:=hs.ths l hl;omega,fun l hl=>by have:=e2 l hl;omega,fun l hl=>by have:=e3 l hl;omega⟩
theorem ord56 {g:Gr} (h:GOk g) (x:Nat):(g.ord.getD x []).length≤56:=by
 rcases Nat.lt_or_ge x g.init.length with hx | hx
 ·have:=h.orders x hx
  unfold orderedM at this
  have hc:cntT x g.th≤56:=by have:=cntT_take h.short x g.th.length;rw [List.take_length] at this;omega
  simp only [Bool.and_eq_true,decide_eq_true_eq] at this
  omega
 ·rw [List.getD_eq_getElem?_getD,List.getElem?_eq_none (by have:=h.lord;omega)];simp
theorem rd_short {g:Gr} (h:GOk g):Rd g:=by
 have hb:=rdb_ok h
 exact ⟨by have:=hb.init;omega,by have:=hb.th;omega,by have:=hb.fr;omega,by have:=hb.ord;omega,fun l hl=>by have:=hb.ths l hl;omega,fun l hl=>by have:=hb.frs l hl;omega,fun l hl=>by have:=hb.ords l hl;omega⟩
end Go.AL.Rl
