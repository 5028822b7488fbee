import Derived.Test.YtbpebafmnnofjaaGreatDoorPs5
set_option linter.unusedVariables false
set_option linter.unusedSimpArgs false
namespace Go.AL.Rl
open Go Go.AL Go.Proofs
set_option maxRecDepth 100000
set_option maxHeartbeats 3200000
variable {γ : Nat → Option AV}

theorem plook_no (g : Gr) (hg : Rd g) (h : ¬ GOk g) : Pure Tryz.prog γ false 39 [aGr g] (.tup [aPv ⟨[], [], [], []⟩ [] 0 [], .b fun _ => false]) := by
 have kd := dAll_no (γ := γ) g hg h
 refine Pure.go (ty := ty) ty_eq mo Tryz.func39 rfl Tryz.ntmps39 Tryz.results39 Tryz.call39 (by simp) fun P C CQ D W F E hF => ?_
 cbv
 repeat' (first
  |(refine E.c (SCalls.of_le (kd) ?_ ?_);(· (cbv;(try simp only [nc] at *);first|done|(simp;done)|(simp (disch:=(first|omega|(simp only [lnS];omega))) only [rdT,rdS,anT];first|done|omega|(refine ⟨?_,?_⟩<;>omega))|(simp (disch:=(first|omega|(simp only [lnS];omega))) [rdT,rdS];done)));cbv)
  |(refine ⟨fun _ h_s=>?_,fun _ h_s=>?_⟩<;>(cbv;(try simp only [nc] at *);try simp (disch:=(first|omega|(simp only [lnS];omega))) only [rdT,rdS,reduceCtorEq,trT] at h_s))
  |(refine hF ?_;intro _;clear hF)
  |(refine hF ?_;cbv;clear hF)
  |(refine ⟨fun _=>?_,?_⟩;(· ((try simp only [nc] at *);first|done|omega|exact ⟨by omega,rfl⟩|(simp (disch:=(first|omega|(simp only [lnS];omega))) only [rdT,rdS];first|done|omega|rfl|exact ⟨by omega,rfl⟩|(simp;done)|(simp;omega))|(intros;trivial)));(try (simp only [nc] at *));(try simp (disch:=(first|omega|(simp only [lnS];omega))) only [rdT,rdS]);(try cbv))
  | fail
 )
 all_goals first
  | (exfalso; revert h_s; simp; done)
  | (simp [is, us, ids, evss, idss, LV.of, LV.l]; done)
theorem plook_yes (hγ : γ 0 = some tabAV) (g : Gr) (hg : Rd g) (h : GOk g) : Pure Tryz.prog γ false 39 [aGr g] (.tup [aPv g (idsG g) (nG g : Nat) (backF (viewG g) (nG g)), .b fun _ => true]) := by
 have kd := dAll_yes (γ := γ) g hg h
 have hn := (viewG_wf h).small
 have hin := h.short.init
 have hth := h.short.th
 have hs := h.short
 have hle : ∀ t, (g.th.getD t []).length ≤ 14 := hs.at
 have ko := or2 (γ := γ) (nG g) _ _ (fits_poF (viewG g) hn) (fits_rfF (viewG g) hn)
 have kt := turn_ok (γ := γ) hγ (nG g) _ (fits_or2 (fits_poF (viewG g) hn) (fits_rfF (viewG g) hn))
 have eb : backF (viewG g) (nG g) = turnM (orM (nG g) [((nG g : Int), poF (viewG g) (nG g)), ((nG g : Int), rfF (viewG g) (nG g))]) := rfl
 rw [← eb] at kt
 clear eb
 generalize orM (nG g) [((nG g : Int), poF (viewG g) (nG g)), ((nG g : Int), rfF (viewG g) (nG g))] = q0 at *
 generalize backF (viewG g) (nG g) = bk at *
 generalize poF (viewG g) (nG g) = q1 at *
 generalize rfF (viewG g) (nG g) = q2 at *
 generalize coF (viewG g) (nG g) = q3 at *
 generalize frF (viewG g) (nG g) = q4 at *
 generalize swF (viewG g) (nG g) = q5 at *
 generalize ecoF (viewG g) (nG g) = q6 at *
 generalize porfF (viewG g) (nG g) = q7 at *
 generalize hbF (viewG g) (nG g) = q8 at *
 generalize locF (viewG g) (nG g) = q9 at *
 obtain ⟨L, hL⟩ : ∃ L : Nat → List EId, ∀ x, L x = idsI x := ⟨_, fun _ => rfl⟩
 obtain ⟨L2, hL2⟩ : ∃ L2 : Nat → Nat → List EId, ∀ t i, L2 t i = idsI g.init.length ++ idsT g t ++ idsE t i := ⟨_, fun _ _ => rfl⟩
 have l0 : L 0 = [] := by rw [hL]; rfl
 have lS : ∀ x, L (x + 1) = L x ++ [⟨0, x⟩] := fun x => by rw [hL, hL, idsI_succ]
 have lL : ∀ x, (L x).length = x := fun x => by rw [hL, idsI_len]
 have lE : L g.init.length = L2 0 0 := by rw [hL, hL2]; simp [idsT, idsE]
 have mS : ∀ t i, L2 t (i + 1) = L2 t i ++ [⟨t + 1, i⟩] := fun t i => by rw [hL2, hL2, idsE_succ]; simp only [List.append_assoc]
 have mE : ∀ t, L2 t (g.th.getD t []).length = L2 (t + 1) 0 := fun t => by rw [hL2, hL2, idsT_succ]; simp [idsE]
 have mF : L2 g.th.length 0 = idsG g := by rw [hL2]; simp [idsE, idsG]
 have mL : ∀ t i, (L2 t i).length ≤ 6 + 14 * t + i := fun t i => by
  have := evsT_len hs t
  rw [hL2]; simp only [List.length_append, idsI_len, idsE_len, idsT_len]; omega
 obtain ⟨G, hG⟩ : ∃ G : List EId → Nat, ∀ l, G l = l.length := ⟨_, fun _ => rfl⟩
 have hG0 : G [] = 0 := by rw [hG]; rfl
 rw [← mF]
 generalize nG g = n at *
 refine Pure.go (ty := ty) ty_eq mo Tryz.func39 rfl Tryz.ntmps39 Tryz.results39 Tryz.call39 (by simp) fun P C CQ D W F E hF => ?_
 cbv
 repeat' (first
  |((first|refine E.c (SCalls.of_le (kt) ?_ ?_)|refine E.q (QCalls.of_le (kt) ?_ ?_));(· (cbv;(try simp only [nc] at *);first|done|(simp;done)|(simp (disch:=(first|omega|(simp only [lnS];omega))) only [rdT,rdS,anT];first|done|omega|(refine ⟨?_,?_⟩<;>omega))|(simp (disch:=(first|omega|(simp only [lnS];omega))) [rdT,rdS];done)));cbv)
  | (refine E.c (SCalls.of_bare (ko) rfl ?_ ?_); (· (cbv; simp [rls, ps, us, is, LV.of]; done)); cbv)
  | (refine E.c (SCalls.of_le (ko) ?_ ?_); (· (cbv; simp [rls, ps, us, is, LV.of]; done)); cbv)
  | (refine E.q (QCalls.of_le (ko) ?_ ?_); (· (cbv; simp [rls, ps, us, is, LV.of]; done)); cbv)
  |(refine E.de 12 [] [none] (by decide +kernel) ?_;cbv;(fail_if_success guard_target =~ False))
  |(refine E.c (SCalls.of_le (kd) ?_ ?_);(· (cbv;(try simp only [nc] at *);first|done|(simp;done)|(simp (disch:=(first|omega|(simp only [lnS];omega))) only [rdT,rdS,anT];first|done|omega|(refine ⟨?_,?_⟩<;>omega))|(simp (disch:=(first|omega|(simp only [lnS];omega))) [rdT,rdS];done)));cbv)
  |(refine ⟨fun _ h_s=>?_,fun _ h_s=>?_⟩<;>(cbv;(try simp only [nc] at *);try simp (disch:=(first|omega|(simp only [lnS];omega))) only [rdT,rdS,reduceCtorEq,trT] at h_s))
  |(refine hF ?_;intro _;clear hF)
  |(refine hF ?_;cbv;clear hF)
  |(refine ⟨fun _=>?_,?_⟩;(· ((try simp only [nc] at *);first|done|omega|exact ⟨by omega,rfl⟩|(simp (disch:=(first|omega|(simp only [lnS];omega))) only [rdT,rdS];first|done|omega|rfl|exact ⟨by omega,rfl⟩|(simp;done)|(simp;omega))|(intros;trivial)));(try (simp only [nc] at *));(try simp (disch:=(first|omega|(simp only [lnS];omega))) only [rdT,rdS]);(try cbv))
  | fail
 )
 ·exact absurd trivial h_s
 clear kd ko kt
 refine E.w (AWP.ghostField 3 4 2 rfl rfl ?_)
 refine E.loopSA (ι:=Nat) (fun x=>x≤g.init.length) (fun x=>g.init.length - x) (fun x=>[(33,.i fun _=>((x : Nat) : Int))]) (fun x h=>(h.set 3 (.box (.agg [.vs 1 fun _=>is g.init,.vs 1 fun _=>evss g.th,.vs 1 fun _=>idss g.fr,.vs 1 fun _=>idss g.ord,.sl 4 (G (L x)) 2 (fun _=>0) fun _=>(L x).length,.i fun _=>(n : Int),.vs 1 fun _=>us bk]))).set 4 (.run (G (L x)) 2 fun _=>ids (L x))) 0 (fun _=>by first|rfl|simp) (Nat.zero_le _) ?_ fun x hx I hI=>?_
 ·cbv; simp [l0, hG0, ids, LV.of]
 cbv
 have e1 := lS x
 have e2 := lL x
 skip
 repeat' (first
  |(refine hI (x + 1) ?_ ?_ ?_;rotate_left 1;(· ((try simp only [nc] at *);omega));(cbv;clear hI;(try clear hF);(try simp only [nc] at *);(try simp (disch:=(first|omega|(simp only [lnS];omega))) only [rdT,rdS,anT]));rotate_left 1;(try ((try simp only [nc] at *);omega)))
  |(refine ⟨fun _ h_s=>?_,fun _ h_s=>?_⟩<;>(cbv;(try simp only [nc] at *);try simp (disch:=(first|omega|(simp only [lnS];omega))) only [rdT,rdS,reduceCtorEq,trT] at h_s))
  |(refine hF ?_;intro _;clear hF)
  |(refine hF ?_;cbv;clear hF)
  |(refine ⟨fun _=>?_,?_⟩;(· ((try simp only [nc] at *);first|done|omega|exact ⟨by omega,rfl⟩|(simp (disch:=(first|omega|(simp only [lnS];omega))) only [rdT,rdS];first|done|omega|rfl|exact ⟨by omega,rfl⟩|(simp;done)|(simp;omega))|(intros;trivial)|exact ⟨by first|trivial|rfl,by first|trivial|rfl|simp,by first|trivial|simp,by simp;omega,by simp;omega,by simp [AV.flat,AV.cells,AV.one]⟩));(try (simp only [nc] at *));(try simp (disch:=(first|omega|(simp only [lnS];omega))) only [rdT,rdS]);(try cbv))
  | fail
 )
 ·simp [hG, e1, ids, setAll, AV.nrm, nrms, nrm1]
 clear hI
 have ex : x = g.init.length := by ((try simp only [nc] at *); omega)
 subst ex
 rw [lE]
 refine E.loopS (ι:=Nat) (fun t=>t≤g.th.length) (fun t=>g.th.length - t) (fun t=>[(47,.i fun _=>((t : Nat) : Int))]) (fun t h=>(h.set 3 (.box (.agg [.vs 1 fun _=>is g.init,.vs 1 fun _=>evss g.th,.vs 1 fun _=>idss g.fr,.vs 1 fun _=>idss g.ord,.sl 4 (G (L2 t 0)) 2 (fun _=>0) fun _=>(L2 t 0).length,.i fun _=>(n : Int),.vs 1 fun _=>us bk]))).set 4 (.run (G (L2 t 0)) 2 fun _=>ids (L2 t 0))) 0 (fun _=>by first|rfl|simp) (Nat.zero_le _) ?_ fun t ht I1 hI1=>?_
 ·cbv; simp
 cbv
 have hgt := hle t
 repeat' (first
  |(refine ⟨fun _ h_s=>?_,fun _ h_s=>?_⟩<;>(cbv;(try simp only [nc] at *);try simp (disch:=(first|omega|(simp only [lnS];omega))) only [rdT,rdS,reduceCtorEq,trT] at h_s))
  |(refine hF ?_;intro _;clear hF)
  |(refine hF ?_;cbv;clear hF)
  |(refine ⟨fun _=>?_,?_⟩;(· ((try simp only [nc] at *);first|done|omega|exact ⟨by omega,rfl⟩|(simp (disch:=(first|omega|(simp only [lnS];omega))) only [rdT,rdS];first|done|omega|rfl|exact ⟨by omega,rfl⟩|(simp;done)|(simp;omega))|(intros;trivial)|exact ⟨by first|trivial|rfl,by first|trivial|rfl|simp,by first|trivial|simp,by simp;omega,by simp;omega,by simp [AV.flat,AV.cells,AV.one]⟩));(try (simp only [nc] at *));(try simp (disch:=(first|omega|(simp only [lnS];omega))) only [rdT,rdS]);(try cbv))
  | fail
 )
 ·refine E.loopS (ι:=Nat) (fun i=>i≤(g.th.getD t []).length) (fun i=>(g.th.getD t []).length - i) (fun i=>[(54,.i fun _=>((i : Nat) : Int))]) (fun i h=>(h.set 3 (.box (.agg [.vs 1 fun _=>is g.init,.vs 1 fun _=>evss g.th,.vs 1 fun _=>idss g.fr,.vs 1 fun _=>idss g.ord,.sl 4 (G (L2 t i)) 2 (fun _=>0) fun _=>(L2 t i).length,.i fun _=>(n : Int),.vs 1 fun _=>us bk]))).set 4 (.run (G (L2 t i)) 2 fun _=>ids (L2 t i))) 0 (fun _=>by first|rfl|simp) (Nat.zero_le _) ?_ fun i hi I2 hI2=>?_
  ·cbv; simp
  cbv
  have f1 := mS t i
  have f2 := mL t i
  have f3 := mE t
  repeat' (first
   |(refine hI1 (t + 1) ?_ ?_ ?_;rotate_left 1;(· ((try simp only [nc] at *);omega));(cbv;clear hI1;(try clear hF);(try simp only [nc] at *);(try simp (disch:=(first|omega|(simp only [lnS];omega))) only [rdT,rdS,anT]));rotate_left 1;(try ((try simp only [nc] at *);omega)))
   |(refine hI2 (i + 1) ?_ ?_ ?_;rotate_left 1;(· ((try simp only [nc] at *);omega));(cbv;clear hI2;(try clear hF);(try simp only [nc] at *);(try simp (disch:=(first|omega|(simp only [lnS];omega))) only [rdT,rdS,anT]));rotate_left 1;(try ((try simp only [nc] at *);omega)))
   |(refine ⟨fun _ h_s=>?_,fun _ h_s=>?_⟩<;>(cbv;(try simp only [nc] at *);try simp (disch:=(first|omega|(simp only [lnS];omega))) only [rdT,rdS,reduceCtorEq,trT] at h_s))
   |(refine hF ?_;intro _;clear hF)
   |(refine hF ?_;cbv;clear hF)
   |(refine ⟨fun _=>?_,?_⟩;(· ((try simp only [nc] at *);first|done|omega|exact ⟨by omega,rfl⟩|(simp (disch:=(first|omega|(simp only [lnS];omega))) only [rdT,rdS];first|done|omega|rfl|exact ⟨by omega,rfl⟩|(simp;done)|(simp;omega))|(intros;trivial)|exact ⟨by first|trivial|rfl,by first|trivial|rfl|simp,by first|trivial|simp,by simp;omega,by simp;omega,by simp [AV.flat,AV.cells,AV.one]⟩));(try (simp only [nc] at *));(try simp (disch:=(first|omega|(simp only [lnS];omega))) only [rdT,rdS]);(try cbv))
   | fail
  )
  ·simp [hG, f1, ids, setAll, AV.nrm, nrms, nrm1]
  ·have e : i = (g.th.getD t []).length := by ((try simp only [nc] at *); omega)
   subst e
   rw [f3]
   exact ⟨by push_cast; rfl, ⟨rfl, rfl⟩, rfl, rfl⟩
 ·have et : t = g.th.length := by ((try simp only [nc] at *); omega)
  subst et
  simp
  exact List.take_of_length_le (by simp)
theorem grow_lt {n : Nat} {rows : List (BitVec 64)} (hf : Fits n rows) {m : BitVec 64} (hm : ∀ j, m.getLsbD j = true → j < n) {j : Nat} (h : (growM n rows m).getLsbD j = true) : j < n := by
 rw [grow_bit hf] at h
 rcases h with h | ⟨p, _, h⟩
 ·exact hm j h
 ·have := (fits_bits (fits_plus hf) h).2
  have e := (fits_plus hf).2.2.1
  omega
theorem image_lt {n : Nat} {rows : List (BitVec 64)} (hf : Fits n rows) {m : BitVec 64} {j : Nat} (h : (imageM n rows m).getLsbD j = true) : j < n := by
 obtain ⟨p, _, h⟩ := (bit_image hf _ _).1 h
 have := (fits_bits hf h).2
 have e := hf.2.2.1
 omega
def leansM (g : Gr) (d : EId) : List EId := if GOk g then tellM (idsG g) (evP g.init.length (growM (nG g) (backF (viewG g) (nG g)) (imageM (nG g) (backF (viewG g) (nG g)) (bitP (idsG g) g.init.length d)))) else []
def closedG (g : Gr) (l : List EId) : Bool := decide (GOk g) && closedP g (idsG g) (nG g) (backF (viewG g) (nG g)) l
theorem pleans_ok (hγ : γ 0 = some tabAV) (g : Gr) (hg : Rd g) (d : EId) : Pure Tryz.prog γ false 15 [aGr g, aId d] (.vs 2 fun _ => ids (leansM g d)) := by
 unfold leansM
 by_cases h : GOk g
 ·rw [if_pos h]
  have hn := (viewG_wf h).small
  have hx := h.short.init
  have hf := backF_fits (viewG g) hn
  have kl := plook_yes (γ := γ) hγ g hg h
  have kb := pbit_ok (γ := γ) g (idsG g) (nG g : Nat) (backF (viewG g) (nG g)) d (by show nG g ≤ 62; exact hn)
  have ki := image_ok (γ := γ) hγ (nG g : Nat) (backF (viewG g) (nG g)) (bitP (idsG g) g.init.length d)
  have kg := pgrow_ok (γ := γ) hγ g (idsG g) (nG g) (backF (viewG g) (nG g)) (imageM (nG g) (backF (viewG g) (nG g)) (bitP (idsG g) g.init.length d)) hf
  have kt := ptell_ok (γ := γ) hγ g (idsG g) (nG g : Nat) (backF (viewG g) (nG g)) (growM (nG g) (backF (viewG g) (nG g)) (imageM (nG g) (backF (viewG g) (nG g)) (bitP (idsG g) g.init.length d))) (by show nG g ≤ 62; exact hn) hx (fun j hj => by
   rw [ev_bit, Bool.and_eq_true] at hj
   exact grow_lt hf (fun j hj => image_lt hf hj) hj.2)
  generalize tellM _ _ = T at *
  generalize growM _ _ _ = m2 at *
  generalize imageM _ _ _ = m1 at *
  generalize bitP _ _ _ = m0 at *
  generalize backF (viewG g) (nG g) = bk at *
  refine Pure.go (ty := ty) ty_eq mo Tryz.func15 rfl Tryz.ntmps15 Tryz.results15 Tryz.call15 (by simp) fun P C CQ D W F E hF => ?_
  cbv
  repeat' (first
   |((first|refine E.c (SCalls.of_le (kt) ?_ ?_)|refine E.q (QCalls.of_le (kt) ?_ ?_));(· (cbv;(try simp only [nc] at *);first|done|(simp;done)|(simp (disch:=(first|omega|(simp only [lnS];omega))) only [rdT,rdS,anT];first|done|omega|(refine ⟨?_,?_⟩<;>omega))|(simp (disch:=(first|omega|(simp only [lnS];omega))) [rdT,rdS];done)));cbv)
   |((first|refine E.c (SCalls.of_le (kg) ?_ ?_)|refine E.q (QCalls.of_le (kg) ?_ ?_));(· (cbv;(try simp only [nc] at *);first|done|(simp;done)|(simp (disch:=(first|omega|(simp only [lnS];omega))) only [rdT,rdS,anT];first|done|omega|(refine ⟨?_,?_⟩<;>omega))|(simp (disch:=(first|omega|(simp only [lnS];omega))) [rdT,rdS];done)));cbv)
   |((first|refine E.c (SCalls.of_le (ki) ?_ ?_)|refine E.q (QCalls.of_le (ki) ?_ ?_));(· (cbv;(try simp only [nc] at *);first|done|(simp;done)|(simp (disch:=(first|omega|(simp only [lnS];omega))) only [rdT,rdS,anT];first|done|omega|(refine ⟨?_,?_⟩<;>omega))|(simp (disch:=(first|omega|(simp only [lnS];omega))) [rdT,rdS];done)));cbv)
   |((first|refine E.c (SCalls.of_le (kb) ?_ ?_)|refine E.q (QCalls.of_le (kb) ?_ ?_));(· (cbv;(try simp only [nc] at *);first|done|(simp;done)|(simp (disch:=(first|omega|(simp only [lnS];omega))) only [rdT,rdS,anT];first|done|omega|(refine ⟨?_,?_⟩<;>omega))|(simp (disch:=(first|omega|(simp only [lnS];omega))) [rdT,rdS];done)));cbv)
   |(refine E.c (SCalls.of_le (kl) ?_ ?_);(· (cbv;(try simp only [nc] at *);first|done|(simp;done)|(simp (disch:=(first|omega|(simp only [lnS];omega))) only [rdT,rdS,anT];first|done|omega|(refine ⟨?_,?_⟩<;>omega))|(simp (disch:=(first|omega|(simp only [lnS];omega))) [rdT,rdS];done)));cbv)
   |(refine ⟨fun _ h_s=>?_,fun _ h_s=>?_⟩<;>(cbv;(try simp only [nc] at *);try simp (disch:=(first|omega|(simp only [lnS];omega))) only [rdT,rdS,reduceCtorEq,trT] at h_s))
   |(refine hF ?_;intro _;clear hF)
   |(refine hF ?_;cbv;clear hF)
   |(refine ⟨fun _=>?_,?_⟩;(· ((try simp only [nc] at *);first|done|omega|exact ⟨by omega,rfl⟩|(simp (disch:=(first|omega|(simp only [lnS];omega))) only [rdT,rdS];first|done|omega|rfl|exact ⟨by omega,rfl⟩|(simp;done)|(simp;omega))|(intros;trivial)|exact ⟨by first|trivial|rfl,by first|trivial|rfl|simp,by first|trivial|simp,by simp;omega,by simp;omega,by simp [AV.flat,AV.cells,AV.one]⟩));(try (simp only [nc] at *));(try simp (disch:=(first|omega|(simp only [lnS];omega))) only [rdT,rdS]);(try cbv))
   |(refine E.d 9 (by decide +kernel) ?_;cbv;(fail_if_success guard_target =~ False))
   | fail
  )
  all_goals (intro _; rfl)
 ·rw [if_neg h]
  have kl := plook_no (γ := γ) g hg h
  refine Pure.go (ty := ty) ty_eq mo Tryz.func15 rfl Tryz.ntmps15 Tryz.results15 Tryz.call15 (by simp) fun P C CQ D W F E hF => ?_
  cbv
  repeat' (first
   |(refine E.c (SCalls.of_le (kl) ?_ ?_);(· (cbv;(try simp only [nc] at *);first|done|(simp;done)|(simp (disch:=(first|omega|(simp only [lnS];omega))) only [rdT,rdS,anT];first|done|omega|(refine ⟨?_,?_⟩<;>omega))|(simp (disch:=(first|omega|(simp only [lnS];omega))) [rdT,rdS];done)));cbv)
   |(refine ⟨fun _ h_s=>?_,fun _ h_s=>?_⟩<;>(cbv;(try simp only [nc] at *);try simp (disch:=(first|omega|(simp only [lnS];omega))) only [rdT,rdS,reduceCtorEq,trT] at h_s))
   |(refine hF ?_;intro _;clear hF)
   |(refine hF ?_;cbv;clear hF)
   |(refine ⟨fun _=>?_,?_⟩;(· ((try simp only [nc] at *);first|done|omega|exact ⟨by omega,rfl⟩|(simp (disch:=(first|omega|(simp only [lnS];omega))) only [rdT,rdS];first|done|omega|rfl|exact ⟨by omega,rfl⟩|(simp;done)|(simp;omega))|(intros;trivial)|exact ⟨by first|trivial|rfl,by first|trivial|rfl|simp,by first|trivial|simp,by simp;omega,by simp;omega,by simp [AV.flat,AV.cells,AV.one]⟩));(try (simp only [nc] at *));(try simp (disch:=(first|omega|(simp only [lnS];omega))) only [rdT,rdS]);(try cbv))
   |(refine E.d 9 (by decide +kernel) ?_;cbv;(fail_if_success guard_target =~ False))
   | fail
  )
  all_goals simp [ids, LV.of, LV.l]
theorem pclosedG_ok (hγ : γ 0 = some tabAV) (g : Gr) (hg : Rd g) (l : List EId) (hl : (l.length : Int) ≤ 9223372036854775807) : Pure Tryz.prog γ false 44 [aGr g, .vs 2 fun _ => ids l] (.b fun _ => closedG g l) := by
 unfold closedG
 by_cases h : GOk g
 ·rw [decide_eq_true h]
  have hn := (viewG_wf h).small
  have hx := h.short.init
  have kl := plook_yes (γ := γ) hγ g hg h
  have kc := pclosed_ok (γ := γ) hγ g (idsG g) (nG g) (backF (viewG g) (nG g)) l (by show nG g ≤ 62; exact hn) hx (backF_fits (viewG g) hn) hl
  generalize closedP g _ _ _ l = cc at *
  generalize backF (viewG g) (nG g) = bk at *
  refine Pure.go (ty := ty) ty_eq mo Tryz.func44 rfl Tryz.ntmps44 Tryz.results44 Tryz.call44 (by simp) fun P C CQ D W F E hF => ?_
  cbv
  repeat' (first
   |(refine E.c (SCalls.of_le (kc) ?_ ?_);(· (cbv;(try simp only [nc] at *);first|done|(simp;done)|(simp (disch:=(first|omega|(simp only [lnS];omega))) only [rdT,rdS,anT];first|done|omega|(refine ⟨?_,?_⟩<;>omega))|(simp (disch:=(first|omega|(simp only [lnS];omega))) [rdT,rdS];done)));cbv)
   |(refine E.c (SCalls.of_le (kl) ?_ ?_);(· (cbv;(try simp only [nc] at *);first|done|(simp;done)|(simp (disch:=(first|omega|(simp only [lnS];omega))) only [rdT,rdS,anT];first|done|omega|(refine ⟨?_,?_⟩<;>omega))|(simp (disch:=(first|omega|(simp only [lnS];omega))) [rdT,rdS];done)));cbv)
   |(refine ⟨fun _ h_s=>?_,fun _ h_s=>?_⟩<;>(cbv;(try simp only [nc] at *);try simp (disch:=(first|omega|(simp only [lnS];omega))) only [rdT,rdS,reduceCtorEq,trT] at h_s))
   |(refine hF ?_;intro _;clear hF)
   |(refine hF ?_;cbv;clear hF)
   |(refine ⟨fun _=>?_,?_⟩;(· ((try simp only [nc] at *);first|done|omega|exact ⟨by omega,rfl⟩|(simp (disch:=(first|omega|(simp only [lnS];omega))) only [rdT,rdS];first|done|omega|rfl|exact ⟨by omega,rfl⟩|(simp;done)|(simp;omega))|(intros;trivial)|exact ⟨by first|trivial|rfl,by first|trivial|rfl|simp,by first|trivial|simp,by simp;omega,by simp;omega,by simp [AV.flat,AV.cells,AV.one]⟩));(try (simp only [nc] at *));(try simp (disch:=(first|omega|(simp only [lnS];omega))) only [rdT,rdS]);(try cbv))
   | fail
  )
  all_goals rfl
 ·rw [decide_eq_false h]
  have kl := plook_no (γ := γ) g hg h
  refine Pure.go (ty := ty) ty_eq mo Tryz.func44 rfl Tryz.ntmps44 Tryz.results44 Tryz.call44 (by simp) fun P C CQ D W F E hF => ?_
  cbv
  repeat' (first
   |(refine E.c (SCalls.of_le (kl) ?_ ?_);(· (cbv;(try simp only [nc] at *);first|done|(simp;done)|(simp (disch:=(first|omega|(simp only [lnS];omega))) only [rdT,rdS,anT];first|done|omega|(refine ⟨?_,?_⟩<;>omega))|(simp (disch:=(first|omega|(simp only [lnS];omega))) [rdT,rdS];done)));cbv)
   |(refine ⟨fun _ h_s=>?_,fun _ h_s=>?_⟩<;>(cbv;(try simp only [nc] at *);try simp (disch:=(first|omega|(simp only [lnS];omega))) only [rdT,rdS,reduceCtorEq,trT] at h_s))
   |(refine hF ?_;intro _;clear hF)
   |(refine hF ?_;cbv;clear hF)
   |(refine ⟨fun _=>?_,?_⟩;(· ((try simp only [nc] at *);first|done|omega|exact ⟨by omega,rfl⟩|(simp (disch:=(first|omega|(simp only [lnS];omega))) only [rdT,rdS];first|done|omega|rfl|exact ⟨by omega,rfl⟩|(simp;done)|(simp;omega))|(intros;trivial)|exact ⟨by first|trivial|rfl,by first|trivial|rfl|simp,by first|trivial|simp,by simp;omega,by simp;omega,by simp [AV.flat,AV.cells,AV.one]⟩));(try (simp only [nc] at *));(try simp (disch:=(first|omega|(simp only [lnS];omega))) only [rdT,rdS]);(try cbv))
   | fail
  )
  all_goals simp [ids, LV.of, LV.l]
end Go.AL.Rl

namespace Go.AL.Rl
open Go Go.AL Go.Proofs
set_option maxRecDepth 100000
set_option maxHeartbeats 3200000
variable {γ : Nat → Option AV}

theorem clone_ok (l : List Int) (hl : (l.length : Int) ≤ 17592186044416) : Pure Tryz.prog γ false 35 [.vs 1 fun _ => is l] (.vs 1 fun _ => is l) := by
 refine Pure.go (ty := ty) ty_eq mo Tryz.func35 rfl Tryz.ntmps35 Tryz.results35 Tryz.call35 (by simp) fun P C CQ D W F E hF => ?_
 cbv
 repeat' (first
  |(refine ⟨fun _ h_s=>?_,fun _ h_s=>?_⟩<;>(cbv;(try simp only [nc] at *);try simp (disch:=(first|omega|(simp only [lnS];omega))) only [rdT,rdS,reduceCtorEq,trT] at h_s))
  |(refine hF ?_;intro _;clear hF)
  |(refine hF ?_;cbv;clear hF)
  |(refine ⟨fun _=>?_,?_⟩;(· ((try simp only [nc] at *);first|done|omega|exact ⟨by omega,rfl⟩|(simp (disch:=(first|omega|(simp only [lnS];omega))) only [rdT,rdS];first|done|omega|rfl|exact ⟨by omega,rfl⟩|(simp;done)|(simp;omega))|(intros;trivial)));(try (simp only [nc] at *));(try simp (disch:=(first|omega|(simp only [lnS];omega))) only [rdT,rdS]);(try cbv))
  | fail
 )
 intro c hc
 cbv
 repeat' (first
  |(refine ⟨fun _ h_s=>?_,fun _ h_s=>?_⟩<;>(cbv;(try simp only [nc] at *);try simp (disch:=(first|omega|(simp only [lnS];omega))) only [rdT,rdS,reduceCtorEq,trT] at h_s))
  |(refine hF ?_;intro _;clear hF)
  |(refine hF ?_;cbv;clear hF)
  |(refine ⟨fun _=>?_,?_⟩;(· ((try simp only [nc] at *);first|done|omega|exact ⟨by omega,rfl⟩|(simp (disch:=(first|omega|(simp only [lnS];omega))) only [rdT,rdS];first|done|omega|rfl|exact ⟨by omega,rfl⟩|(simp;done)|(simp;omega))|(intros;trivial)));(try (simp only [nc] at *));(try simp (disch:=(first|omega|(simp only [lnS];omega))) only [rdT,rdS]);(try cbv))
  | fail
 )
 ·exact hc () (by simpa using h_s)
 ·refine ⟨fun _ => ⟨by simp; omega, by simp; omega, fun v hv => ?_⟩, ?_⟩
  ·unfold is at hv
   rw [LV.l_of] at hv
   obtain ⟨x, _, rfl⟩ := List.mem_map.1 hv
   rfl
  ·refine hF ?_
   cbv
   intro _
   exact ⟨rfl, by simp, by rw [List.drop_zero, List.take_of_length_le (Nat.le_refl _)]⟩
end Go.AL.Rl

namespace Go.AL.Rl
open Go Go.AL Go.Proofs
set_option maxRecDepth 100000
set_option maxHeartbeats 3200000
variable {γ : Nat → Option AV}

def unL (n : Nat) : LV := LV.of (List.replicate n (.agg []))
def keyL (l : List EId) : Nat → List EId
 | 0 => []
 | k + 1 => if l.getD k id0 ∈ keyL l k then keyL l k else keyL l k ++ [l.getD k id0]
theorem keyL_mem (l : List EId) (d : EId) : ∀ k, k ≤ l.length → (d ∈ keyL l k ↔ d ∈ l.take k)
 | 0, _ => by simp [keyL]
 | k + 1, h => by
  have ih := keyL_mem l d k (by omega)
  rw [take_succ' l k id0 (by omega)]
  unfold keyL
  split
  ·rename_i hin
   rw [List.mem_append, ih, List.mem_singleton]
   constructor
   ·exact .inl
   ·rintro (h1 | h1)
    ·exact h1
    ·rw [h1]; exact (keyL_mem l _ k (by omega)).1 hin
  ·rw [List.mem_append, List.mem_append, ih]
theorem keyL_len (l : List EId) : ∀ k, (keyL l k).length ≤ k
 | 0 => by simp [keyL]
 | k + 1 => by
  have := keyL_len l k
  unfold keyL
  split
  ·omega
  ·simp; omega
theorem find_mem (l : List EId) (d : EId) : (l.findIdx? fun x => decide (x = d)).isSome = decide (d ∈ l) := by
 rw [List.findIdx?_isSome, Bool.eq_iff_iff, List.any_eq_true, decide_eq_true_eq]
 constructor
 ·rintro ⟨x, hx, he⟩; rw [decide_eq_true_eq] at he; rw [← he]; exact hx
 ·intro hd; exact ⟨d, hd, by simp⟩
theorem pstays_ok (K : List EId) (n : Nat) (d : EId) : Pure Tryz.prog γ false 45 [aId d, .vp (fun _ => .vm (fun _ => ids K) (fun _ => unL n)) 0] (.b fun _ => decide (d ∈ K)) := by
 refine Pure.go (ty := ty) ty_eq mo Tryz.func45 rfl Tryz.ntmps45 Tryz.results45 Tryz.call45 (by simp) fun P C CQ D W F E hF => ?_
 cbv
 skip
 repeat' (first
  |(refine ⟨fun _ h_s=>?_,fun _ h_s=>?_⟩<;>(cbv;(try simp only [nc] at *);try simp (disch:=(first|omega|(simp only [lnS];omega))) only [rdT,rdS,reduceCtorEq,trT] at h_s))
  |(refine hF ?_;intro _;clear hF)
  |(refine hF ?_;cbv;clear hF)
  |(refine ⟨fun _=>?_,?_⟩;(· ((try simp only [nc] at *);first|done|omega|exact ⟨by omega,rfl⟩|(simp (disch:=(first|omega|(simp only [lnS];omega))) only [rdT,rdS];first|done|omega|rfl|exact ⟨by omega,rfl⟩|(simp;done)|(simp;omega))|(intros;trivial)|exact ⟨mok_ids _,by intro v hv;simp [unL] at hv;exact hv.2⟩));(try (simp only [nc] at *));(try simp (disch:=(first|omega|(simp only [lnS];omega))) only [rdT,rdS]);(try cbv))
  | fail
 )
 show (mfind [.i, .i] (ids K) [d.t, d.i]).isSome = decide (d ∈ K)
 rw [mfind_ids, find_mem]
end Go.AL.Rl

namespace Go.AL.Rl
open Go Go.AL Go.Proofs
set_option maxRecDepth 100000
set_option maxHeartbeats 3200000
variable {γ : Nat → Option AV}

structure Mk where
 id : EId
 w : Bool
theorem Mk.ext' {a b : Mk} (h1 : a.id = b.id) (h2 : a.w = b.w) : a = b := by cases a; cases b; simp_all
instance : DecidableEq Mk := fun a b => decidable_of_iff (a.id = b.id ∧ a.w = b.w) ⟨fun h => Mk.ext' h.1 h.2, fun h => by subst h; exact ⟨rfl, rfl⟩⟩
abbrev mk0 : Mk := ⟨⟨0, 0⟩, false⟩
abbrev aMk (m : Mk) : AV := .agg [.i fun _ => m.id.t, .i fun _ => m.id.i, .b fun _ => m.w]
def mks (l : List Mk) : LV := LV.of (l.map aMk)
@[simp] theorem mks_len (l : List Mk) : (mks l).l.length = l.length := by simp [mks]
theorem mks_get (l : List Mk) (i : Nat) (h : i < l.length) : (mks l).l.getD i .any = aMk (l.getD i mk0) := by simp [mks, h]
structure Sta where
 g : Gr
 ms : List Mk
 half : Int
abbrev aSt (s : Sta) : AV := .agg [.vs 1 fun _ => is s.g.init, .vs 1 fun _ => evss s.g.th, .vs 1 fun _ => idss s.g.fr, .vs 1 fun _ => idss s.g.ord, .vs 3 fun _ => mks s.ms, .i fun _ => s.half]
def numK (l : List Mk) (d : Mk) : Int := match l.findIdx? (fun x => decide (x = d)) with | some k => (k : Nat) | none => -1
theorem numK_at {l : List Mk} {d : Mk} {k : Nat} (hk : k < l.length) (h : l.getD k mk0 = d) (hb : ∀ j < k, l.getD j mk0 ≠ d) : numK l d = k := by
 have e : l.findIdx? (fun x => decide (x = d)) = some k := by
  rw [List.findIdx?_eq_some_iff_getElem]
  refine ⟨hk, by simpa [hk] using h, fun j hj => ?_⟩
  have := hb j hj
  have hj' : j < l.length := by omega
  simpa [hj'] using this
 unfold numK; rw [e]
theorem numK_no {l : List Mk} {d : Mk} (hb : ∀ j < l.length, l.getD j mk0 ≠ d) : numK l d = -1 := by
 have e : l.findIdx? (fun x => decide (x = d)) = none := by
  rw [List.findIdx?_eq_none_iff]
  intro x hx
  obtain ⟨j, hj, rfl⟩ := List.getElem_of_mem hx
  have := hb j hj
  simpa [hj] using this
 unfold numK; rw [e]
theorem indexK_ok (l : List Mk) (d : Mk) (hl : (l.length : Int) ≤ 9223372036854775807) : Pure Tryz.prog γ false 28 [.vs 3 fun _ => mks l, aMk d] (.i fun _ => numK l d) := by
 refine Pure.go (ty := ty) ty_eq mo Tryz.func28 rfl Tryz.ntmps28 Tryz.results28 Tryz.call28 (by simp) fun P C CQ D W F E hF => ?_
 cbv
 skip
 repeat' (first
  |(refine ⟨fun _ h_s=>?_,fun _ h_s=>?_⟩<;>(cbv;(try simp only [nc] at *);try simp (disch:=(first|omega|(simp only [lnS,mks_len];omega))) only [rdT,rdS,mks_len,mks_get,reduceCtorEq,trT] at h_s))
  |(refine hF ?_;intro _;clear hF)
  |(refine hF ?_;cbv;clear hF)
  |(refine ⟨fun _=>?_,?_⟩;(· ((try simp only [nc] at *);first|done|omega|exact ⟨by omega,rfl⟩|(simp (disch:=(first|omega|(simp only [lnS,mks_len];omega))) only [rdT,rdS,mks_len,mks_get];first|done|omega|rfl|exact ⟨by omega,rfl⟩|(simp;done)|(simp;omega))|(intros;trivial)));(try (simp only [nc] at *));(try simp (disch:=(first|omega|(simp only [lnS,mks_len];omega))) only [rdT,rdS,mks_len,mks_get]);(try cbv))
  |(refine E.d 5 (by decide +kernel) ?_;cbv;(fail_if_success guard_target =~ False))
  | fail
 )
 refine E.loopS (ι:=Nat) (fun i=>i≤l.length∧(∀ k < i,l.getD k mk0 ≠ d)) (fun i=>l.length - i) (fun i=>[(8,.i fun _=>((i : Nat) : Int))]) (fun i h=>h) 0 (fun _=>by first|rfl|simp) ⟨Nat.zero_le _,?_⟩ ?_ fun i hi I hI=>?_
 ·intro k hk; omega
 ·cbv; simp
 cbv
 obtain ⟨hi, hp⟩ := hi
 repeat' (first
  |(refine hI (i + 1) ?_ ?_ ?_;rotate_left 1;(· ((try simp only [nc] at *);omega));(cbv;clear hI;(try clear hF);(try simp only [nc] at *);(try simp (disch:=(first|omega|(simp only [lnS,mks_len];omega))) only [rdT,rdS,mks_len,mks_get,anT]));rotate_left 1;(try ((try simp only [nc] at *);omega)))
  |(refine ⟨fun _ h_s=>?_,fun _ h_s=>?_⟩<;>(cbv;(try simp only [nc] at *);try simp (disch:=(first|omega|(simp only [lnS,mks_len];omega))) only [rdT,rdS,mks_len,mks_get,reduceCtorEq,trT] at h_s))
  |(refine hF ?_;intro _;clear hF)
  |(refine hF ?_;cbv;clear hF)
  |(refine ⟨fun _=>?_,?_⟩;(· ((try simp only [nc] at *);first|done|omega|exact ⟨by omega,rfl⟩|(simp (disch:=(first|omega|(simp only [lnS,mks_len];omega))) only [rdT,rdS,mks_len,mks_get];first|done|omega|rfl|exact ⟨by omega,rfl⟩|(simp;done)|(simp;omega))|(intros;trivial)));(try (simp only [nc] at *));(try simp (disch:=(first|omega|(simp only [lnS,mks_len];omega))) only [rdT,rdS,mks_len,mks_get]);(try cbv))
  |(refine E.d 5 (by decide +kernel) ?_;cbv;(fail_if_success guard_target =~ False))
  | fail
 )
 ·have he : l.getD i mk0 = d := by
   simp only [Bool.and_true, Bool.and_eq_true, decide_eq_true_eq] at h_s
   obtain ⟨a1, a2, a3⟩ := h_s
   exact Mk.ext' (EId.ext' a1.symm a2.symm) (eq_of_beq a3).symm
  exact (numK_at (by ((try simp only [nc] at *); omega)) he hp).symm
 ·refine ⟨by ((try simp only [nc] at *); omega), fun k hk => ?_⟩
  rcases Nat.lt_or_ge k i with h1 | h1
  ·exact hp k h1
  ·obtain rfl : k = i := by omega
   intro e
   rw [← e] at h_s
   simp at h_s
 ·push_cast; rfl
 ·have e : i = l.length := by ((try simp only [nc] at *); omega)
  subst e
  exact (numK_no hp).symm
theorem when_ok (s : Sta) (m : Mk) (hl : (s.ms.length : Int) ≤ 9223372036854775807) : Pure Tryz.prog γ false 11 [aSt s, aMk m] (.i fun _ => numK s.ms m) := by
 have k := indexK_ok (γ := γ) s.ms m hl
 refine Pure.go (ty := ty) ty_eq mo Tryz.func11 rfl Tryz.ntmps11 Tryz.results11 Tryz.call11 (by simp) fun P C CQ D W F E hF => ?_
 cbv
 repeat' (first
  |(refine E.c (SCalls.of_le (k) ?_ ?_);(· (cbv;(try simp only [nc] at *);first|done|(simp;done)|(simp (disch:=(first|omega|(simp only [lnS,mks_len];omega))) only [rdT,rdS,mks_len,mks_get,anT];first|done|omega|(refine ⟨?_,?_⟩<;>omega))|(simp (disch:=(first|omega|(simp only [lnS,mks_len];omega))) [rdT,rdS,mks_len,mks_get];done)));cbv)
  |(refine ⟨fun _ h_s=>?_,fun _ h_s=>?_⟩<;>(cbv;(try simp only [nc] at *);try simp (disch:=(first|omega|(simp only [lnS,mks_len];omega))) only [rdT,rdS,mks_len,mks_get,reduceCtorEq,trT] at h_s))
  |(refine hF ?_;intro _;clear hF)
  |(refine hF ?_;cbv;clear hF)
  |(refine ⟨fun _=>?_,?_⟩;(· ((try simp only [nc] at *);first|done|omega|exact ⟨by omega,rfl⟩|(simp (disch:=(first|omega|(simp only [lnS,mks_len];omega))) only [rdT,rdS,mks_len,mks_get];first|done|omega|rfl|exact ⟨by omega,rfl⟩|(simp;done)|(simp;omega))|(intros;trivial)));(try (simp only [nc] at *));(try simp (disch:=(first|omega|(simp only [lnS,mks_len];omega))) only [rdT,rdS,mks_len,mks_get]);(try cbv))
  | fail
 )
 all_goals rfl
def needM (d : EId) (k : Int) : List Mk := (if k = 2 then [] else [⟨d, false⟩]) ++ if k = 2 ∨ k = 3 then [⟨d, true⟩] else []
theorem needs_ok (d : EId) (k : Int) : Pure Tryz.prog γ false 51 [aId d, .i fun _ => k] (.vs 3 fun _ => mks (needM d k)) := by
 refine Pure.go (ty := ty) ty_eq mo Tryz.func51 rfl Tryz.ntmps51 Tryz.results51 Tryz.call51 (by simp) fun P C CQ D W F E hF => ?_
 cbv
 skip
 skip
 skip
 repeat' (first
  |(refine ⟨fun _ h_s=>?_,fun _ h_s=>?_⟩<;>(cbv;(try simp only [nc] at *);try simp (disch:=(first|omega|(simp only [lnS,mks_len,mks_len];omega))) only [rdT,rdS,mks_len,mks_get,mks_len,mks_get,reduceCtorEq,trT] at h_s))
  |(refine hF ?_;intro _;clear hF)
  |(refine hF ?_;cbv;clear hF)
  |(refine ⟨fun _=>?_,?_⟩;(· ((try simp only [nc] at *);first|done|omega|exact ⟨by omega,rfl⟩|(simp (disch:=(first|omega|(simp only [lnS,mks_len,mks_len];omega))) only [rdT,rdS,mks_len,mks_get,mks_len,mks_get];first|done|omega|rfl|exact ⟨by omega,rfl⟩|(simp;done)|(simp;omega))|(intros;trivial)|exact ⟨by simp [setAll],by simp [setAll],by intro v hv;simp [setAll,AV.nrm,nrms,nrm1] at hv;subst hv;rfl⟩|exact ⟨by first|trivial|rfl,by first|trivial|rfl|simp,by first|trivial|simp,by simp [setAll],by simp [setAll],by simp [setAll,AV.nrm,nrms,nrm1,AV.flat,AV.cells,AV.one]⟩));(try (simp only [nc] at *));(try simp (disch:=(first|omega|(simp only [lnS,mks_len,mks_len];omega))) only [rdT,rdS,mks_len,mks_get,mks_len,mks_get]);(try cbv))
  | fail
 )
 all_goals first
  | (exfalso; ((try simp only [nc] at *); omega))
  | (intro _; refine ⟨rfl, by simp [setAll], ?_⟩; simp_all [needM, mks, setAll, AV.nrm, nrms, nrm1])
end Go.AL.Rl

namespace Go.AL.Rl
open Go Go.AL Go.Proofs
set_option maxRecDepth 100000
set_option maxHeartbeats 1600000

def keepP (l : List EId) (t i : Nat) : List Nat := (List.range i).filter fun j => decide ((⟨(t : Int) + 1, (j : Int)⟩ : EId) ∈ l)
theorem keepP_succ (l : List EId) (t i : Nat) : keepP l t (i + 1) = keepP l t i ++ if (⟨(t : Int) + 1, (i : Int)⟩ : EId) ∈ l then [i] else [] := by
 unfold keepP
 rw [List.range_succ, List.filter_append]
 congr 1
 by_cases h : (⟨(t : Int) + 1, (i : Int)⟩ : EId) ∈ l
 ·rw [if_pos h, List.filter_cons_of_pos (by simpa using h)]; rfl
 ·rw [if_neg h, List.filter_cons_of_neg (by simpa using h)]; rfl
theorem keepP_len (l : List EId) (t i : Nat) : (keepP l t i).length ≤ i := by
 unfold keepP
 exact Nat.le_trans (List.length_filter_le _ _) (by simp)
def keepTh (g : Gr) (l : List EId) (t i : Nat) : List Ev := (keepP l t i).map fun j => (g.th.getD t []).getD j ev0
def keepFr (g : Gr) (l : List EId) (t i : Nat) : List EId := (keepP l t i).map fun j => (g.fr.getD t []).getD j id0
theorem keepTh_succ (g : Gr) (l : List EId) (t i : Nat) : keepTh g l t (i + 1) = keepTh g l t i ++ if (⟨(t : Int) + 1, (i : Int)⟩ : EId) ∈ l then [(g.th.getD t []).getD i ev0] else [] := by
 unfold keepTh; rw [keepP_succ, List.map_append]; split <;> rfl
theorem keepFr_succ (g : Gr) (l : List EId) (t i : Nat) : keepFr g l t (i + 1) = keepFr g l t i ++ if (⟨(t : Int) + 1, (i : Int)⟩ : EId) ∈ l then [(g.fr.getD t []).getD i id0] else [] := by
 unfold keepFr; rw [keepP_succ, List.map_append]; split <;> rfl
def keepO (l o : List EId) : List EId := o.filter fun d => decide (d ∈ l)
def keepM (g : Gr) (l : List EId) : Gr :=
 ⟨g.init, (List.range g.th.length).map fun t => keepTh g l t (g.th.getD t []).length, (List.range g.th.length).map fun t => keepFr g l t (g.th.getD t []).length, g.ord.map (keepO l)⟩
end Go.AL.Rl

namespace Go.AL
open Go Go.RowKit
section
variable {P : Program} {γ : Nat → Option AV} {C : EC} {CQ : List Blk → QC} {T : Nat → TI} {D : Array Oper → (St → Prop) → St → Prop} {W : Code → (Exit → St → Prop) → St → Prop}
theorem Env.loopCA (E : Env P γ C CQ T D W) {c : Code} {Q : Exit → St → Prop} {A : St} {ι : Type} (ok : ι → Prop) (m : ι → Nat) (upd : ι → List (Nat × AV)) (hp : ι → List Blk) (j0 : ι)
  (hA : A.h.length = (hp j0).length) (hn : ∀ j, (hp j).length = (hp j0).length) (hok : ok j0) (h0 : leSt (hp j0).length (headSt c A (upd j0) (hp j0)) A)
  (round : ∀ j, ok j → ∀ (I : St → Prop), (∀ {A'} j', ok j' → m j' < m j → leSt (hp j0).length (headSt c A (upd j') (hp j')) A' → I A') → AWPl P γ (hp j0).length (citems c) (thenE I Q) (headSt c A (upd j) (hp j))) : AWP P γ (.loop c) Q A :=
 AWP.loopI (ι := ι) (hp j0).length (fun j => headSt c A (upd j) (hp j)) ok m j0 hA hn ⟨hok, h0⟩ fun j hj => AWPr.to (by
  show AWPr P γ (hp j).length c _ _
  rw [hn j]
  exact AWPr.of_items c (round j hj _ fun j' h1 h2 h3 => ⟨j', h1, h2, h3⟩))
theorem inBlk_mono {id : Nat} {Q Q' : Exit → St → Prop} (h : ∀ e A, Q e A → Q' e A) : ∀ e A, inBlk id Q e A → inBlk id Q' e A := by
 intro e A
 cases e with
 | exit id' => simp only [inBlk]; split <;> exact h _ _
 | _ => exact h _ _
/-- the last part of a block, and what stands behind it -/
theorem Env.blk (E : Env P γ C CQ T D W) {n id : Nat} {l r : List Code} {Q : Exit → St → Prop} {A : St} (h : vcl T γ C D W l (inBlk id (thenE (fun A => vcl T γ C D W r Q A) Q)) A) : AWPl P γ n l (inBlk id (thenE (fun A => AWPl P γ n r Q A) Q)) A :=
 (E.bl h).mono (inBlk_mono fun e A h' => by
  cases e with
  | normal => exact E.bl h'
  | _ => exact h')
end
end Go.AL
namespace Go.AL.Rl
open Go Go.AL Go.Proofs
set_option maxRecDepth 100000
set_option maxHeartbeats 3200000
variable {γ : Nat → Option AV}

abbrev gz : Gr := ⟨[], [], [], []⟩
theorem pkeep_no (hγ : γ 0 = some tabAV) (g : Gr) (hg : Rd g) (l : List EId) (hl : (l.length : Int) ≤ 9223372036854775807) (h : closedG g l = false) : Pure Tryz.prog γ false 17 [aGr g, .vs 2 fun _ => ids l] (.tup [aGr gz, .i fun _ => 2]) := by
 have kc := pclosedG_ok (γ := γ) hγ g hg l hl
 rw [h] at kc
 refine Pure.go (ty := ty) ty_eq mo Tryz.func17 rfl Tryz.ntmps17 Tryz.results17 Tryz.call17 (by simp) fun P C CQ D W F E hF => ?_
 cbv
 repeat' (first
  |(refine E.c (SCalls.of_le (kc) ?_ ?_);(· (cbv;(try simp only [nc] at *);first|done|(simp;done)|(simp (disch:=(first|omega|(simp only [lnS];omega))) only [rdT,rdS,anT];first|done|omega|(refine ⟨?_,?_⟩<;>omega))|(simp (disch:=(first|omega|(simp only [lnS];omega))) [rdT,rdS];done)));cbv)
  |(refine ⟨fun _ h_s=>?_,fun _ h_s=>?_⟩<;>(cbv;(try simp only [nc] at *);try simp (disch:=(first|omega|(simp only [lnS];omega))) only [rdT,rdS,reduceCtorEq,trT] at h_s))
  |(refine hF ?_;intro _;clear hF)
  |(refine hF ?_;cbv;clear hF)
  |(refine ⟨fun _=>?_,?_⟩;(· ((try simp only [nc] at *);first|done|omega|exact ⟨by omega,rfl⟩|(simp (disch:=(first|omega|(simp only [lnS];omega))) only [rdT,rdS];first|done|omega|rfl|exact ⟨by omega,rfl⟩|(simp;done)|(simp;omega))|(intros;trivial)));(try (simp only [nc] at *));(try simp (disch:=(first|omega|(simp only [lnS];omega))) only [rdT,rdS]);(try cbv))
  | fail
 )
 all_goals first
  | (exfalso; revert h_s; simp; done)
  | (simp [is, ids, evss, idss, LV.of, LV.l]; done)
theorem keyL_succ (l : List EId) (k : Nat) : keyL l (k + 1) = if l.getD k id0 ∈ keyL l k then keyL l k else keyL l k ++ [l.getD k id0] := rfl
theorem mputK_key (K : List EId) (d : EId) (v : AV) (hv : v = aId d) (k : List Int) (hk : k = [d.t, d.i]) : mputK (mfind [.i, .i] (ids K) k) (ids K) v = ids (if d ∈ K then K else K ++ [d]) := by
 subst hk; subst hv
 rw [mfind_ids]
 by_cases h : d ∈ K
 ·rw [if_pos h]
  cases e : K.findIdx? fun x => decide (x = d) with
  | none => have := find_mem K d; rw [e] at this; simp [h] at this
  | some i =>
   simp only [mputK]
 ·rw [if_neg h, fresh_find h]
  simp [mputK, ids]
theorem mputV_un (K : List EId) (d : EId) (k : List Int) (hk : k = [d.t, d.i]) : mputV (mfind [.i, .i] (ids K) k) (unL K.length) (.agg []) = unL (if d ∈ K then K else K ++ [d]).length := by
 subst hk
 rw [mfind_ids]
 by_cases h : d ∈ K
 ·rw [if_pos h]
  cases e : K.findIdx? fun x => decide (x = d) with
  | none => have := find_mem K d; rw [e] at this; simp [h] at this
  | some i =>
   simp [mputV, unL]
 ·rw [if_neg h, fresh_find h]
  simp [mputV, unL, List.replicate_succ']
theorem pkeep_yes (hγ : γ 0 = some tabAV) (g : Gr) (hg : Rd g) (l : List EId) (hl : (l.length : Int) ≤ 17592186044416) (h : closedG g l = true) : Pure Tryz.prog γ false 17 [aGr g, .vs 2 fun _ => ids l] (.tup [aGr (keepM g l), .i fun _ => 0]) := by
 have kc := pclosedG_ok (γ := γ) hγ g hg l (by omega)
 rw [h] at kc
 have hgo : GOk g := by
  unfold closedG at h
  rw [Bool.and_eq_true, decide_eq_true_eq] at h
  exact h.1
 have hs := hgo.short
 have hin := hs.init
 have hth := hs.th
 have kl := clone_ok (γ := γ) g.init (by omega)
 have k0 : keyL l 0 = [] := rfl
 have kS := keyL_succ l
 have kL := keyL_len l
 refine Pure.goL (ty := ty) ty_eq mo Tryz.func17 rfl Tryz.ntmps17 Tryz.results17 Tryz.call17 (by simp) fun P C CQ D W F E hF => ?_
 refine E.cut 8 (told 125 [(1, .vs 2 fun _ => ids l), (2, .ptr 0 0), (4, .ptr 1 0), (9, .fn 45 [] [.ptr 3 0]), (10, .ptr 4 0)] [.box (aGr g), .box (.agg [.nils, .nils, .nils, .nils]), .map (fun _ => ids (keyL l l.length)) (fun _ => unL (keyL l l.length).length), .box (.mp 2), .box (.agg [.vs 1 fun _ => is g.init, .nils, .nils, .nils])]) (by kernel_rfl) (Nat.zero_le _) (fun I hI => ?_) ?_
 ·cbv
  repeat' (first
   |(refine E.c (SCalls.of_le (kc) ?_ ?_);(· (cbv;(try simp only [nc] at *);first|done|(simp;done)|(simp (disch:=(first|omega|(simp only [lnS];omega))) only [rdT,rdS,anT];first|done|omega|(refine ⟨?_,?_⟩<;>omega))|(simp (disch:=(first|omega|(simp only [lnS];omega))) [rdT,rdS];done)));cbv)
   |(refine ⟨fun _ h_s=>?_,fun _ h_s=>?_⟩<;>(cbv;(try simp only [nc] at *);try simp (disch:=(first|omega|(simp only [lnS];omega))) only [rdT,rdS,reduceCtorEq,trT] at h_s))
   |(refine hF ?_;intro _;clear hF)
   |(refine hF ?_;cbv;clear hF)
   |(refine ⟨fun _=>?_,?_⟩;(· ((try simp only [nc] at *);first|done|omega|exact ⟨by omega,rfl⟩|(simp (disch:=(first|omega|(simp only [lnS];omega))) only [rdT,rdS];first|done|omega|rfl|exact ⟨by omega,rfl⟩|(simp;done)|(simp;omega))|(intros;trivial)));(try (simp only [nc] at *));(try simp (disch:=(first|omega|(simp only [lnS];omega))) only [rdT,rdS]);(try cbv))
   | fail
  )
  refine E.loopS (ι:=Nat) (fun i=>i≤l.length) (fun i=>l.length - i) (fun i=>[(31,.i fun _=>((i : Nat) : Int))]) (fun i h=>h.set 2 (.map (fun _=>ids (keyL l i)) (fun _=>unL (keyL l i).length))) 0 (fun _=>by first|rfl|simp) (Nat.zero_le _) ?_ fun i hi I2 hI2=>?_
  ·cbv; simp [k0, unL, ids, LV.of]
  cbv
  have e1 := kS i
  have e2 := kL i
  repeat' (first
   |((first|refine E.c (SCalls.of_le (kl) ?_ ?_)|refine E.q (QCalls.of_le (kl) ?_ ?_));(· (cbv;(try simp only [nc] at *);first|done|(simp;done)|(simp (disch:=(first|omega|(simp only [lnS];omega))) only [rdT,rdS,anT];first|done|omega|(refine ⟨?_,?_⟩<;>omega))|(simp (disch:=(first|omega|(simp only [lnS];omega))) [rdT,rdS];done)));cbv)
   |(refine hI2 (i + 1) ?_ ?_ ?_;rotate_left 1;(· ((try simp only [nc] at *);omega));(cbv;clear hI2;(try clear hF);(try simp only [nc] at *);(try simp (disch:=(first|omega|(simp only [lnS];omega))) only [rdT,rdS,anT]));rotate_left 1;(try ((try simp only [nc] at *);omega)))
   |(refine ⟨fun _ h_s=>?_,fun _ h_s=>?_⟩<;>(cbv;(try simp only [nc] at *);try simp (disch:=(first|omega|(simp only [lnS];omega))) only [rdT,rdS,reduceCtorEq,trT] at h_s))
   |(refine hF ?_;intro _;clear hF)
   |(refine hF ?_;cbv;clear hF)
   |(refine ⟨fun _=>?_,?_⟩;(· ((try simp only [nc] at *);first|done|omega|exact ⟨by omega,rfl⟩|(simp (disch:=(first|omega|(simp only [lnS];omega))) only [rdT,rdS];first|done|omega|rfl|exact ⟨by omega,rfl⟩|(simp;done)|(simp;omega))|(intros;trivial)));(try (simp only [nc] at *));(try simp (disch:=(first|omega|(simp only [lnS];omega))) only [rdT,rdS]);(try cbv))
   | fail
  )
  ·refine ⟨fun _ => mok_ids _, ?_⟩
   refine hI2 (i + 1) (by ((try simp only [nc] at *); omega)) (by ((try simp only [nc] at *); omega)) ?_
   cbv
   clear hI2 hF
   (try simp only [nc] at *)
   (try simp (disch:=(first|omega|(simp only [lnS];omega))) only [rdT,rdS,anT])
   refine ⟨by push_cast; rfl, ?_, ?_⟩
   ·rw [e1]; exact mputK_key _ _ _ rfl _ rfl
   ·rw [e1]; exact mputV_un _ _ _ rfl
  ·clear hI2
   have e : i = l.length := by ((try simp only [nc] at *); omega)
   subst e
   refine hI ?_
   cbv
   clear hI
   simp
 clear k0 kS kL kc kl
 have hK : ∀ d, d ∈ keyL l l.length ↔ d ∈ l := fun d => by rw [keyL_mem l d l.length (Nat.le_refl _), List.take_length]
 generalize keyL l l.length = K at *
 have kst : ∀ d, Pure Tryz.prog γ false 45 [aId d, .vp (fun _ => .vm (fun _ => ids K) (fun _ => unL K.length)) 0] (.b fun _ => decide (d ∈ l)) := fun d => by
  have k := pstays_ok (γ := γ) K K.length d
  rwa [show decide (d ∈ K) = decide (d ∈ l) from decide_eq_decide.2 (hK d)] at k
 obtain ⟨TH, hTH⟩ : ∃ TH : Nat → List (List Ev), ∀ n, TH n = (List.range n).map fun t => keepTh g l t (g.th.getD t []).length := ⟨_, fun _ => rfl⟩
 obtain ⟨FR, hFR⟩ : ∃ FR : Nat → List (List EId), ∀ n, FR n = (List.range n).map fun t => keepFr g l t (g.th.getD t []).length := ⟨_, fun _ => rfl⟩
 have hTH0 : TH 0 = [] := by rw [hTH]; rfl
 have hFR0 : FR 0 = [] := by rw [hFR]; rfl
 have hTHS : ∀ n, TH (n + 1) = TH n ++ [keepTh g l n (g.th.getD n []).length] := fun n => by rw [hTH, hTH, List.range_succ, List.map_append]; rfl
 have hFRS : ∀ n, FR (n + 1) = FR n ++ [keepFr g l n (g.th.getD n []).length] := fun n => by rw [hFR, hFR, List.range_succ, List.map_append]; rfl
 have hTHl : ∀ n, (TH n).length = n := fun n => by rw [hTH]; simp
 have hFRl : ∀ n, (FR n).length = n := fun n => by rw [hFR]; simp
 obtain ⟨EV, hEV⟩ : ∃ EV : Nat → Nat → List Ev, ∀ t i, EV t i = keepTh g l t i := ⟨_, fun _ _ => rfl⟩
 obtain ⟨FE, hFE⟩ : ∃ FE : Nat → Nat → List EId, ∀ t i, FE t i = keepFr g l t i := ⟨_, fun _ _ => rfl⟩
 have hEV0 : ∀ t, EV t 0 = [] := fun t => by rw [hEV]; rfl
 have hFE0 : ∀ t, FE t 0 = [] := fun t => by rw [hFE]; rfl
 have hEVS : ∀ t i, EV t (i + 1) = EV t i ++ if (⟨(t : Int) + 1, (i : Int)⟩ : EId) ∈ l then [(g.th.getD t []).getD i ev0] else [] := fun t i => by rw [hEV, hEV, keepTh_succ]
 have hFES : ∀ t i, FE t (i + 1) = FE t i ++ if (⟨(t : Int) + 1, (i : Int)⟩ : EId) ∈ l then [(g.fr.getD t []).getD i id0] else [] := fun t i => by rw [hFE, hFE, keepFr_succ]
 have hEVl : ∀ t i, (EV t i).length ≤ i := fun t i => by rw [hEV]; unfold keepTh; rw [List.length_map]; exact keepP_len l t i
 have hFEl : ∀ t i, (FE t i).length = (EV t i).length := fun t i => by rw [hFE, hEV]; unfold keepTh keepFr; rw [List.length_map, List.length_map]
 simp only [← hEV, ← hFE] at hTHS hFRS
 obtain ⟨G, hG⟩ : ∃ G : Nat → Nat, ∀ x, G x = x := ⟨_, fun _ => rfl⟩
 have hG0 : G 0 = 0 := hG 0
 have hle := hs.at
 obtain ⟨HP, hHP⟩ : ∃ HP : Nat → List Blk, ∀ t, HP t = [.box (aGr g), .box (.agg [.nils, .nils, .nils, .nils]), .map (fun _ => ids K) (fun _ => unL K.length), .box (.mp 2), .box (.agg [.vs 1 fun _ => is g.init, .sl 5 (G t) 1 (fun _ => 0) fun _ => t, .sl 6 (G t) 1 (fun _ => 0) fun _ => t, .nils]), .run (G t) 1 fun _ => evss (TH t), .run (G t) 1 fun _ => idss (FR t)] := ⟨_, fun _ => rfl⟩
 clear hHP HP
 refine E.cut 2 (told 125 [(1, .vs 2 fun _ => ids l), (2, .ptr 0 0), (4, .ptr 1 0), (9, .fn 45 [] [.ptr 3 0]), (10, .ptr 4 0)] [.box (aGr g), .box (.agg [.nils, .nils, .nils, .nils]), .map (fun _ => ids K) (fun _ => unL K.length), .box (.mp 2), .box (.agg [.vs 1 fun _ => is g.init, .vs 1 fun _ => evss (TH g.th.length), .vs 1 fun _ => idss (FR g.th.length), .nils])]) (by kernel_rfl) (Nat.zero_le _) (fun I hI => ?_) ?_
 ·cbv
  refine E.w (AWP.ghostField 4 1 1 rfl rfl ?_)
  refine AWP.ghostField 4 2 1 rfl rfl ?_
  refine E.loopCA (ι := Nat) (fun t => t ≤ g.th.length) (fun t => g.th.length - t) (fun t => [(47, .i fun _ => ((t : Nat) : Int))]) (fun t => [.box (aGr g), .box (.agg [.nils, .nils, .nils, .nils]), .map (fun _ => ids K) (fun _ => unL K.length), .box (.mp 2), .box (.agg [.vs 1 fun _ => is g.init, .sl 5 (G t) 1 (fun _ => 0) fun _ => t, .sl 6 (G t) 1 (fun _ => 0) fun _ => t, .nils]), .run (G t) 1 fun _ => evss (TH t), .run (G t) 1 fun _ => idss (FR t)]) 0 rfl (fun _ => rfl) (Nat.zero_le _) ?_ fun t ht I2 hI2 => ?_
  ·cbv; simp [hG0, hTH0, hFR0, evss, idss, LV.of]
  refine E.cutI (ι := Unit) 2 (fun _ => t < g.th.length) (fun _ => told 125 [(1, .vs 2 fun _ => ids l), (2, .ptr 0 0), (4, .ptr 1 0), (9, .fn 45 [] [.ptr 3 0]), (10, .ptr 4 0), (44, .ptr 0 1), (45, .vs 1 fun _ => evss g.th), (46, .i fun _ => (g.th.length : Int)), (47, .i fun _ => ((t : Nat) : Int))] [.box (aGr g), .box (.agg [.nils, .nils, .nils, .nils]), .map (fun _ => ids K) (fun _ => unL K.length), .box (.mp 2), .box (.agg [.vs 1 fun _ => is g.init, .sl 5 (G t) 1 (fun _ => 0) fun _ => t, .sl 6 (G t) 1 (fun _ => 0) fun _ => t, .nils]), .run (G t) 1 fun _ => evss (TH t), .run (G t) 1 fun _ => idss (FR t)]) (by kernel_rfl) (fun _ => Nat.le_refl _) (fun I3 hI3 => ?_) fun _ ht2 => ?_
  ·cbv
   repeat' (first
    |(refine ⟨fun _ h_s=>?_,fun _ h_s=>?_⟩<;>(cbv;(try simp only [nc] at *);try simp (disch:=(first|omega|(simp only [lnS];omega))) only [rdT,rdS,reduceCtorEq,trT] at h_s))
    |(refine hF ?_;intro _;clear hF)
    |(refine hF ?_;cbv;clear hF)
    |(refine ⟨fun _=>?_,?_⟩;(· ((try simp only [nc] at *);first|done|omega|exact ⟨by omega,rfl⟩|(simp (disch:=(first|omega|(simp only [lnS];omega))) only [rdT,rdS];first|done|omega|rfl|exact ⟨by omega,rfl⟩|(simp;done)|(simp;omega))|(intros;trivial)));(try (simp only [nc] at *));(try simp (disch:=(first|omega|(simp only [lnS];omega))) only [rdT,rdS]);(try cbv))
    | fail
   )
   ·refine hI3 () (by ((try simp only [nc] at *); omega)) ?_
    cbv; simp
   ·refine hI ?_
    have e : t = g.th.length := by ((try simp only [nc] at *); omega)
    subst e
    cbv
    have q1 := hTHl g.th.length
    have q2 := hFRl g.th.length
    simp only [evss_len, idss_len, q1, q2]
    simp
    exact ⟨List.take_of_length_le (by simp [q1]), List.take_of_length_le (by simp [q2])⟩
  have hTt := hTHl t
  have hFt := hFRl t
  have hle0 := hle t
  refine AWPl.block ?_
  refine E.cut 5 (told 125 [(1, .vs 2 fun _ => ids l), (2, .ptr 0 0), (4, .ptr 1 0), (9, .fn 45 [] [.ptr 3 0]), (10, .ptr 4 0), (12, .vs 5 fun _ => evs (EV t (g.th.getD t []).length)), (13, .vs 2 fun _ => ids (FE t (g.th.getD t []).length)), (44, .ptr 0 1), (45, .vs 1 fun _ => evss g.th), (46, .i fun _ => (g.th.length : Int)), (47, .i fun _ => ((t : Nat) : Int))] [.box (aGr g), .box (.agg [.nils, .nils, .nils, .nils]), .map (fun _ => ids K) (fun _ => unL K.length), .box (.mp 2), .box (.agg [.vs 1 fun _ => is g.init, .sl 5 (G t) 1 (fun _ => 0) fun _ => t, .sl 6 (G t) 1 (fun _ => 0) fun _ => t, .nils]), .run (G t) 1 fun _ => evss (TH t), .run (G t) 1 fun _ => idss (FR t)]) (by kernel_rfl) (Nat.le_refl _) (fun I3 hI3 => ?_) (E.blk ?_)
  ·cbv
   repeat' (first
    |(refine ⟨fun _ h_s=>?_,fun _ h_s=>?_⟩<;>(cbv;(try simp only [nc] at *);try simp (disch:=(first|omega|(simp only [lnS];omega))) only [rdT,rdS,reduceCtorEq,trT] at h_s))
    |(refine hF ?_;intro _;clear hF)
    |(refine hF ?_;cbv;clear hF)
    |(refine ⟨fun _=>?_,?_⟩;(· ((try simp only [nc] at *);first|done|omega|exact ⟨by omega,rfl⟩|(simp (disch:=(first|omega|(simp only [lnS];omega))) only [rdT,rdS];first|done|omega|rfl|exact ⟨by omega,rfl⟩|(simp;done)|(simp;omega))|(intros;trivial)));(try (simp only [nc] at *));(try simp (disch:=(first|omega|(simp only [lnS];omega))) only [rdT,rdS]);(try cbv))
    | fail
   )
   refine E.w (AWP.ghostSlot 12 5 rfl (by omega) ?_)
   refine AWP.ghostSlot 13 2 rfl (by omega) ?_
   refine E.loopSA (ι:=Nat) (fun i=>i≤(g.th.getD t []).length) (fun i=>(g.th.getD t []).length - i) (fun i=>[(12,.sl 7 (G (EV t i).length) 5 (fun _=>0) fun _=>(EV t i).length),(13,.sl 8 (G (EV t i).length) 2 (fun _=>0) fun _=>(EV t i).length),(56,.i fun _=>((i : Nat) : Int))]) (fun i h=>(h.set 7 (.run (G (EV t i).length) 5 fun _=>evs (EV t i))).set 8 (.run (G (EV t i).length) 2 fun _=>ids (FE t i))) 0 (fun _=>by first|rfl|simp) (Nat.zero_le _) ?_ fun i hi I4 hI4=>?_
   ·cbv; simp [hG0, hEV0, hFE0, evs, ids, LV.of]
   cbv
   have hfl : g.fr.length = g.th.length := hgo.lfr
   have hfe : (g.fr.getD t []).length = (g.th.getD t []).length := (hgo.events t ht2).1
   have f1 := hEVS t i
   have f2 := hFES t i
   have f3 := hEVl t i
   have f4 := hFEl t i
   skip
   repeat' (first
    |(refine hI4 (i + 1) ?_ ?_ ?_;rotate_left 1;(· ((try simp only [nc] at *);omega));(cbv;clear hI4;(try clear hF);(try simp only [nc] at *);(try simp (disch:=(first|omega|(simp only [lnS];omega))) only [rdT,rdS,anT]));rotate_left 1;(try ((try simp only [nc] at *);omega)))
    |(refine E.de 14 [7,8] [] (by decide +kernel) ?_;cbv;(fail_if_success guard_target =~ False))
    |(refine E.c (SCalls.of_bare (kst ⟨t + 1,i⟩) rfl ?_ ?_);(· (cbv;(try simp only [nc] at *);first|done|(simp;done)|(simp (disch:=(first|omega|(simp only [lnS];omega))) only [rdT,rdS,anT];first|done|omega|(refine ⟨?_,?_⟩<;>omega))|(simp (disch:=(first|omega|(simp only [lnS];omega))) [rdT,rdS];done)));cbv)
    |(refine E.q (QCalls.of_bare (kst ⟨t + 1,i⟩) rfl ?_ ?_);(· (cbv;(try simp only [nc] at *);first|done|(simp;done)|(simp (disch:=(first|omega|(simp only [lnS];omega))) only [rdT,rdS,anT];first|done|omega|(refine ⟨?_,?_⟩<;>omega))|(simp (disch:=(first|omega|(simp only [lnS];omega))) [rdT,rdS];done)));cbv)
    |(refine ⟨fun _ h_s=>?_,fun _ h_s=>?_⟩<;>(cbv;(try simp only [nc] at *);try simp (disch:=(first|omega|(simp only [lnS];omega))) only [rdT,rdS,reduceCtorEq,trT] at h_s))
    |(refine hF ?_;intro _;clear hF)
    |(refine hF ?_;cbv;clear hF)
    |(refine ⟨fun _=>?_,?_⟩;(· ((try simp only [nc] at *);first|done|omega|exact ⟨by omega,rfl⟩|(simp (disch:=(first|omega|(simp only [lnS];omega))) only [rdT,rdS];first|done|omega|rfl|exact ⟨by omega,rfl⟩|(simp;done)|(simp;omega))|(intros;trivial)|exact ⟨by first|trivial|rfl,by first|trivial|rfl|simp,by first|trivial|(simp;done)|(simp [f4];done)|(simp [*];done),by simp;omega,by simp;omega,by simp [AV.flat,AV.cells,AV.one]⟩));(try (simp only [nc] at *));(try simp (disch:=(first|omega|(simp only [lnS];omega))) only [rdT,rdS]);(try cbv))
    | fail
   )
   ·have hm : (⟨(t : Int) + 1, (i : Int)⟩ : EId) ∈ l := by simpa using h_s
    rw [if_pos hm] at f1 f2
    simp [hG, f1, f2, evs, ids, setAll, AV.nrm, nrms, nrm1]
   ·have hm : (⟨(t : Int) + 1, (i : Int)⟩ : EId) ∉ l := by simpa using h_s
    rw [if_neg hm, List.append_nil] at f1 f2
    simp [f1, f2]
   ·clear hI4
    have e : i = (g.th.getD t []).length := by ((try simp only [nc] at *); omega)
    subst e
    refine hI3 ?_
    cbv
    have q := hFEl t (g.th.getD t []).length
    have q1 : List.take (EV t (g.th.getD t []).length).length (evs (EV t (g.th.getD t []).length)).l = (evs (EV t (g.th.getD t []).length)).l := List.take_of_length_le (by rw [evs_len]; exact Nat.le_refl _)
    have q2 : List.take (EV t (g.th.getD t []).length).length (ids (FE t (g.th.getD t []).length)).l = (ids (FE t (g.th.getD t []).length)).l := List.take_of_length_le (by rw [ids_len, q]; exact Nat.le_refl _)
    simp only [evs_len, ids_len, q, List.drop_zero, q1, q2, and_self, implies_true, Nat.zero_add, Nat.le_refl]
  cbv
  have f1 := hTHS t
  have f2 := hFRS t
  repeat' (first
   |(refine hI2 (t + 1) ?_ ?_ ?_;rotate_left 1;(· ((try simp only [nc] at *);omega));(cbv;clear hI2;(try clear hF);(try simp only [nc] at *);(try simp (disch:=(first|omega|(simp only [lnS];omega))) only [rdT,rdS,anT]));rotate_left 1;(try ((try simp only [nc] at *);omega)))
   |(refine E.de 11 [5,6] [] (by decide +kernel) ?_;cbv;(fail_if_success guard_target =~ False))
   |(refine ⟨fun _ h_s=>?_,fun _ h_s=>?_⟩<;>(cbv;(try simp only [nc] at *);try simp (disch:=(first|omega|(simp only [lnS];omega))) only [rdT,rdS,reduceCtorEq,trT] at h_s))
   |(refine hF ?_;intro _;clear hF)
   |(refine hF ?_;cbv;clear hF)
   |(refine ⟨fun _=>?_,?_⟩;(· ((try simp only [nc] at *);first|done|omega|exact ⟨by omega,rfl⟩|(simp (disch:=(first|omega|(simp only [lnS];omega))) only [rdT,rdS];first|done|omega|rfl|exact ⟨by omega,rfl⟩|(simp;done)|(simp;omega))|(intros;trivial)|exact ⟨by first|trivial|rfl,by first|trivial|rfl|simp,by first|trivial|(simp;done)|(simp [f4];done)|(simp [*];done),by simp;omega,by simp;omega,by simp [AV.flat,AV.cells,AV.one]⟩));(try (simp only [nc] at *));(try simp (disch:=(first|omega|(simp only [lnS];omega))) only [rdT,rdS]);(try cbv))
   | fail
  )
  simp [hG, f1, f2, evss, idss, setAll, AV.nrm, nrms, nrm1]
 have hTHe : TH g.th.length = (keepM g l).th := hTH _
 have hFRe : FR g.th.length = (keepM g l).fr := hFR _
 rw [hTHe, hFRe]
 have hki : (keepM g l).init = g.init := rfl
 obtain ⟨OR, hOR⟩ : ∃ OR : Nat → List (List EId), ∀ n, OR n = (g.ord.take n).map (keepO l) := ⟨_, fun _ => rfl⟩
 obtain ⟨OE, hOE⟩ : ∃ OE : Nat → Nat → List EId, ∀ x i, OE x i = keepO l ((g.ord.getD x []).take i) := ⟨_, fun _ _ => rfl⟩
 have hOR0 : OR 0 = [] := by rw [hOR]; rfl
 have hORS : ∀ n, n < g.ord.length → OR (n + 1) = OR n ++ [OE n (g.ord.getD n []).length] := fun n hn => by rw [hOR, hOR, hOE, take_succ' _ n [] hn, List.map_append, List.take_length]; rfl
 have hORl : ∀ n, n ≤ g.ord.length → (OR n).length = n := fun n hn => by rw [hOR]; simp; omega
 have hORe : OR g.ord.length = (keepM g l).ord := by rw [hOR, List.take_length]; rfl
 have hOE0 : ∀ x, OE x 0 = [] := fun x => by rw [hOE]; rfl
 have hOES : ∀ x i, i < (g.ord.getD x []).length → OE x (i + 1) = OE x i ++ if (g.ord.getD x []).getD i id0 ∈ l then [(g.ord.getD x []).getD i id0] else [] := fun x i hi => by
  rw [hOE, hOE, take_succ' _ i id0 hi]
  unfold keepO
  rw [List.filter_append]
  congr 1
  by_cases h : (g.ord.getD x []).getD i id0 ∈ l
  ·rw [if_pos h, List.filter_cons_of_pos (by simpa using h)]; rfl
  ·rw [if_neg h, List.filter_cons_of_neg (by simpa using h)]; rfl
 have hOEl : ∀ x i, (OE x i).length ≤ i := fun x i => by rw [hOE]; unfold keepO; exact Nat.le_trans (List.length_filter_le _ _) (by simp; omega)
 clear hTH hFR hTH0 hFR0 hTHS hFRS hTHl hFRl hTHe hFRe hEV hFE hEV0 hFE0 hEVS hFES hEVl hFEl
 clear TH FR EV FE
 rw [← hki]
 have hol : g.ord.length ≤ 6 := by have := hgo.lord; omega
 obtain ⟨k, hk⟩ : ∃ k, keepM g l = k := ⟨_, rfl⟩
 rw [hk] at hki hORe ⊢
 have hcn : ∀ x, x < g.ord.length → (g.ord.getD x []).length ≤ 56 := fun x hx => by
  have h1 := hgo.orders x (by rw [← hgo.lord]; exact hx)
  unfold orderedM at h1
  rw [Bool.and_eq_true, decide_eq_true_eq, decide_eq_true_eq] at h1
  have h2 := cntT_le (x : Int) hs.ths
  omega
 refine E.bl ?_
 cbv
 refine E.w (AWP.ghostField 4 3 1 rfl rfl ?_)
 refine E.loopCA (ι := Nat) (fun x => x ≤ g.ord.length) (fun x => g.ord.length - x) (fun x => [(99, .i fun _ => ((x : Nat) : Int))]) (fun x => [.box (aGr g), .box (.agg [.nils, .nils, .nils, .nils]), .map (fun _ => ids K) (fun _ => unL K.length), .box (.mp 2), .box (.agg [.vs 1 fun _ => is k.init, .vs 1 fun _ => evss k.th, .vs 1 fun _ => idss k.fr, .sl 5 (G x) 1 (fun _ => 0) fun _ => x]), .run (G x) 1 fun _ => idss (OR x)]) 0 rfl (fun _ => rfl) (Nat.zero_le _) ?_ fun x hx I2 hI2 => ?_
 ·cbv; simp [hG0, hOR0, idss, LV.of]
 refine E.cutI (ι := Unit) 2 (fun _ => x < g.ord.length) (fun _ => told 125 [(1, .vs 2 fun _ => ids l), (2, .ptr 0 0), (4, .ptr 1 0), (9, .fn 45 [] [.ptr 3 0]), (10, .ptr 4 0), (96, .ptr 0 3), (97, .vs 1 fun _ => idss g.ord), (98, .i fun _ => (g.ord.length : Int)), (99, .i fun _ => ((x : Nat) : Int))] [.box (aGr g), .box (.agg [.nils, .nils, .nils, .nils]), .map (fun _ => ids K) (fun _ => unL K.length), .box (.mp 2), .box (.agg [.vs 1 fun _ => is k.init, .vs 1 fun _ => evss k.th, .vs 1 fun _ => idss k.fr, .sl 5 (G x) 1 (fun _ => 0) fun _ => x]), .run (G x) 1 fun _ => idss (OR x)]) (by kernel_rfl) (fun _ => Nat.le_refl _) (fun I3 hI3 => ?_) fun _ hx2 => ?_
 ·cbv
  repeat' (first
   |(refine ⟨fun _ h_s=>?_,fun _ h_s=>?_⟩<;>(cbv;(try simp only [nc] at *);try simp (disch:=(first|omega|(simp only [lnS];omega))) only [rdT,rdS,reduceCtorEq,trT] at h_s))
   |(refine hF ?_;intro _;clear hF)
   |(refine hF ?_;cbv;clear hF)
   |(refine ⟨fun _=>?_,?_⟩;(· ((try simp only [nc] at *);first|done|omega|exact ⟨by omega,rfl⟩|(simp (disch:=(first|omega|(simp only [lnS];omega))) only [rdT,rdS];first|done|omega|rfl|exact ⟨by omega,rfl⟩|(simp;done)|(simp;omega))|(intros;trivial)|exact ⟨by first|trivial|rfl,by first|trivial|rfl|simp,by first|trivial|(simp;done)|(simp [f4];done)|(simp [*];done),by simp;omega,by simp;omega,by simp [AV.flat,AV.cells,AV.one]⟩));(try (simp only [nc] at *));(try simp (disch:=(first|omega|(simp only [lnS];omega))) only [rdT,rdS]);(try cbv))
   | fail
  )
  ·refine hI3 () (by ((try simp only [nc] at *); omega)) ?_
   cbv; simp
  ·have e : x = g.ord.length := by ((try simp only [nc] at *); omega)
   subst e
   have q1 := hORl g.ord.length (Nat.le_refl _)
   have q2 : List.take g.ord.length (idss (OR g.ord.length)).l = (idss (OR g.ord.length)).l := List.take_of_length_le (by rw [idss_len, q1]; exact Nat.le_refl _)
   cbv
   simp only [hk, ← hORe]
   simp only [idss_len, q1, List.drop_zero, q2]
   simp
 have hOx := hORl x hx
 have hcx := hcn x hx2
 refine AWPl.block ?_
 refine E.cut 4 (told 125 [(1, .vs 2 fun _ => ids l), (2, .ptr 0 0), (4, .ptr 1 0), (9, .fn 45 [] [.ptr 3 0]), (10, .ptr 4 0), (18, .vs 2 fun _ => ids (OE x (g.ord.getD x []).length)), (96, .ptr 0 3), (97, .vs 1 fun _ => idss g.ord), (98, .i fun _ => (g.ord.length : Int)), (99, .i fun _ => ((x : Nat) : Int))] [.box (aGr g), .box (.agg [.nils, .nils, .nils, .nils]), .map (fun _ => ids K) (fun _ => unL K.length), .box (.mp 2), .box (.agg [.vs 1 fun _ => is k.init, .vs 1 fun _ => evss k.th, .vs 1 fun _ => idss k.fr, .sl 5 (G x) 1 (fun _ => 0) fun _ => x]), .run (G x) 1 fun _ => idss (OR x)]) (by kernel_rfl) (Nat.le_refl _) (fun I3 hI3 => ?_) (E.blk ?_)
 ·cbv
  repeat' (first
   |(refine ⟨fun _ h_s=>?_,fun _ h_s=>?_⟩<;>(cbv;(try simp only [nc] at *);try simp (disch:=(first|omega|(simp only [lnS];omega))) only [rdT,rdS,reduceCtorEq,trT] at h_s))
   |(refine hF ?_;intro _;clear hF)
   |(refine hF ?_;cbv;clear hF)
   |(refine ⟨fun _=>?_,?_⟩;(· ((try simp only [nc] at *);first|done|omega|exact ⟨by omega,rfl⟩|(simp (disch:=(first|omega|(simp only [lnS];omega))) only [rdT,rdS];first|done|omega|rfl|exact ⟨by omega,rfl⟩|(simp;done)|(simp;omega))|(intros;trivial)|exact ⟨by first|trivial|rfl,by first|trivial|rfl|simp,by first|trivial|(simp;done)|(simp [f4];done)|(simp [*];done),by simp;omega,by simp;omega,by simp [AV.flat,AV.cells,AV.one]⟩));(try (simp only [nc] at *));(try simp (disch:=(first|omega|(simp only [lnS];omega))) only [rdT,rdS]);(try cbv))
   | fail
  )
  refine E.w (AWP.ghostSlot 18 2 rfl (by omega) (E.loopSA (ι := Nat) (fun i => i ≤ (g.ord.getD x []).length) (fun i => (g.ord.getD x []).length - i) (fun i => [(105, .i fun _ => ((i : Nat) : Int)), (18, .sl 6 (G (OE x i).length) 2 (fun _ => 0) fun _ => (OE x i).length)]) (fun i h => h.set 6 (.run (G (OE x i).length) 2 fun _ => ids (OE x i))) 0 (fun _ => by first | rfl | simp) (Nat.zero_le _) ?_ fun i hi I4 hI4 => ?_))
  ·cbv; simp [hG0, hOE0, ids, LV.of]
  cbv
  have f1 := hOES x i
  have f3 := hOEl x i
  repeat' (first
   |(refine hI4 (i + 1) ?_ ?_ ?_;rotate_left 1;(· ((try simp only [nc] at *);omega));(cbv;clear hI4;(try clear hF);(try simp only [nc] at *);(try simp (disch:=(first|omega|(simp only [lnS];omega))) only [rdT,rdS,anT]));rotate_left 1;(try ((try simp only [nc] at *);omega)))
   |(refine E.c (SCalls.of_bare (kst ((g.ord.getD x []).getD i id0)) rfl ?_ ?_);(· (cbv;(try simp only [nc] at *);first|done|(simp;done)|(simp (disch:=(first|omega|(simp only [lnS];omega))) only [rdT,rdS,anT];first|done|omega|(refine ⟨?_,?_⟩<;>omega))|(simp (disch:=(first|omega|(simp only [lnS];omega))) [rdT,rdS];done)));cbv)
   |(refine E.q (QCalls.of_bare (kst ((g.ord.getD x []).getD i id0)) rfl ?_ ?_);(· (cbv;(try simp only [nc] at *);first|done|(simp;done)|(simp (disch:=(first|omega|(simp only [lnS];omega))) only [rdT,rdS,anT];first|done|omega|(refine ⟨?_,?_⟩<;>omega))|(simp (disch:=(first|omega|(simp only [lnS];omega))) [rdT,rdS];done)));cbv)
   |(refine ⟨fun _ h_s=>?_,fun _ h_s=>?_⟩<;>(cbv;(try simp only [nc] at *);try simp (disch:=(first|omega|(simp only [lnS];omega))) only [rdT,rdS,reduceCtorEq,trT] at h_s))
   |(refine hF ?_;intro _;clear hF)
   |(refine hF ?_;cbv;clear hF)
   |(refine ⟨fun _=>?_,?_⟩;(· ((try simp only [nc] at *);first|done|omega|exact ⟨by omega,rfl⟩|(simp (disch:=(first|omega|(simp only [lnS];omega))) only [rdT,rdS];first|done|omega|rfl|exact ⟨by omega,rfl⟩|(simp;done)|(simp;omega))|(intros;trivial)|exact ⟨by first|trivial|rfl,by first|trivial|rfl|simp,by first|trivial|(simp;done)|(simp [f4];done)|(simp [*];done),by simp;omega,by simp;omega,by simp [AV.flat,AV.cells,AV.one]⟩));(try (simp only [nc] at *));(try simp (disch:=(first|omega|(simp only [lnS];omega))) only [rdT,rdS]);(try cbv))
   | fail
  )
  ·have hm : (g.ord.getD x []).getD i id0 ∈ l := by simpa using h_s
   rw [f1 (by ((try simp only [nc] at *); omega)), if_pos hm]
   simp [hG, ids, setAll, AV.nrm, nrms, nrm1]
  ·have hm : (g.ord.getD x []).getD i id0 ∉ l := by simpa using h_s
   rw [f1 (by ((try simp only [nc] at *); omega)), if_neg hm, List.append_nil]
   simp
  ·clear hI4
   have e : i = (g.ord.getD x []).length := by ((try simp only [nc] at *); omega)
   subst e
   refine hI3 ?_
   cbv
   have q2 : List.take (OE x (g.ord.getD x []).length).length (ids (OE x (g.ord.getD x []).length)).l = (ids (OE x (g.ord.getD x []).length)).l := List.take_of_length_le (by rw [ids_len]; exact Nat.le_refl _)
   simp only [ids_len, List.drop_zero, q2, and_self, implies_true, Nat.zero_add, Nat.le_refl]
 cbv
 have f1 := hORS x hx2
 repeat' (first
  |(refine hI2 (x + 1) ?_ ?_ ?_;rotate_left 1;(· ((try simp only [nc] at *);omega));(cbv;clear hI2;(try clear hF);(try simp only [nc] at *);(try simp (disch:=(first|omega|(simp only [lnS];omega))) only [rdT,rdS,anT]));rotate_left 1;(try ((try simp only [nc] at *);omega)))
  |(refine ⟨fun _ h_s=>?_,fun _ h_s=>?_⟩<;>(cbv;(try simp only [nc] at *);try simp (disch:=(first|omega|(simp only [lnS];omega))) only [rdT,rdS,reduceCtorEq,trT] at h_s))
  |(refine hF ?_;intro _;clear hF)
  |(refine hF ?_;cbv;clear hF)
  |(refine ⟨fun _=>?_,?_⟩;(· ((try simp only [nc] at *);first|done|omega|exact ⟨by omega,rfl⟩|(simp (disch:=(first|omega|(simp only [lnS];omega))) only [rdT,rdS];first|done|omega|rfl|exact ⟨by omega,rfl⟩|(simp;done)|(simp;omega))|(intros;trivial)|exact ⟨by first|trivial|rfl,by first|trivial|rfl|simp,by first|trivial|(simp;done)|(simp [f4];done)|(simp [*];done),by simp;omega,by simp;omega,by simp [AV.flat,AV.cells,AV.one]⟩));(try (simp only [nc] at *));(try simp (disch:=(first|omega|(simp only [lnS];omega))) only [rdT,rdS]);(try cbv))
  | fail
 )
 simp [hG, f1, idss, setAll, AV.nrm, nrms, nrm1]
theorem pkeep_ok (hγ : γ 0 = some tabAV) (g : Gr) (hg : Rd g) (l : List EId) (hl : (l.length : Int) ≤ 17592186044416) : Pure Tryz.prog γ false 17 [aGr g, .vs 2 fun _ => ids l] (.tup [aGr (if closedG g l then keepM g l else gz), .i fun _ => if closedG g l then 0 else 2]) := by
 cases h : closedG g l with
 | true => exact pkeep_yes hγ g hg l hl h
 | false => exact pkeep_no hγ g hg l (by omega) h
end Go.AL.Rl

namespace Go.AL.Rl
open Go Go.AL Go.Proofs
set_option maxRecDepth 100000
set_option maxHeartbeats 3200000
variable {γ : Nat → Option AV}

theorem knums_mk (d : Mk) : knums [.i, .i, .b] (aMk d) = [d.id.t, d.id.i, if d.w then 1 else 0] := rfl
theorem mfind_mks (l : List Mk) (d : Mk) : mfind [.i, .i, .b] (mks l) [d.id.t, d.id.i, if d.w then 1 else 0] = l.findIdx? fun x => decide (x = d) := by
 unfold mfind mks
 rw [LV.l_of, List.findIdx?_map]
 congr 1
 funext x
 simp only [Function.comp, knums_mk]
 by_cases h : x = d
 ·subst h; simp
 ·have : ¬ ([x.id.t, x.id.i, if x.w then (1 : Int) else 0] = [d.id.t, d.id.i, if d.w then 1 else 0]) := by
   intro e
   simp only [List.cons.injEq, and_true] at e
   refine h (Mk.ext' (EId.ext' e.1 e.2.1) ?_)
   have := e.2.2
   cases hx : x.w <;> cases hd : d.w <;> simp_all
  rw [decide_eq_false h]
  simpa using this
theorem mok_mks (l : List Mk) : mok [.i, .i, .b] (mks l) := by
 intro v hv
 simp only [mks, LV.l_of, List.mem_map] at hv
 obtain ⟨x, _, rfl⟩ := hv
 rfl
def fiK (l : List Mk) (d : Mk) : Option Nat := l.findIdx? fun x => decide (x = d)
theorem fiK_some {l : List Mk} {d : Mk} {i : Nat} (h : fiK l d = some i) : i < l.length ∧ l.getD i mk0 = d := by
 unfold fiK at h
 rw [List.findIdx?_eq_some_iff_getElem] at h
 obtain ⟨h1, h2, _⟩ := h
 refine ⟨h1, ?_⟩
 simpa [h1] using h2
theorem fiK_app (l : List Mk) (e d : Mk) (he : fiK l e = none) : fiK (l ++ [e]) d = if d = e then some l.length else fiK l d := by
 unfold fiK at *
 rw [List.findIdx?_append]
 by_cases h : d = e
 ·subst h
  rw [he, if_pos rfl]
  simp
 ·rw [if_neg h]
  have h2 : ¬ e = d := fun x => h x.symm
  cases l.findIdx? fun x => decide (x = d) <;> simp [h2]
def kmK (ms : List Mk) : Nat → List Mk
 | 0 => []
 | n + 1 => match fiK (kmK ms n) (ms.getD n mk0) with | some _ => kmK ms n | none => kmK ms n ++ [ms.getD n mk0]
def kmV (ms : List Mk) : Nat → List Int
 | 0 => []
 | n + 1 => match fiK (kmK ms n) (ms.getD n mk0) with | some i => (kmV ms n).set i n | none => kmV ms n ++ [(n : Int)]
/-- the last place of a mark among the first ones -/
def lastK (ms : List Mk) (d : Mk) : Nat → Option Nat
 | 0 => none
 | n + 1 => if ms.getD n mk0 = d then some n else lastK ms d n
theorem km_len (ms : List Mk) : ∀ n, (kmV ms n).length = (kmK ms n).length
 | 0 => rfl
 | n + 1 => by
  have ih := km_len ms n
  unfold kmK kmV
  cases h : fiK (kmK ms n) (ms.getD n mk0) <;> simp [ih]
theorem km_len_le (ms : List Mk) : ∀ n, (kmK ms n).length ≤ n
 | 0 => Nat.le_refl _
 | n + 1 => by
  have ih := km_len_le ms n
  unfold kmK
  cases h : fiK (kmK ms n) (ms.getD n mk0) <;> simp <;> omega
theorem km_last (ms : List Mk) (d : Mk) : ∀ n, match fiK (kmK ms n) d with | none => lastK ms d n = none | some i => ∃ m : Nat, lastK ms d n = some m ∧ (kmV ms n).getD i 0 = m
 | 0 => rfl
 | n + 1 => by
  have ih := km_last ms d n
  have hl := km_len ms n
  unfold kmK kmV lastK
  cases h : fiK (kmK ms n) (ms.getD n mk0) with
  | some i =>
   obtain ⟨h1, h2⟩ := fiK_some h
   simp only
   by_cases e : ms.getD n mk0 = d
   ·rw [← e, h]
    exact ⟨n, if_pos rfl, by simp [hl, h1]⟩
   ·cases h3 : fiK (kmK ms n) d with
    | none => rw [h3] at ih; simp only at ih ⊢; rw [if_neg e]; exact ih
    | some j =>
     rw [h3] at ih
     obtain ⟨m, m1, m2⟩ := ih
     obtain ⟨g1, g2⟩ := fiK_some h3
     have hij : i ≠ j := fun x => e (by rw [← h2, ← g2, x])
     refine ⟨m, by rw [if_neg e]; exact m1, ?_⟩
     rw [← m2]
     simp only [List.getD_eq_getElem?_getD]
     rw [List.getElem?_set_ne hij]
  | none =>
   simp only
   rw [fiK_app _ _ _ h]
   by_cases e : d = ms.getD n mk0
   ·rw [if_pos e, if_pos e.symm]
    refine ⟨n, rfl, ?_⟩
    rw [← hl]
    simp
   ·rw [if_neg e, if_neg fun x => e x.symm]
    cases h3 : fiK (kmK ms n) d with
    | none => rw [h3] at ih; exact ih
    | some j =>
     rw [h3] at ih
     obtain ⟨m, m1, m2⟩ := ih
     obtain ⟨g1, g2⟩ := fiK_some h3
     refine ⟨m, m1, ?_⟩
     rw [← m2]
     simp only [List.getD_eq_getElem?_getD]
     rw [List.getElem?_append_left (by omega)]
def plK (ms : List Mk) (d : Mk) : Int := match lastK ms d ms.length with | some k => (k : Nat) | none => -1
/-- the last place, as long as they go up -/
def scanK (p : Mk → Int) (l : List Mk) : Option Int := l.foldl (fun s d => s.bind fun x => if x < p d then some (p d) else none) (some (-1))
theorem scanK_succ (p : Mk → Int) (l : List Mk) (d : Mk) : scanK p (l ++ [d]) = (scanK p l).bind fun x => if x < p d then some (p d) else none := by
 unfold scanK; rw [List.foldl_append]; rfl
theorem scanK_none (p : Mk → Int) (a b : List Mk) (h : scanK p a = none) : scanK p (a ++ b) = none := by
 unfold scanK at *
 rw [List.foldl_append, h]
 induction b with
 | nil => rfl
 | cons x b ih => exact ih
theorem scanK_ge' (p : Mk → Int) : ∀ (l : List Mk) (s : Option Int), (∀ x, s = some x → -1 ≤ x) → ∀ x, l.foldl (fun s d => s.bind fun x => if x < p d then some (p d) else none) s = some x → -1 ≤ x
 | [], s, h, x, hx => h x hx
 | d :: l, s, h, x, hx => by
  refine scanK_ge' p l _ ?_ x hx
  intro y hy
  cases s with
  | none => cases hy
  | some z =>
   have := h z rfl
   simp only [Option.bind_some] at hy
   split at hy
   ·cases hy; omega
   ·cases hy
theorem scanK_ge (p : Mk → Int) (l : List Mk) (x : Int) (h : scanK p l = some x) : -1 ≤ x := scanK_ge' p l _ (fun x h => by cases h; omega) x h
def needE (t : Nat) (l : List Ev) (i : Nat) : List Mk := (List.range i).flatMap fun (j : Nat) => needM ⟨(t : Int) + 1, (j : Int)⟩ (l.getD j ev0).kind
theorem needE_succ (t : Nat) (l : List Ev) (i : Nat) : needE t l (i + 1) = needE t l i ++ needM ⟨(t : Int) + 1, (i : Int)⟩ (l.getD i ev0).kind := by
 unfold needE; rw [List.range_succ, List.flatMap_append]; simp
theorem needE_more (t : Nat) (l : List Ev) (i : Nat) : ∀ k, ∃ r, needE t l (i + k) = needE t l i ++ r
 | 0 => ⟨[], by simp⟩
 | k + 1 => by
  obtain ⟨r, hr⟩ := needE_more t l i k
  exact ⟨r ++ needM ⟨((i + k : Nat) : Int) * 0 + (t : Int) + 1, ((i + k : Nat) : Int)⟩ (l.getD (i + k) ev0).kind, by rw [← Nat.add_assoc, needE_succ, hr, List.append_assoc]; simp⟩
theorem needM_len (d : EId) (k : Int) : (needM d k).length ≤ 2 := by
 unfold needM; split <;> split <;> simp
theorem needE_len (t : Nat) (l : List Ev) : ∀ i, (needE t l i).length ≤ 2 * i
 | 0 => by simp [needE]
 | i + 1 => by
  have := needE_len t l i
  have := needM_len ⟨(t : Int) + 1, (i : Int)⟩ (l.getD i ev0).kind
  rw [needE_succ, List.length_append]; omega
def cntN (g : Gr) (t : Nat) : Nat := ((List.range t).map fun k => (needE k (g.th.getD k []) (g.th.getD k []).length).length).sum
theorem cntN_succ (g : Gr) (t : Nat) : cntN g (t + 1) = cntN g t + (needE t (g.th.getD t []) (g.th.getD t []).length).length := by
 unfold cntN; rw [List.range_succ, List.map_append, List.sum_append]; simp
theorem cntN_le {g : Gr} (hs : Short g) : ∀ t, cntN g t ≤ 28 * t
 | 0 => by simp [cntN]
 | t + 1 => by
  have := cntN_le hs t
  have h1 := needE_len t (g.th.getD t []) (g.th.getD t []).length
  have h2 := hs.at t
  rw [cntN_succ]; omega
def markedM (g : Gr) (ms : List Mk) : Bool := decide (∀ t < g.th.length, (scanK (plK ms) (needE t (g.th.getD t []) (g.th.getD t []).length)).isSome = true) && decide (cntN g g.th.length = ms.length)
theorem toList_at (l : List Mk) (j : Nat) (hj : j < l.length) : (l[j]?).toList = [l.getD j mk0] := by
 rw [List.getD_eq_getElem?_getD, List.getElem?_eq_getElem hj]; rfl
theorem marked_no (g : Gr) (ms : List Mk) (t : Nat) (ht : t < g.th.length) (i : Nat) (hi : i < (g.th.getD t []).length) (j : Nat) (hj : j < (needM ⟨(t : Int) + 1, (i : Int)⟩ ((g.th.getD t []).getD i ev0).kind).length)
  (x : Int) (h : scanK (plK ms) (needE t (g.th.getD t []) i ++ (needM ⟨(t : Int) + 1, (i : Int)⟩ ((g.th.getD t []).getD i ev0).kind).take j) = some x)
  (hx : ¬ x < plK ms ((needM ⟨(t : Int) + 1, (i : Int)⟩ ((g.th.getD t []).getD i ev0).kind).getD j mk0)) : markedM g ms = false := by
 unfold markedM
 rw [Bool.and_eq_false_iff]
 left
 refine decide_eq_false fun hall => ?_
 have h1 := hall t ht
 have h2 : scanK (plK ms) (needE t (g.th.getD t []) i ++ (needM ⟨(t : Int) + 1, (i : Int)⟩ ((g.th.getD t []).getD i ev0).kind).take (j + 1)) = none := by
  rw [List.take_add_one, ← List.append_assoc]
  have : ((needM ⟨(t : Int) + 1, (i : Int)⟩ ((g.th.getD t []).getD i ev0).kind)[j]?).toList = [(needM ⟨(t : Int) + 1, (i : Int)⟩ ((g.th.getD t []).getD i ev0).kind).getD j mk0] := by
   exact toList_at _ _ hj
  rw [this, scanK_succ, h]
  simp only [Option.bind_some]
  rw [if_neg hx]
 have h3 : scanK (plK ms) (needE t (g.th.getD t []) (i + 1)) = none := by
  rw [needE_succ]
  have := scanK_none (plK ms) _ ((needM ⟨(t : Int) + 1, (i : Int)⟩ ((g.th.getD t []).getD i ev0).kind).drop (j + 1)) h2
  rwa [List.append_assoc, List.take_append_drop] at this
 obtain ⟨r, hr⟩ := needE_more t (g.th.getD t []) (i + 1) ((g.th.getD t []).length - (i + 1))
 rw [show i + 1 + ((g.th.getD t []).length - (i + 1)) = (g.th.getD t []).length from by omega] at hr
 rw [hr, scanK_none _ _ _ h3] at h1
 cases h1
end Go.AL.Rl

namespace Go.AL.Rl
open Go Go.AL Go.Proofs
set_option maxRecDepth 100000
set_option maxHeartbeats 3200000
variable {γ : Nat → Option AV}

theorem mputK_mk (ms : List Mk) (n : Nat) (v : AV) (hv : v = aMk (ms.getD n mk0)) (k : List Int) (hk : k = [(ms.getD n mk0).id.t, (ms.getD n mk0).id.i, if (ms.getD n mk0).w then 1 else 0]) : mputK (mfind [.i, .i, .b] (mks (kmK ms n)) k) (mks (kmK ms n)) v = mks (kmK ms (n + 1)) := by
 subst hk; subst hv
 rw [mfind_mks]
 show mputK (fiK (kmK ms n) (ms.getD n mk0)) _ _ = _
 rw [show kmK ms (n + 1) = match fiK (kmK ms n) (ms.getD n mk0) with | some _ => kmK ms n | none => kmK ms n ++ [ms.getD n mk0] from rfl]
 cases fiK (kmK ms n) (ms.getD n mk0) with
 | some i => rfl
 | none => simp [mputK, mks]
theorem mputV_mk (ms : List Mk) (n : Nat) (v : AV) (hv : v = .i fun _ => (n : Int)) (k : List Int) (hk : k = [(ms.getD n mk0).id.t, (ms.getD n mk0).id.i, if (ms.getD n mk0).w then 1 else 0]) : mputV (mfind [.i, .i, .b] (mks (kmK ms n)) k) (is (kmV ms n)) v = is (kmV ms (n + 1)) := by
 subst hk; subst hv
 rw [mfind_mks]
 show mputV (fiK (kmK ms n) (ms.getD n mk0)) _ _ = _
 rw [show kmV ms (n + 1) = match fiK (kmK ms n) (ms.getD n mk0) with | some i => (kmV ms n).set i n | none => kmV ms n ++ [(n : Int)] from rfl]
 cases fiK (kmK ms n) (ms.getD n mk0) with
 | some i => simp [mputV, is]
 | none => simp [mputV, is]
theorem mk_is (ms : List Mk) (d : Mk) (k : List Int) (hk : k = [d.id.t, d.id.i, if d.w then 1 else 0]) : (mfind [.i, .i, .b] (mks (kmK ms ms.length)) k).isSome = decide (0 ≤ plK ms d) := by
 subst hk; rw [mfind_mks]
 show (fiK (kmK ms ms.length) d).isSome = _
 have h := km_last ms d ms.length
 unfold plK
 cases h1 : fiK (kmK ms ms.length) d with
 | none => rw [h1] at h; rw [h]; simp
 | some i => rw [h1] at h; obtain ⟨m, m1, m2⟩ := h; rw [m1]; simp
theorem mk_val (ms : List Mk) (d : Mk) (k : List Int) (hk : k = [d.id.t, d.id.i, if d.w then 1 else 0]) (z : AV) (h0 : 0 ≤ plK ms d) : ((mval (mfind [.i, .i, .b] (mks (kmK ms ms.length)) k) (is (kmV ms ms.length)) z).at 0).asI = plK ms d := by
 subst hk; rw [mfind_mks]
 show ((mval (fiK (kmK ms ms.length) d) _ z).at 0).asI = _
 have h := km_last ms d ms.length
 unfold plK at *
 cases h1 : fiK (kmK ms ms.length) d with
 | none => rw [h1] at h; rw [h] at h0; simp at h0
 | some i =>
  have hi := (fiK_some h1).1
  rw [h1] at h; obtain ⟨m, m1, m2⟩ := h
  rw [m1]
  simp only [mval]
  rw [is_get _ i (by rw [km_len]; exact hi)]
  exact m2
theorem pmarked_ok (g : Gr) (hg : GOk g) (ms : List Mk) (hm : (ms.length : Int) ≤ 17592186044416) : Pure Tryz.prog γ false 23 [aGr g, .vs 3 fun _ => mks ms] (.b fun _ => markedM g ms) := by
 have hs := hg.short
 have hth := hs.th
 have hle := hs.at
 have kn := fun (t i : Nat) => needs_ok (γ := γ) ⟨(t : Int) + 1, (i : Int)⟩ ((g.th.getD t []).getD i ev0).kind
 obtain ⟨N, hN⟩ : ∃ N : Nat → Nat → List Mk, ∀ t i, N t i = needM ⟨(t : Int) + 1, (i : Int)⟩ ((g.th.getD t []).getD i ev0).kind := ⟨_, fun _ _ => rfl⟩
 simp only [← hN] at kn
 have hNl : ∀ t i, (N t i).length ≤ 2 := fun t i => by rw [hN]; exact needM_len _ _
 obtain ⟨c, hc⟩ : ∃ c : Nat → Nat → Nat → Nat, ∀ t i j, c t i j = cntN g t + (needE t (g.th.getD t []) i ++ (N t i).take j).length := ⟨_, fun _ _ _ => rfl⟩
 obtain ⟨q, hq⟩ : ∃ q : Nat → Nat → Nat → Option Int, ∀ t i j, q t i j = scanK (plK ms) (needE t (g.th.getD t []) i ++ (N t i).take j) := ⟨_, fun _ _ _ => rfl⟩
 have c0 : c 0 0 0 = 0 := by rw [hc]; simp [cntN, needE]
 have cj : ∀ t i j, j < (N t i).length → c t i (j + 1) = c t i j + 1 := fun t i j hj => by
  rw [hc, hc]; simp only [List.length_append, List.length_take]; omega
 have ci : ∀ t i, c t i (N t i).length = c t (i + 1) 0 := fun t i => by
  rw [hc, hc, List.take_length, List.take_zero, List.append_nil, needE_succ, hN]
 have ct : ∀ t, c t (g.th.getD t []).length 0 = c (t + 1) 0 0 := fun t => by
  rw [hc, hc, cntN_succ]; simp [needE]
 have cb : ∀ t i j, t < g.th.length → i ≤ (g.th.getD t []).length → c t i j ≤ 200 := fun t i j h1 h2 => by
  have b1 := cntN_le hs t
  have b2 := needE_len t (g.th.getD t []) i
  have b3 := hle t
  have b4 := hNl t i
  rw [hc]; simp only [List.length_append, List.length_take]; omega
 have cT : c g.th.length 0 0 = cntN g g.th.length := by rw [hc]; simp [needE]
 have q0 : ∀ t, q t 0 0 = some (-1) := fun t => by rw [hq]; rfl
 have qj : ∀ t i j, j < (N t i).length → q t i (j + 1) = (q t i j).bind fun x => if x < plK ms ((N t i).getD j mk0) then some (plK ms ((N t i).getD j mk0)) else none := fun t i j hj => by
  rw [hq, hq, List.take_add_one, toList_at _ _ hj, ← List.append_assoc, scanK_succ]
 have qi : ∀ t i, q t i (N t i).length = q t (i + 1) 0 := fun t i => by
  rw [hq, hq, List.take_length, List.take_zero, List.append_nil, needE_succ, hN]
 have qe : ∀ t, q t (g.th.getD t []).length 0 = scanK (plK ms) (needE t (g.th.getD t []) (g.th.getD t []).length) := fun t => by
  rw [hq, List.take_zero, List.append_nil]
 have qn : ∀ t i j x, t < g.th.length → i < (g.th.getD t []).length → j < (N t i).length → q t i j = some x → ¬ x < plK ms ((N t i).getD j mk0) → markedM g ms = false := fun t i j x h1 h2 h3 h4 h5 => by
  rw [hN] at h3 h5
  rw [hq, hN] at h4
  exact marked_no g ms t h1 i h2 j h3 x h4 h5
 have qge : ∀ t i j x, q t i j = some x → -1 ≤ x := fun t i j x h => by rw [hq] at h; exact scanK_ge _ _ _ h
 have pb : ∀ d, -1 ≤ plK ms d := fun d => by unfold plK; split <;> omega
 have k0 := km_len_le ms
 have ki := fun d => mk_is ms d
 have kv := fun d => mk_val ms d
 have kK0 : kmK ms 0 = [] := rfl
 have kV0 : kmV ms 0 = [] := rfl
 have kK := mputK_mk ms
 have kV := mputV_mk ms
 generalize kmK ms = KM at *
 generalize kmV ms = VM at *
 skip
 refine Pure.go (ty := ty) ty_eq mo Tryz.func23 rfl Tryz.ntmps23 Tryz.results23 Tryz.call23 (by simp) fun P C CQ D W F E hF => ?_
 cbv
 refine E.loopS (ι:=Nat) (fun i=>i≤ms.length) (fun i=>ms.length - i) (fun i=>[(23,.i fun _=>((i : Nat) : Int))]) (fun i h=>h.set 1 (.map (fun _=>mks (KM i)) (fun _=>is (VM i)))) 0 (fun _=>by first|rfl|simp) (Nat.zero_le _) ?_ fun i hi I hI=>?_
 ·cbv; simp [kK0, kV0, is, mks, LV.of]
 cbv
 have e1 := kK i
 have e2 := kV i
 repeat' (first
  |(refine hI (i + 1) ?_ ?_ ?_;rotate_left 1;(· ((try simp only [nc] at *);omega));(cbv;clear hI;(try clear hF);(try simp only [nc] at *);(try simp (disch:=(first|omega|(simp only [lnS,mks_len];omega))) only [rdT,rdS,mks_len,mks_get,anT]));rotate_left 1;(try ((try simp only [nc] at *);omega)))
  |(refine ⟨fun _ h_s=>?_,fun _ h_s=>?_⟩<;>(cbv;(try simp only [nc] at *);try simp (disch:=(first|omega|(simp only [lnS,mks_len];omega))) only [rdT,rdS,mks_len,mks_get,reduceCtorEq,trT] at h_s))
  |(refine hF ?_;intro _;clear hF)
  |(refine hF ?_;cbv;clear hF)
  |(refine ⟨fun _=>?_,?_⟩;(· ((try simp only [nc] at *);first|done|omega|exact ⟨by omega,rfl⟩|(simp (disch:=(first|omega|(simp only [lnS,mks_len];omega))) only [rdT,rdS,mks_len,mks_get];first|done|omega|rfl|exact ⟨by omega,rfl⟩|(simp;done)|(simp;omega))|(intros;trivial)));(try (simp only [nc] at *));(try simp (disch:=(first|omega|(simp only [lnS,mks_len];omega))) only [rdT,rdS,mks_len,mks_get]);(try cbv))
  | fail
 )
 ·refine ⟨fun _ => mok_mks _, ?_⟩
  refine hI (i + 1) (by ((try simp only [nc] at *); omega)) (by ((try simp only [nc] at *); omega)) ?_
  cbv
  clear hI hF
  (try simp only [nc] at *)
  (try simp (disch:=(first|omega|(simp only [lnS,mks_len];omega))) only [rdT,rdS,mks_len,mks_get,anT])
  exact ⟨by push_cast; rfl, e1 _ rfl _ rfl, e2 _ rfl _ rfl⟩
 clear hI
 have e : i = ms.length := by ((try simp only [nc] at *); omega)
 subst e
 clear kK kV e1 e2 kK0 kV0 k0
 refine E.loopS (ι:=Nat) (fun t=>t≤g.th.length∧(∀ t' < t,(scanK (plK ms) (needE t' (g.th.getD t' []) (g.th.getD t' []).length)).isSome = true)) (fun t=>g.th.length - t) (fun t=>[(35,.i fun _=>((t : Nat) : Int)),(8,.i fun _=>((c t 0 0 : Nat) : Int))]) (fun t h=>h) 0 (fun _=>by first|rfl|simp) ⟨Nat.zero_le _,?_⟩ ?_ fun t ht I1 hI1=>?_
 ·intro t' h'; omega
 ·cbv; simp [c0]
 obtain ⟨ht, hpt⟩ := ht
 cbv
 have hgt := hle t
 repeat' (first
  |(refine ⟨fun _ h_s=>?_,fun _ h_s=>?_⟩<;>(cbv;(try simp only [nc] at *);try simp (disch:=(first|omega|(simp only [lnS,mks_len];omega))) only [rdT,rdS,mks_len,mks_get,reduceCtorEq,trT] at h_s))
  |(refine hF ?_;intro _;clear hF)
  |(refine hF ?_;cbv;clear hF)
  |(refine ⟨fun _=>?_,?_⟩;(· ((try simp only [nc] at *);first|done|omega|exact ⟨by omega,rfl⟩|(simp (disch:=(first|omega|(simp only [lnS,mks_len];omega))) only [rdT,rdS,mks_len,mks_get];first|done|omega|rfl|exact ⟨by omega,rfl⟩|(simp;done)|(simp;omega))|(intros;trivial)));(try (simp only [nc] at *));(try simp (disch:=(first|omega|(simp only [lnS,mks_len];omega))) only [rdT,rdS,mks_len,mks_get]);(try cbv))
  | fail
 )
 ·refine E.loopS (ι:=Nat) (fun i=>i≤(g.th.getD t []).length∧((q t i 0).isSome = true)) (fun i=>(g.th.getD t []).length - i) (fun i=>[(42,.i fun _=>((i : Nat) : Int)),(8,.i fun _=>((c t i 0 : Nat) : Int)),(11,.i fun _=>(q t i 0).getD 0)]) (fun i h=>h) 0 (fun _=>by first|rfl|simp) ⟨Nat.zero_le _,?_⟩ ?_ fun i hi I2 hI2=>?_
  ·rw [q0]; rfl
  ·cbv; simp [q0]
  obtain ⟨hi, hqi⟩ := hi
  cbv
  have knt := kn t i
  repeat' (first
   |(refine hI1 (t + 1) ?_ ?_ ?_;rotate_left 1;(· ((try simp only [nc] at *);omega));(cbv;clear hI1;(try clear hF);(try simp only [nc] at *);(try simp (disch:=(first|omega|(simp only [lnS,mks_len];omega))) only [rdT,rdS,mks_len,mks_get,anT]));rotate_left 1;(try ((try simp only [nc] at *);omega)))
   |(refine E.c (SCalls.of_le (knt) ?_ ?_);(· (cbv;(try simp only [nc] at *);first|done|(simp;done)|(simp (disch:=(first|omega|(simp only [lnS,mks_len];omega))) only [rdT,rdS,mks_len,mks_get,anT];first|done|omega|(refine ⟨?_,?_⟩<;>omega))|(simp (disch:=(first|omega|(simp only [lnS,mks_len];omega))) [rdT,rdS,mks_len,mks_get];done)));cbv)
   |(refine ⟨fun _ h_s=>?_,fun _ h_s=>?_⟩<;>(cbv;(try simp only [nc] at *);try simp (disch:=(first|omega|(simp only [lnS,mks_len];omega))) only [rdT,rdS,mks_len,mks_get,reduceCtorEq,trT] at h_s))
   |(refine hF ?_;intro _;clear hF)
   |(refine hF ?_;cbv;clear hF)
   |(refine ⟨fun _=>?_,?_⟩;(· ((try simp only [nc] at *);first|done|omega|exact ⟨by omega,rfl⟩|(simp (disch:=(first|omega|(simp only [lnS,mks_len];omega))) only [rdT,rdS,mks_len,mks_get];first|done|omega|rfl|exact ⟨by omega,rfl⟩|(simp;done)|(simp;omega))|(intros;trivial)));(try (simp only [nc] at *));(try simp (disch:=(first|omega|(simp only [lnS,mks_len];omega))) only [rdT,rdS,mks_len,mks_get]);(try cbv))
   | fail
  )
  ·refine E.loopS (ι:=Nat) (fun j=>j≤(N t i).length∧((q t i j).isSome = true)) (fun j=>(N t i).length - j) (fun j=>[(55,.i fun _=>((j : Nat) : Int)),(8,.i fun _=>((c t i j : Nat) : Int)),(11,.i fun _=>(q t i j).getD 0)]) (fun j h=>h) 0 (fun _=>by first|rfl|simp) ⟨Nat.zero_le _,?_⟩ ?_ fun j hj I3 hI3=>?_
   ·exact hqi
   ·cbv; simp
   obtain ⟨hj, hqj⟩ := hj
   cbv
   have hcb := cb t i j
   have kid := ki ((N t i).getD j mk0)
   have kvd := kv ((N t i).getD j mk0)
   skip
   repeat' (first
    |(refine hI1 (t + 1) ?_ ?_ ?_;rotate_left 1;(· ((try simp only [nc] at *);omega));(cbv;clear hI1;(try clear hF);(try simp only [nc] at *);(try simp (disch:=(first|omega|(simp only [lnS,mks_len];omega))) only [rdT,rdS,mks_len,mks_get,anT]));rotate_left 1;(try ((try simp only [nc] at *);omega)))
    |(refine hI2 (i + 1) ?_ ?_ ?_;rotate_left 1;(· ((try simp only [nc] at *);omega));(cbv;clear hI2;(try clear hF);(try simp only [nc] at *);(try simp (disch:=(first|omega|(simp only [lnS,mks_len];omega))) only [rdT,rdS,mks_len,mks_get,anT]));rotate_left 1;(try ((try simp only [nc] at *);omega)))
    |(refine hI3 (j + 1) ?_ ?_ ?_;rotate_left 1;(· ((try simp only [nc] at *);omega));(cbv;clear hI3;(try clear hF);(try simp only [nc] at *);(try simp (disch:=(first|omega|(simp only [lnS,mks_len];omega))) only [rdT,rdS,mks_len,mks_get,anT]));rotate_left 1;(try ((try simp only [nc] at *);omega)))
    |(refine ⟨fun _ h_s=>?_,fun _ h_s=>?_⟩<;>(cbv;(try simp only [nc] at *);try simp (disch:=(first|omega|(simp only [lnS,mks_len];omega))) only [rdT,rdS,mks_len,mks_get,reduceCtorEq,trT] at h_s))
    |(refine hF ?_;intro _;clear hF)
    |(refine hF ?_;cbv;clear hF)
    |(refine ⟨fun _=>?_,?_⟩;(· ((try simp only [nc] at *);first|done|omega|exact ⟨by omega,rfl⟩|(simp (disch:=(first|omega|(simp only [lnS,mks_len];omega))) only [rdT,rdS,mks_len,mks_get];first|done|omega|rfl|exact ⟨by omega,rfl⟩|(simp;done)|(simp;omega))|(intros;trivial)|exact ⟨mok_mks _,by intro v hv;unfold is at hv;rw [LV.l_of] at hv;obtain ⟨x,_,rfl⟩:=List.mem_map.1 hv;rfl⟩));(try (simp only [nc] at *));(try simp (disch:=(first|omega|(simp only [lnS,mks_len];omega))) only [rdT,rdS,mks_len,mks_get]);(try cbv))
    | fail
   )
   all_goals clear kn knt
   all_goals obtain ⟨x, hx⟩ := Option.isSome_iff_exists.1 hqj
   all_goals have hx1 := qge _ _ _ _ hx
   ·refine qn t i j x (by ((try simp only [nc] at *); omega)) (by ((try simp only [nc] at *); omega)) (by ((try simp only [nc] at *); omega)) hx fun hlt => ?_
    have hlt : x < plK ms ((N t i).getD j mk0) := hlt
    have z := h_s.symm.trans (kid _ rfl)
    rw [decide_eq_true (show 0 ≤ plK ms ((N t i).getD j mk0) by omega)] at z
    cases z
   ·refine qn t i j x (by ((try simp only [nc] at *); omega)) (by ((try simp only [nc] at *); omega)) (by ((try simp only [nc] at *); omega)) hx fun hlt => ?_
    have hlt : x < plK ms ((N t i).getD j mk0) := hlt
    have p0 : 0 ≤ plK ms ((N t i).getD j mk0) := by omega
    have z := Int.le_trans (Int.le_of_eq (kvd _ rfl (AV.lit 0) p0).symm) h_s
    rw [hx, Option.getD_some] at z
    omega
   ·have p0 : 0 ≤ plK ms ((N t i).getD j mk0) := by
     have : decide (0 ≤ plK ms ((N t i).getD j mk0)) = true := (kid _ rfl).symm.trans (by assumption)
     exact of_decide_eq_true this
    have z : (q t i j).getD 0 < plK ms ((N t i).getD j mk0) := Int.lt_of_lt_of_le h_s (Int.le_of_eq (kvd _ rfl (AV.lit 0) p0))
    rw [hx, Option.getD_some] at z
    rw [qj t i j (by ((try simp only [nc] at *); omega)), hx, Option.bind_some, if_pos z]
    exact ⟨by ((try simp only [nc] at *); omega), rfl⟩
   ·have p0 : 0 ≤ plK ms ((N t i).getD j mk0) := by
     have : decide (0 ≤ plK ms ((N t i).getD j mk0)) = true := (kid _ rfl).symm.trans (by assumption)
     exact of_decide_eq_true this
    have z : (q t i j).getD 0 < plK ms ((N t i).getD j mk0) := Int.lt_of_lt_of_le h_s (Int.le_of_eq (kvd _ rfl (AV.lit 0) p0))
    rw [hx, Option.getD_some] at z
    rw [qj t i j (by ((try simp only [nc] at *); omega)), hx, Option.bind_some, if_pos z, cj t i j (by ((try simp only [nc] at *); omega))]
    refine ⟨⟨?_, kvd _ rfl (AV.lit 0) p0⟩, by push_cast; rfl⟩
    rw [w64_of (by have := hNl t i; omega) (by have := hNl t i; omega)]; push_cast; rfl
   ·have e : j = (N t i).length := by ((try simp only [nc] at *); omega)
    subst e
    exact ⟨by ((try simp only [nc] at *); omega), by rw [← qi]; exact hqj⟩
   ·have e : j = (N t i).length := by ((try simp only [nc] at *); omega)
    subst e
    exact ⟨by rw [← qi], by rw [← ci], by push_cast; rfl⟩
  ·have e : i = (g.th.getD t []).length := by ((try simp only [nc] at *); omega)
   subst e
   refine ⟨by ((try simp only [nc] at *); omega), fun t' h' => ?_⟩
   rcases Nat.lt_or_ge t' t with h1 | h1
   ·exact hpt t' h1
   ·obtain rfl : t' = t := by omega
    rw [← qe]; exact hqi
  ·have e : i = (g.th.getD t []).length := by ((try simp only [nc] at *); omega)
   subst e
   exact ⟨by push_cast; rfl, by rw [ct]⟩
 ·have e : t = g.th.length := by ((try simp only [nc] at *); omega)
  subst e
  show decide (((c g.th.length 0 0 : Nat) : Int) = ((mks ms).l.length : Int)) = markedM g ms
  unfold markedM
  rw [decide_eq_true hpt, mks_len, cT, Bool.true_and]
  exact decide_eq_decide.2 (by omega)
end Go.AL.Rl

namespace Go.AL.Rl
open Go Go.AL Go.Proofs
set_option maxRecDepth 100000
set_option maxHeartbeats 3200000
variable {γ : Nat → Option AV}

theorem scan_fold (p : Mk → Int) : ∀ (l : List Mk) (a : Int), (l.foldl (fun s d => s.bind fun x => if x < p d then some (p d) else none) (some a)).isSome = true ↔ l.Pairwise (fun x y => p x < p y) ∧ ∀ d ∈ l, a < p d
 | [], a => by simp
 | d :: l, a => by
  rw [List.foldl_cons, Option.bind_some]
  by_cases h : a < p d
  ·rw [if_pos h, scan_fold p l (p d), List.pairwise_cons]
   constructor
   ·rintro ⟨h1, h2⟩
    exact ⟨⟨h2, h1⟩, fun e he => by rcases List.mem_cons.1 he with rfl | he; exact h; have := h2 e he; omega⟩
   ·rintro ⟨⟨h2, h1⟩, _⟩
    exact ⟨h1, h2⟩
  ·rw [if_neg h]
   constructor
   ·intro h1
    exfalso
    revert h1
    generalize l = l0
    intro h1
    have : ∀ l : List Mk, (l.foldl (fun s d => s.bind fun x => if x < p d then some (p d) else none) (none : Option Int)) = none := by
     intro l; induction l with
     | nil => rfl
     | cons e l ih => exact ih
    rw [this] at h1; cases h1
   ·rintro ⟨_, h2⟩
    exact absurd (h2 d (by simp)) h
theorem scanK_iff (p : Mk → Int) (l : List Mk) : (scanK p l).isSome = true ↔ l.Pairwise (fun x y => p x < p y) ∧ ∀ d ∈ l, -1 < p d := scan_fold p l (-1)
theorem lastK_mem (ms : List Mk) (d : Mk) : ∀ n, n ≤ ms.length → ∀ k, lastK ms d n = some k → k < n ∧ ms.getD k mk0 = d
 | 0, _, k, h => by cases h
 | n + 1, hn, k, h => by
  unfold lastK at h
  split at h
  ·cases h; rename_i e; exact ⟨by omega, e⟩
  ·obtain ⟨h1, h2⟩ := lastK_mem ms d n (by omega) k h; exact ⟨by omega, h2⟩
theorem plK_mem {ms : List Mk} {d : Mk} (h : -1 < plK ms d) : ∃ k : Nat, plK ms d = k ∧ k < ms.length ∧ ms.getD k mk0 = d := by
 unfold plK at h ⊢
 cases e : lastK ms d ms.length with
 | none => rw [e] at h; simp at h
 | some k => exact ⟨k, rfl, lastK_mem ms d _ (Nat.le_refl _) k e⟩
theorem needM_mem {d : EId} {k : Int} {m : Mk} : m ∈ needM d k ↔ m.id = d ∧ ((m.w = false ∧ k ≠ 2) ∨ (m.w = true ∧ (k = 2 ∨ k = 3))) := by
 obtain ⟨e, w⟩ := m
 unfold needM
 by_cases h1 : k = 2
 ·simp [h1]
 ·by_cases h2 : k = 3 <;> simp [h1, h2] <;> cases w <;> simp
theorem needM_nodup (d : EId) (k : Int) : (needM d k).Nodup := by
 unfold needM
 by_cases h1 : k = 2
 ·simp [h1]
 ·by_cases h2 : k = 3 <;> simp [h1, h2]
theorem needE_mem {t : Nat} {l : List Ev} {i : Nat} {m : Mk} : m ∈ needE t l i ↔ ∃ j < i, m ∈ needM ⟨(t : Int) + 1, (j : Int)⟩ (l.getD j ev0).kind := by
 unfold needE; simp only [List.mem_flatMap, List.mem_range]
theorem needE_nodup (t : Nat) (l : List Ev) (i : Nat) : (needE t l i).Nodup := by
 unfold needE List.Nodup
 rw [List.pairwise_flatMap]
 refine ⟨fun a _ => needM_nodup _ _, (List.nodup_range (n := i)).imp fun {a b} hab x hx y hy e => hab ?_⟩
 have h1 := (needM_mem.1 hx).1
 have h2 := (needM_mem.1 hy).1
 rw [e, h2] at h1
 have := congrArg EId.i h1
 simp only at this
 omega
/-- all marks that a graph asks for -/
def allN (g : Gr) : List Mk := (List.range g.th.length).flatMap fun t => needE t (g.th.getD t []) (g.th.getD t []).length
theorem allN_mem {g : Gr} {m : Mk} : m ∈ allN g ↔ ∃ t < g.th.length, ∃ j < (g.th.getD t []).length, m ∈ needM ⟨(t : Int) + 1, (j : Int)⟩ ((g.th.getD t []).getD j ev0).kind := by
 unfold allN; simp only [List.mem_flatMap, List.mem_range, needE_mem]
theorem allN_nodup (g : Gr) : (allN g).Nodup := by
 unfold allN List.Nodup
 rw [List.pairwise_flatMap]
 refine ⟨fun a _ => needE_nodup _ _ _, (List.nodup_range (n := g.th.length)).imp fun {a b} hab x hx y hy e => hab ?_⟩
 obtain ⟨_, _, hx⟩ := needE_mem.1 hx
 obtain ⟨_, _, hy⟩ := needE_mem.1 hy
 have h1 := (needM_mem.1 hx).1
 have h2 := (needM_mem.1 hy).1
 rw [e, h2] at h1
 have := congrArg EId.t h1
 simp only at this
 omega
theorem allN_len (g : Gr) : (allN g).length = cntN g g.th.length := by
 unfold allN cntN
 rw [List.length_flatMap]
theorem marked_iff (g : Gr) (ms : List Mk) : markedM g ms = true ↔ (allN g).Perm ms ∧ ∀ t < g.th.length, (needE t (g.th.getD t []) (g.th.getD t []).length).Pairwise fun x y => plK ms x < plK ms y := by
 unfold markedM
 rw [Bool.and_eq_true, decide_eq_true_eq, decide_eq_true_eq, ← allN_len]
 constructor
 ·rintro ⟨h1, h2⟩
  refine ⟨perm_of_sub (allN_nodup g) (fun m hm => ?_) (by omega), fun t ht => ((scanK_iff _ _).1 (h1 t ht)).1⟩
  obtain ⟨t, ht, j, hj, hm⟩ := allN_mem.1 hm
  obtain ⟨k, _, hk, e⟩ := plK_mem (((scanK_iff _ _).1 (h1 t ht)).2 m (needE_mem.2 ⟨j, hj, hm⟩))
  rw [← e]; exact getD_mem hk
 ·rintro ⟨h1, h2⟩
  refine ⟨fun t ht => (scanK_iff _ _).2 ⟨h2 t ht, fun d hd => ?_⟩, h1.length_eq⟩
  obtain ⟨j, hj, hm⟩ := needE_mem.1 hd
  have hin : d ∈ ms := h1.subset (allN_mem.2 ⟨t, ht, j, hj, hm⟩)
  obtain ⟨k, hk, e⟩ := List.getElem_of_mem hin
  have : ∀ n, k < n → ∃ i, lastK ms d n = some i := by
   intro n
   induction n with
   | zero => intro h; omega
   | succ n ih =>
    intro h
    unfold lastK
    by_cases e2 : ms.getD n mk0 = d
    ·exact ⟨n, if_pos e2⟩
    ·rw [if_neg e2]
     refine ih ?_
     rcases Nat.lt_or_ge k n with h3 | h3
     ·exact h3
     ·obtain rfl : k = n := by omega
      exact absurd (by simp [hk, e]) e2
  obtain ⟨i, hi⟩ := this ms.length hk
  unfold plK; rw [hi]; simp; omega
theorem marked_in {g : Gr} {ms : List Mk} (h : markedM g ms = true) {m : Mk} (hm : m ∈ ms) : 1 ≤ m.id.t ∧ (m.id.t - 1).toNat < g.th.length ∧ 0 ≤ m.id.i ∧ m.id.i.toNat < (g.th.getD (m.id.t - 1).toNat []).length := by
 obtain ⟨t, ht, j, hj, hn⟩ := allN_mem.1 (((marked_iff g ms).1 h).1.symm.subset hm)
 have e := (needM_mem.1 hn).1
 rw [e]
 have : ((t : Int) + 1 - 1).toNat = t := by omega
 simp only [this]
 exact ⟨by omega, ht, by omega, by simpa using hj⟩
end Go.AL.Rl

namespace Go.AL.Rl
open Go Go.AL Go.Proofs
set_option maxRecDepth 100000
set_option maxHeartbeats 3200000
variable {γ : Nat → Option AV}

def halfOk (s : Sta) : Bool := decide (0 ≤ s.half) && decide (s.half ≤ s.g.th.length) && (decide (s.half = 0) || (decide ((s.g.th.getD (s.half - 1).toNat []).length ≠ 0) && decide (((s.g.th.getD (s.half - 1).toNat []).getD ((s.g.th.getD (s.half - 1).toNat []).length - 1) ev0).kind = 1)))
theorem halfOk_iff (s : Sta) : halfOk s = true ↔ 0 ≤ s.half ∧ s.half ≤ s.g.th.length ∧ (s.half = 0 ∨ ((s.g.th.getD (s.half - 1).toNat []).length ≠ 0 ∧ ((s.g.th.getD (s.half - 1).toNat []).getD ((s.g.th.getD (s.half - 1).toNat []).length - 1) ev0).kind = 1)) := by
 unfold halfOk
 simp only [Bool.and_eq_true, Bool.or_eq_true, decide_eq_true_eq]
 constructor
 ·rintro ⟨⟨a, b⟩, c⟩; exact ⟨a, b, c⟩
 ·rintro ⟨a, b, c⟩; exact ⟨⟨a, b⟩, c⟩
def SOk (s : Sta) : Prop := GOk s.g ∧ markedM s.g s.ms = true ∧ halfOk s = true
instance (s : Sta) : Decidable (SOk s) := inferInstanceAs (Decidable (_ ∧ _))
def pcheckM (s : Sta) : Int := if SOk s then 0 else 2
theorem pcheck_ok (s : Sta) (hg : Rd s.g) (hm : (s.ms.length : Int) ≤ 17592186044416) : Pure Tryz.prog γ false 8 [aSt s] (.i fun _ => pcheckM s) := by
 have kg := gcheck_ok (γ := γ) s.g hg
 by_cases hgo : GOk s.g
 ·have km := pmarked_ok (γ := γ) s.g hgo s.ms hm
  rw [gcheck0 hgo] at kg
  have hs := hgo.short
  have hth := hs.th
  have hle := hs.at (s.half - 1).toNat
  by_cases hmk : markedM s.g s.ms = true
  ·rw [hmk] at km
   have hp : pcheckM s = if halfOk s then 0 else 2 := by
    unfold pcheckM SOk; simp [hgo, hmk]
   rw [hp]
   have hi := halfOk_iff s
   obtain ⟨L, hL⟩ : ∃ L, L = s.g.th.getD (s.half - 1).toNat [] := ⟨_, rfl⟩
   rw [← hL] at hle
   obtain ⟨z, hz⟩ : ∃ z : Int, z = if halfOk s then 0 else 2 := ⟨_, rfl⟩
   have h2 : ¬ (0 ≤ s.half ∧ s.half ≤ s.g.th.length ∧ (s.half = 0 ∨ ((s.g.th.getD (s.half - 1).toNat []).length ≠ 0 ∧ ((s.g.th.getD (s.half - 1).toNat []).getD ((s.g.th.getD (s.half - 1).toNat []).length - 1) ev0).kind = 1))) → 2 = z := fun h => by
    rw [hz, if_neg]; rwa [hi]
   have h0 : (0 ≤ s.half ∧ s.half ≤ s.g.th.length ∧ (s.half = 0 ∨ ((s.g.th.getD (s.half - 1).toNat []).length ≠ 0 ∧ ((s.g.th.getD (s.half - 1).toNat []).getD ((s.g.th.getD (s.half - 1).toNat []).length - 1) ev0).kind = 1))) → 0 = z := fun h => by
    rw [hz, if_pos]; rwa [hi]
   rw [← hz]
   clear hz hi hp
   by_cases hneg : 0 < s.half ∧ s.half ≤ s.g.th.length
   ·have hle2 := hs.at (s.half - 1).toNat
    have hx : (((s.g.th.getD (s.half - 1).toNat []).length : Int) - 1).toNat = (s.g.th.getD (s.half - 1).toNat []).length - 1 := by omega
    obtain ⟨hw, ho⟩ : 0 ≤ s.half - 1 ∧ s.half - 1 < s.g.th.length := by omega
    refine Pure.go (ty := ty) ty_eq mo Tryz.func8 rfl Tryz.ntmps8 Tryz.results8 Tryz.call8 (by simp) fun P C CQ D W F E hF => ?_
    cbv
    repeat' (first
     |(refine E.c (SCalls.of_le (km) ?_ ?_);(· (cbv;(try simp only [nc] at *);first|done|(simp;done)|(simp (disch:=(first|omega|(simp only [lnS];omega))) only [rdT,rdS,anT];first|done|omega|(refine ⟨?_,?_⟩<;>omega))|(simp (disch:=(first|omega|(simp only [lnS];omega))) [rdT,rdS];done)));cbv)
     |(refine E.c (SCalls.of_le (kg) ?_ ?_);(· (cbv;(try simp only [nc] at *);first|done|(simp;done)|(simp (disch:=(first|omega|(simp only [lnS];omega))) only [rdT,rdS,anT];first|done|omega|(refine ⟨?_,?_⟩<;>omega))|(simp (disch:=(first|omega|(simp only [lnS];omega))) [rdT,rdS];done)));cbv)
     |(refine ⟨fun _ h_s=>?_,fun _ h_s=>?_⟩<;>(cbv;(try simp only [nc] at *);try simp (disch:=(first|omega|(simp only [lnS];omega))) only [rdT,rdS,reduceCtorEq,trT] at h_s))
     |(refine hF ?_;intro _;clear hF)
     |(refine hF ?_;cbv;clear hF)
     |(refine ⟨fun _=>?_,?_⟩;(· ((try simp only [nc] at *);first|done|omega|exact ⟨by omega,rfl⟩|(simp (disch:=(first|omega|(simp only [lnS];omega))) only [rdT,rdS];first|done|omega|rfl|exact ⟨by omega,rfl⟩|(simp;done)|(simp;omega))|(intros;trivial)));(try (simp only [nc] at *));(try simp (disch:=(first|omega|(simp only [lnS];omega))) only [rdT,rdS]);(try cbv))
     | fail
    )
    all_goals (try simp only [hx] at h_s)
    all_goals first
     | exact absurd trivial h_s
     | (refine h2 ?_; ((try simp only [nc] at *); omega))
     | (refine h0 ?_; ((try simp only [nc] at *); omega))
     | (exfalso; ((try simp only [nc] at *); omega))
   ·refine Pure.go (ty := ty) ty_eq mo Tryz.func8 rfl Tryz.ntmps8 Tryz.results8 Tryz.call8 (by simp) fun P C CQ D W F E hF => ?_
    cbv
    repeat' (first
     |(refine E.c (SCalls.of_le (km) ?_ ?_);(· (cbv;(try simp only [nc] at *);first|done|(simp;done)|(simp (disch:=(first|omega|(simp only [lnS];omega))) only [rdT,rdS,anT];first|done|omega|(refine ⟨?_,?_⟩<;>omega))|(simp (disch:=(first|omega|(simp only [lnS];omega))) [rdT,rdS];done)));cbv)
     |(refine E.c (SCalls.of_le (kg) ?_ ?_);(· (cbv;(try simp only [nc] at *);first|done|(simp;done)|(simp (disch:=(first|omega|(simp only [lnS];omega))) only [rdT,rdS,anT];first|done|omega|(refine ⟨?_,?_⟩<;>omega))|(simp (disch:=(first|omega|(simp only [lnS];omega))) [rdT,rdS];done)));cbv)
     |(refine ⟨fun _ h_s=>?_,fun _ h_s=>?_⟩<;>(cbv;(try simp only [nc] at *);try simp (disch:=(first|omega|(simp only [lnS];omega))) only [rdT,rdS,reduceCtorEq,trT] at h_s))
     |(refine hF ?_;intro _;clear hF)
     |(refine hF ?_;cbv;clear hF)
     |(refine ⟨fun _=>?_,?_⟩;(· ((try simp only [nc] at *);first|done|omega|exact ⟨by omega,rfl⟩|(simp (disch:=(first|omega|(simp only [lnS];omega))) only [rdT,rdS];first|done|omega|rfl|exact ⟨by omega,rfl⟩|(simp;done)|(simp;omega))|(intros;trivial)));(try (simp only [nc] at *));(try simp (disch:=(first|omega|(simp only [lnS];omega))) only [rdT,rdS]);(try cbv))
     | fail
    )
    all_goals first
     | exact absurd trivial h_s
     | (refine h2 ?_; ((try simp only [nc] at *); omega))
     | (refine h0 ?_; ((try simp only [nc] at *); omega))
     | (exfalso; ((try simp only [nc] at *); omega))
  ·have e : markedM s.g s.ms = false := by simpa using hmk
   rw [e] at km
   rw [show pcheckM s = 2 from if_neg fun h => hmk h.2.1]
   refine Pure.go (ty := ty) ty_eq mo Tryz.func8 rfl Tryz.ntmps8 Tryz.results8 Tryz.call8 (by simp) fun P C CQ D W F E hF => ?_
   cbv
   repeat' (first
    |(refine E.c (SCalls.of_le (km) ?_ ?_);(· (cbv;(try simp only [nc] at *);first|done|(simp;done)|(simp (disch:=(first|omega|(simp only [lnS];omega))) only [rdT,rdS,anT];first|done|omega|(refine ⟨?_,?_⟩<;>omega))|(simp (disch:=(first|omega|(simp only [lnS];omega))) [rdT,rdS];done)));cbv)
    |(refine E.c (SCalls.of_le (kg) ?_ ?_);(· (cbv;(try simp only [nc] at *);first|done|(simp;done)|(simp (disch:=(first|omega|(simp only [lnS];omega))) only [rdT,rdS,anT];first|done|omega|(refine ⟨?_,?_⟩<;>omega))|(simp (disch:=(first|omega|(simp only [lnS];omega))) [rdT,rdS];done)));cbv)
    |(refine ⟨fun _ h_s=>?_,fun _ h_s=>?_⟩<;>(cbv;(try simp only [nc] at *);try simp (disch:=(first|omega|(simp only [lnS];omega))) only [rdT,rdS,reduceCtorEq,trT] at h_s))
    |(refine hF ?_;intro _;clear hF)
    |(refine hF ?_;cbv;clear hF)
    |(refine ⟨fun _=>?_,?_⟩;(· ((try simp only [nc] at *);first|done|omega|exact ⟨by omega,rfl⟩|(simp (disch:=(first|omega|(simp only [lnS];omega))) only [rdT,rdS];first|done|omega|rfl|exact ⟨by omega,rfl⟩|(simp;done)|(simp;omega))|(intros;trivial)));(try (simp only [nc] at *));(try simp (disch:=(first|omega|(simp only [lnS];omega))) only [rdT,rdS]);(try cbv))
    | fail
   )
   all_goals first
    | (exfalso; revert h_s; simp; done)
    | rfl
 ·rw [show pcheckM s = 2 from if_neg fun h => hgo h.1]
  have hc : gcheckM s.g ≠ 0 := by unfold gcheckM; split <;> simp [hgo]
  refine Pure.go (ty := ty) ty_eq mo Tryz.func8 rfl Tryz.ntmps8 Tryz.results8 Tryz.call8 (by simp) fun P C CQ D W F E hF => ?_
  cbv
  repeat' (first
   |(refine E.c (SCalls.of_le (kg) ?_ ?_);(· (cbv;(try simp only [nc] at *);first|done|(simp;done)|(simp (disch:=(first|omega|(simp only [lnS];omega))) only [rdT,rdS,anT];first|done|omega|(refine ⟨?_,?_⟩<;>omega))|(simp (disch:=(first|omega|(simp only [lnS];omega))) [rdT,rdS];done)));cbv)
   |(refine ⟨fun _ h_s=>?_,fun _ h_s=>?_⟩<;>(cbv;(try simp only [nc] at *);try simp (disch:=(first|omega|(simp only [lnS];omega))) only [rdT,rdS,reduceCtorEq,trT] at h_s))
   |(refine hF ?_;intro _;clear hF)
   |(refine hF ?_;cbv;clear hF)
   |(refine ⟨fun _=>?_,?_⟩;(· ((try simp only [nc] at *);first|done|omega|exact ⟨by omega,rfl⟩|(simp (disch:=(first|omega|(simp only [lnS];omega))) only [rdT,rdS];first|done|omega|rfl|exact ⟨by omega,rfl⟩|(simp;done)|(simp;omega))|(intros;trivial)));(try (simp only [nc] at *));(try simp (disch:=(first|omega|(simp only [lnS];omega))) only [rdT,rdS]);(try cbv))
   | fail
  )
  all_goals first
   | exact absurd trivial h_s
   | rfl
   | (exfalso; ((try simp only [nc] at *); omega))
   | exact absurd h_s hc
end Go.AL.Rl

namespace Go.AL.Rl
open Go Go.AL Go.Proofs
set_option maxRecDepth 100000
set_option maxHeartbeats 3200000
variable {γ : Nat → Option AV}

def keptM (k : Gr) (m : Mk) : Bool := decide (m.id.i < (k.th.getD (m.id.t - 1).toNat []).length)
def cutM (s : Sta) (l : List EId) : Sta := ⟨keepM s.g l, s.ms.filter (keptM (keepM s.g l)), if 0 < s.half ∧ ((keepM s.g l).th.getD (s.half - 1).toNat []).length = (s.g.th.getD (s.half - 1).toNat []).length then s.half else 0⟩
abbrev sz : Sta := ⟨gz, [], 0⟩
theorem keep_th (g : Gr) (l : List EId) (t : Nat) : (keepM g l).th.getD t [] = if t < g.th.length then keepTh g l t (g.th.getD t []).length else [] := by
 unfold keepM
 by_cases h : t < g.th.length
 ·rw [if_pos h]; simp [h]
 ·rw [if_neg h]; simp [h]
theorem keep_thl (g : Gr) (l : List EId) : (keepM g l).th.length = g.th.length := by simp [keepM]
theorem keep_le (g : Gr) (l : List EId) (t : Nat) : ((keepM g l).th.getD t []).length ≤ (g.th.getD t []).length := by
 rw [keep_th]
 split
 ·unfold keepTh; rw [List.length_map]; exact keepP_len l t _
 ·exact Nat.zero_le _
theorem pcut_ok (hγ : γ 0 = some tabAV) (s : Sta) (hg : Rd s.g) (hm : (s.ms.length : Int) ≤ 17592186044416) (l : List EId) (hl : (l.length : Int) ≤ 17592186044416) :
  Pure Tryz.prog γ false 6 [aSt s, .vs 2 fun _ => ids l] (.tup [aSt (if SOk s ∧ closedG s.g l = true then cutM s l else sz), .i fun _ => if SOk s ∧ closedG s.g l = true then 0 else 2]) := by
 have kc := pcheck_ok (γ := γ) s hg hm
 have kk := pkeep_ok (γ := γ) hγ s.g hg l hl
 by_cases hs : SOk s
 ·rw [show pcheckM s = 0 from if_pos hs] at kc
  by_cases hc : closedG s.g l = true
  ·rw [if_pos ⟨hs, hc⟩, if_pos ⟨hs, hc⟩]
   rw [if_pos hc, if_pos hc] at kk
   have hsh := hs.1.short
   have hth := hsh.th
   have hle := hsh.at
   have hin : ∀ i, i < s.ms.length → _ := fun i hi => marked_in hs.2.1 (getD_mem (d := mk0) hi)
   have hkl := keep_thl s.g l
   have hml : s.ms.length ≤ 112 := by
    have h1 := cntN_le hsh s.g.th.length
    have h2 := ((marked_iff s.g s.ms).1 hs.2.1).1.length_eq
    rw [allN_len] at h2
    omega
   obtain ⟨hh1, hh2, hh3⟩ := (halfOk_iff s).1 hs.2.2
   clear hh3
   have hke := keep_le s.g l
   obtain ⟨p, hp⟩ : ∃ p, p = keptM (keepM s.g l) := ⟨_, rfl⟩
   have hp2 : ∀ m, p m = decide (m.id.i < ((keepM s.g l).th.getD (m.id.t - 1).toNat []).length) := fun m => by rw [hp]; rfl
   obtain ⟨M, hM⟩ : ∃ M : Nat → List Mk, ∀ i, M i = (s.ms.take i).filter p := ⟨_, fun _ => rfl⟩
   have hM0 : M 0 = [] := by rw [hM]; rfl
   have hMS : ∀ i, i < s.ms.length → M (i + 1) = M i ++ if p (s.ms.getD i mk0) then [s.ms.getD i mk0] else [] := fun i hi => by
    rw [hM, hM, take_succ' _ i mk0 hi, List.filter_append]
    congr 1
    cases h : p (s.ms.getD i mk0) with
    | true => rw [List.filter_cons_of_pos h]; rfl
    | false => rw [List.filter_cons_of_neg (by rw [h]; simp)]; rfl
   have hMl : ∀ i, (M i).length ≤ i := fun i => by rw [hM]; exact Nat.le_trans (List.length_filter_le _ _) (by simp; omega)
   have hMe : M s.ms.length = (cutM s l).ms := by rw [hM, List.take_length, hp]; rfl
   have hcg : (cutM s l).g = keepM s.g l := rfl
   have hch : (cutM s l).half = if 0 < s.half ∧ ((keepM s.g l).th.getD (s.half - 1).toNat []).length = (s.g.th.getD (s.half - 1).toNat []).length then s.half else 0 := rfl
   generalize keepM s.g l = k at *
   generalize cutM s l = c at *
   refine Pure.go (ty := ty) ty_eq mo Tryz.func6 rfl Tryz.ntmps6 Tryz.results6 Tryz.call6 (by simp) fun P C CQ D W F E hF => ?_
   cbv
   repeat' (first
    |(refine E.c (SCalls.of_le (kk) ?_ ?_);(· (cbv;(try simp only [nc] at *);first|done|(simp;done)|(simp (disch:=(first|omega|(simp only [lnS];omega))) only [rdT,rdS,anT];first|done|omega|(refine ⟨?_,?_⟩<;>omega))|(simp (disch:=(first|omega|(simp only [lnS];omega))) [rdT,rdS];done)));cbv)
    |(refine E.c (SCalls.of_le (kc) ?_ ?_);(· (cbv;(try simp only [nc] at *);first|done|(simp;done)|(simp (disch:=(first|omega|(simp only [lnS];omega))) only [rdT,rdS,anT];first|done|omega|(refine ⟨?_,?_⟩<;>omega))|(simp (disch:=(first|omega|(simp only [lnS];omega))) [rdT,rdS];done)));cbv)
    |(refine ⟨fun _ h_s=>?_,fun _ h_s=>?_⟩<;>(cbv;(try simp only [nc] at *);try simp (disch:=(first|omega|(simp only [lnS];omega))) only [rdT,rdS,reduceCtorEq,trT] at h_s))
    |(refine hF ?_;intro _;clear hF)
    |(refine hF ?_;cbv;clear hF)
    |(refine ⟨fun _=>?_,?_⟩;(· ((try simp only [nc] at *);first|done|omega|exact ⟨by omega,rfl⟩|(simp (disch:=(first|omega|(simp only [lnS];omega))) only [rdT,rdS];first|done|omega|rfl|exact ⟨by omega,rfl⟩|(simp;done)|(simp;omega))|(intros;trivial)));(try (simp only [nc] at *));(try simp (disch:=(first|omega|(simp only [lnS];omega))) only [rdT,rdS]);(try cbv))
    |(refine E.d 12 (by decide +kernel) ?_;cbv;(fail_if_success guard_target =~ False))
    |(refine E.d 18 (by decide +kernel) ?_;cbv;(fail_if_success guard_target =~ False))
    | fail
   )
   ·exact absurd h_s (by simp)
   ·exact absurd h_s (by simp)
   have hG : ∃ G : Nat → Nat, ∀ x, G x = x := ⟨_, fun _ => rfl⟩
   obtain ⟨G, hG⟩ := hG
   skip
   refine E.w (AWP.ghostField 3 4 3 rfl rfl ?_)
   refine E.loopSA (ι:=Nat) (fun x=>x≤s.ms.length) (fun x=>s.ms.length - x) (fun x=>[(35,.i fun _=>((x : Nat) : Int))]) (fun x h=>(h.set 3 (.box (.agg [.vs 1 fun _=>is k.init,.vs 1 fun _=>evss k.th,.vs 1 fun _=>idss k.fr,.vs 1 fun _=>idss k.ord,.sl 4 (G (M x).length) 3 (fun _=>0) fun _=>(M x).length,.lit 0]))).set 4 (.run (G (M x).length) 3 fun _=>mks (M x))) 0 (fun _=>by first|rfl|simp) (Nat.zero_le _) ?_ fun x hx I hI=>?_
   ·cbv; simp [hM0, hG, mks, LV.of]
   cbv
   have e1 := hMS x
   have e2 := hMl x
   have e3 := hin x
   have e4 := hle ((s.ms.getD x mk0).id.t - 1).toNat
   have e5 := hke ((s.ms.getD x mk0).id.t - 1).toNat
   skip
   repeat' (first
    |(refine hI (x + 1) ?_ ?_ ?_;rotate_left 1;(· ((try simp only [nc] at *);omega));(cbv;clear hI;(try clear hF);(try simp only [nc] at *);(try simp (disch:=(first|omega|(simp only [lnS,mks_len];omega))) only [rdT,rdS,mks_len,mks_get,anT]));rotate_left 1;(try ((try simp only [nc] at *);omega)))
    |(refine ⟨fun _ h_s=>?_,fun _ h_s=>?_⟩<;>(cbv;(try simp only [nc] at *);try simp (disch:=(first|omega|(simp only [lnS,mks_len];omega))) only [rdT,rdS,mks_len,mks_get,reduceCtorEq,trT] at h_s))
    |(refine hF ?_;intro _;clear hF)
    |(refine hF ?_;cbv;clear hF)
    |(refine ⟨fun _=>?_,?_⟩;(· ((try simp only [nc] at *);first|done|omega|exact ⟨by omega,rfl⟩|(simp (disch:=(first|omega|(simp only [lnS,mks_len];omega))) only [rdT,rdS,mks_len,mks_get];first|done|omega|rfl|exact ⟨by omega,rfl⟩|(simp;done)|(simp;omega))|(intros;trivial)|exact ⟨by first|trivial|rfl,by first|trivial|rfl|simp,by first|trivial|simp,by simp;omega,by simp;omega,by simp [AV.flat,AV.cells,AV.one]⟩));(try (simp only [nc] at *));(try simp (disch:=(first|omega|(simp only [lnS,mks_len];omega))) only [rdT,rdS,mks_len,mks_get]);(try cbv))
    |(refine E.d 12 (by decide +kernel) ?_;cbv;(fail_if_success guard_target =~ False))
    |(refine E.d 18 (by decide +kernel) ?_;cbv;(fail_if_success guard_target =~ False))
    | fail
   )
   ·rw [e1 (by ((try simp only [nc] at *); omega)), hp2, if_pos (decide_eq_true h_s)]
    simp [hG, mks, setAll, AV.nrm, nrms, nrm1]
   ·rw [e1 (by ((try simp only [nc] at *); omega)), hp2, if_neg (by simpa using h_s), List.append_nil]
    simp
   all_goals have e : x = s.ms.length := by ((try simp only [nc] at *); omega)
   all_goals subst e
   all_goals have t1 : List.take (M s.ms.length).length (mks (M s.ms.length)).l = (mks c.ms).l := by rw [List.take_of_length_le (by rw [mks_len]; exact Nat.le_refl _), hMe]
   all_goals simp only [hcg, hch, mks_len, List.drop_zero, t1, Nat.zero_add, Nat.le_refl, and_self, and_true, true_and, implies_true]
   ·rw [if_pos ⟨by ((try simp only [nc] at *); omega), by ((try simp only [nc] at *); omega)⟩]; simp
   ·rw [if_neg fun h => by ((try simp only [nc] at *); omega)]; simp
   ·rw [if_neg fun h => by ((try simp only [nc] at *); omega)]; simp
  ·rw [if_neg fun h => hc h.2, if_neg fun h => hc h.2]
   rw [if_neg hc, if_neg hc] at kk
   refine Pure.go (ty := ty) ty_eq mo Tryz.func6 rfl Tryz.ntmps6 Tryz.results6 Tryz.call6 (by simp) fun P C CQ D W F E hF => ?_
   cbv
   repeat' (first
    |(refine E.c (SCalls.of_le (kk) ?_ ?_);(· (cbv;(try simp only [nc] at *);first|done|(simp;done)|(simp (disch:=(first|omega|(simp only [lnS,mks_len];omega))) only [rdT,rdS,mks_len,mks_get,anT];first|done|omega|(refine ⟨?_,?_⟩<;>omega))|(simp (disch:=(first|omega|(simp only [lnS,mks_len];omega))) [rdT,rdS,mks_len,mks_get];done)));cbv)
    |(refine E.c (SCalls.of_le (kc) ?_ ?_);(· (cbv;(try simp only [nc] at *);first|done|(simp;done)|(simp (disch:=(first|omega|(simp only [lnS,mks_len];omega))) only [rdT,rdS,mks_len,mks_get,anT];first|done|omega|(refine ⟨?_,?_⟩<;>omega))|(simp (disch:=(first|omega|(simp only [lnS,mks_len];omega))) [rdT,rdS,mks_len,mks_get];done)));cbv)
    |(refine ⟨fun _ h_s=>?_,fun _ h_s=>?_⟩<;>(cbv;(try simp only [nc] at *);try simp (disch:=(first|omega|(simp only [lnS,mks_len];omega))) only [rdT,rdS,mks_len,mks_get,reduceCtorEq,trT] at h_s))
    |(refine hF ?_;intro _;clear hF)
    |(refine hF ?_;cbv;clear hF)
    |(refine ⟨fun _=>?_,?_⟩;(· ((try simp only [nc] at *);first|done|omega|exact ⟨by omega,rfl⟩|(simp (disch:=(first|omega|(simp only [lnS,mks_len];omega))) only [rdT,rdS,mks_len,mks_get];first|done|omega|rfl|exact ⟨by omega,rfl⟩|(simp;done)|(simp;omega))|(intros;trivial)|exact ⟨by first|trivial|rfl,by first|trivial|rfl|simp,by first|trivial|simp,by simp;omega,by simp;omega,by simp [AV.flat,AV.cells,AV.one]⟩));(try (simp only [nc] at *));(try simp (disch:=(first|omega|(simp only [lnS,mks_len];omega))) only [rdT,rdS,mks_len,mks_get]);(try cbv))
    |(refine E.d 12 (by decide +kernel) ?_;cbv;(fail_if_success guard_target =~ False))
    |(refine E.d 18 (by decide +kernel) ?_;cbv;(fail_if_success guard_target =~ False))
    | fail
   )
   all_goals first
    | (exfalso; revert h_s; simp; done)
    | (simp [is, ids, evss, idss, mks, LV.of, LV.l]; done)
 ·rw [if_neg fun h => hs h.1, if_neg fun h => hs h.1]
  rw [show pcheckM s = 2 from if_neg hs] at kc
  refine Pure.go (ty := ty) ty_eq mo Tryz.func6 rfl Tryz.ntmps6 Tryz.results6 Tryz.call6 (by simp) fun P C CQ D W F E hF => ?_
  cbv
  repeat' (first
   |(refine E.c (SCalls.of_le (kc) ?_ ?_);(· (cbv;(try simp only [nc] at *);first|done|(simp;done)|(simp (disch:=(first|omega|(simp only [lnS,mks_len];omega))) only [rdT,rdS,mks_len,mks_get,anT];first|done|omega|(refine ⟨?_,?_⟩<;>omega))|(simp (disch:=(first|omega|(simp only [lnS,mks_len];omega))) [rdT,rdS,mks_len,mks_get];done)));cbv)
   |(refine ⟨fun _ h_s=>?_,fun _ h_s=>?_⟩<;>(cbv;(try simp only [nc] at *);try simp (disch:=(first|omega|(simp only [lnS,mks_len];omega))) only [rdT,rdS,mks_len,mks_get,reduceCtorEq,trT] at h_s))
   |(refine hF ?_;intro _;clear hF)
   |(refine hF ?_;cbv;clear hF)
   |(refine ⟨fun _=>?_,?_⟩;(· ((try simp only [nc] at *);first|done|omega|exact ⟨by omega,rfl⟩|(simp (disch:=(first|omega|(simp only [lnS,mks_len];omega))) only [rdT,rdS,mks_len,mks_get];first|done|omega|rfl|exact ⟨by omega,rfl⟩|(simp;done)|(simp;omega))|(intros;trivial)|exact ⟨by first|trivial|rfl,by first|trivial|rfl|simp,by first|trivial|simp,by simp;omega,by simp;omega,by simp [AV.flat,AV.cells,AV.one]⟩));(try (simp only [nc] at *));(try simp (disch:=(first|omega|(simp only [lnS,mks_len];omega))) only [rdT,rdS,mks_len,mks_get]);(try cbv))
   |(refine E.d 12 (by decide +kernel) ?_;cbv;(fail_if_success guard_target =~ False))
   |(refine E.d 18 (by decide +kernel) ?_;cbv;(fail_if_success guard_target =~ False))
   | fail
  )
  all_goals first
   | (exfalso; revert h_s; simp; done)
   | (simp [is, ids, evss, idss, mks, LV.of, LV.l]; done)
end Go.AL.Rl

namespace Go.AL.Rl
open Go Go.AL Go.Proofs
set_option maxRecDepth 100000
set_option maxHeartbeats 3200000
variable {γ : Nat → Option AV}

theorem kids_ok (a b : List EId) (ha : (a.length : Int) ≤ 9223372036854775807) : Pure Tryz.prog γ false 18 [.vs 2 fun _ => ids a, .vs 2 fun _ => ids b] (.b fun _ => decide (a = b)) := by
 refine Pure.go (ty := ty) ty_eq mo Tryz.func18 rfl Tryz.ntmps18 Tryz.results18 Tryz.call18 (by simp) fun P C CQ D W F E hF => ?_
 cbv
 repeat' (first
  |(refine ⟨fun _ h_s=>?_,fun _ h_s=>?_⟩<;>(cbv;(try simp only [nc] at *);try simp (disch:=(first|omega|(simp only [lnS];omega))) only [rdT,rdS,reduceCtorEq,trT] at h_s))
  |(refine hF ?_;intro _;clear hF)
  |(refine hF ?_;cbv;clear hF)
  |(refine ⟨fun _=>?_,?_⟩;(· ((try simp only [nc] at *);first|done|omega|exact ⟨by omega,rfl⟩|(simp (disch:=(first|omega|(simp only [lnS];omega))) only [rdT,rdS];first|done|omega|rfl|exact ⟨by omega,rfl⟩|(simp;done)|(simp;omega))|(intros;trivial)));(try (simp only [nc] at *));(try simp (disch:=(first|omega|(simp only [lnS];omega))) only [rdT,rdS]);(try cbv))
  |(refine E.d 8 (by decide +kernel) ?_;cbv;(fail_if_success guard_target =~ False))
  | fail
 )
 ·simp
  intro e; subst e; simp_all
 ·refine E.loopS (ι:=Nat) (fun i=>i≤a.length∧(∀ k < i,a.getD k id0 = b.getD k id0)) (fun i=>a.length - i) (fun i=>[(5,.i fun _=>((i : Nat) : Int))]) (fun i h=>h) 0 (fun _=>by first|rfl|simp) ⟨Nat.zero_le _,?_⟩ ?_ fun i hi I hI=>?_
  ·intro k hk; omega
  ·cbv; simp
  cbv
  obtain ⟨hi, hp⟩ := hi
  repeat' (first
   |(refine hI (i + 1) ?_ ?_ ?_;rotate_left 1;(· ((try simp only [nc] at *);omega));(cbv;clear hI;(try clear hF);(try simp only [nc] at *);(try simp (disch:=(first|omega|(simp only [lnS];omega))) only [rdT,rdS,anT]));rotate_left 1;(try ((try simp only [nc] at *);omega)))
   |(refine ⟨fun _ h_s=>?_,fun _ h_s=>?_⟩<;>(cbv;(try simp only [nc] at *);try simp (disch:=(first|omega|(simp only [lnS];omega))) only [rdT,rdS,reduceCtorEq,trT] at h_s))
   |(refine hF ?_;intro _;clear hF)
   |(refine hF ?_;cbv;clear hF)
   |(refine ⟨fun _=>?_,?_⟩;(· ((try simp only [nc] at *);first|done|omega|exact ⟨by omega,rfl⟩|(simp (disch:=(first|omega|(simp only [lnS];omega))) only [rdT,rdS];first|done|omega|rfl|exact ⟨by omega,rfl⟩|(simp;done)|(simp;omega))|(intros;trivial)));(try (simp only [nc] at *));(try simp (disch:=(first|omega|(simp only [lnS];omega))) only [rdT,rdS]);(try cbv))
   |(refine E.d 8 (by decide +kernel) ?_;cbv;(fail_if_success guard_target =~ False))
   | fail
  )
  ·refine decide_eq_false fun e => ?_
   subst e
   simp at h_s
  ·refine ⟨by ((try simp only [nc] at *); omega), fun k hk => ?_⟩
   rcases Nat.lt_or_ge k i with h1 | h1
   ·exact hp k h1
   ·obtain rfl : k = i := by omega
    have h2 : (a.getD k id0).t = (b.getD k id0).t ∧ (a.getD k id0).i = (b.getD k id0).i := by simpa using h_s
    exact EId.ext' h2.1 h2.2
  ·push_cast; rfl
  ·refine decide_eq_true (List.ext_getElem (by ((try simp only [nc] at *); omega)) fun k h1 h2 => ?_)
   have := hp k (by ((try simp only [nc] at *); omega))
   simpa [h1, h2] using this
end Go.AL.Rl

namespace Go.AL.Rl
open Go Go.AL Go.Proofs
set_option maxRecDepth 100000
set_option maxHeartbeats 3200000
variable {γ : Nat → Option AV}

def gX : Gr := ⟨[0, 0], [[⟨2, 1, 1, 0, 5⟩, ⟨2, 0, 4, 0, 1⟩], [⟨1, 0, 3, 1, 0⟩, ⟨1, 1, 1, 5, 0⟩]], [[⟨0, 0⟩, ⟨0, 0⟩], [⟨1, 1⟩, ⟨1, 0⟩]], [[⟨1, 1⟩], [⟨1, 0⟩]]⟩
theorem rdX : Rd gX := by
 refine ⟨by simp [gX], by simp [gX], by simp [gX], by simp [gX], ?_, ?_, ?_⟩ <;> simp [gX]
theorem exX_ok : Pure Tryz.prog γ false 16 [] (aGr gX) := by
 refine Pure.go (ty := ty) ty_eq mo Tryz.func16 rfl Tryz.ntmps16 Tryz.results16 Tryz.call16 (by simp) fun P C CQ D W F E hF => ?_
 cbv
 repeat' (first
  |(refine ⟨fun _ h_s=>?_,fun _ h_s=>?_⟩<;>(cbv;(try simp only [nc] at *);try simp (disch:=(first|omega|(simp only [lnS];omega))) only [rdT,rdS,reduceCtorEq,trT] at h_s))
  |(refine hF ?_;intro _;clear hF)
  |(refine hF ?_;cbv;clear hF)
  |(refine ⟨fun _=>?_,?_⟩;(· ((try simp only [nc] at *);first|done|omega|exact ⟨by omega,rfl⟩|(simp (disch:=(first|omega|(simp only [lnS];omega))) only [rdT,rdS];first|done|omega|rfl|exact ⟨by omega,rfl⟩|(simp;done)|(simp;omega))|(intros;trivial)));(try (simp only [nc] at *));(try simp (disch:=(first|omega|(simp only [lnS];omega))) only [rdT,rdS]);(try cbv))
  | fail
 )
 all_goals simp [gX, is, ids, evs, evss, idss, LV.of, LV.l, setAll, AV.nrm, nrms, nrm1]
theorem lX1 : leansM gX ⟨2, 0⟩ = [⟨1, 0⟩, ⟨1, 1⟩] := by decide +kernel
theorem cX1 : closedG gX [⟨1, 0⟩] = true := by decide +kernel
theorem cX2 : closedG gX [⟨2, 0⟩] = false := by decide +kernel
theorem kX : (keepM gX [⟨1, 0⟩]).th.length = 2 ∧ ((keepM gX [⟨1, 0⟩]).th.getD 0 []).length = 1 ∧ ((keepM gX [⟨1, 0⟩]).th.getD 1 []).length = 0 ∧ (keepM gX [⟨1, 0⟩]).ord.length = 2 ∧ ((keepM gX [⟨1, 0⟩]).ord.getD 0 []).length = 0 := by decide +kernel
theorem lives18_ok (hγ : γ 0 = some tabAV) : Pure Tryz.prog γ false 4 [] (.b fun _ => true) := by
 have ke := exX_ok (γ := γ)
 have k1 := pleans_ok (γ := γ) hγ gX rdX ⟨2, 0⟩
 have k2 := pkeep_yes (γ := γ) hγ gX rdX [⟨1, 0⟩] (by simp) cX1
 have k3 := pkeep_no (γ := γ) hγ gX rdX [⟨2, 0⟩] (by simp) cX2
 have ki := kids_ok (γ := γ) [⟨1, 0⟩, ⟨1, 1⟩] [⟨1, 0⟩, ⟨1, 1⟩] (by simp)
 rw [lX1] at k1
 obtain ⟨h1, h2, h3, h4, h5⟩ := kX
 generalize keepM gX [⟨1, 0⟩] = k at *
 generalize gX = g at *
 have g0 := evss_get k.th 0 (by omega)
 have g1 := evss_get k.th 1 (by omega)
 have g2 := idss_get k.ord 0 (by omega)
 refine Pure.go (ty := ty) ty_eq mo Tryz.func4 rfl Tryz.ntmps4 Tryz.results4 Tryz.call4 (by simp) fun P C CQ D W F E hF => ?_
 cbv
 repeat' (first
  | (refine E.c (SCalls.of_le (ki) ?_ ?_); (· (cbv; simp [rls, ps, us, is, ids, evs, evss, idss, LV.of, setAll, AV.nrm]; done)); cbv)
  | (refine E.q (QCalls.of_le (ki) ?_ ?_); (· (cbv; simp [rls, ps, us, is, ids, evs, evss, idss, LV.of, setAll, AV.nrm]; done)); cbv)
  | (refine E.c (SCalls.of_le (k3) ?_ ?_); (· (cbv; simp [rls, ps, us, is, ids, evs, evss, idss, LV.of, setAll, AV.nrm]; done)); cbv)
  | (refine E.q (QCalls.of_le (k3) ?_ ?_); (· (cbv; simp [rls, ps, us, is, ids, evs, evss, idss, LV.of, setAll, AV.nrm]; done)); cbv)
  | (refine E.c (SCalls.of_le (k2) ?_ ?_); (· (cbv; simp [rls, ps, us, is, ids, evs, evss, idss, LV.of, setAll, AV.nrm]; done)); cbv)
  | (refine E.q (QCalls.of_le (k2) ?_ ?_); (· (cbv; simp [rls, ps, us, is, ids, evs, evss, idss, LV.of, setAll, AV.nrm]; done)); cbv)
  |(refine E.c (SCalls.of_le (k1) ?_ ?_);(· (cbv;(try simp only [nc] at *);first|done|(simp;done)|(simp (disch:=(first|omega|(simp only [lnS];omega))) only [rdT,rdS,anT];first|done|omega|(refine ⟨?_,?_⟩<;>omega))|(simp (disch:=(first|omega|(simp only [lnS];omega))) [rdT,rdS];done)));cbv)
  |(refine E.c (SCalls.of_le (ke) ?_ ?_);(· (cbv;(try simp only [nc] at *);first|done|(simp;done)|(simp (disch:=(first|omega|(simp only [lnS];omega))) only [rdT,rdS,anT];first|done|omega|(refine ⟨?_,?_⟩<;>omega))|(simp (disch:=(first|omega|(simp only [lnS];omega))) [rdT,rdS];done)));cbv)
  |(refine ⟨fun _ h_s=>?_,fun _ h_s=>?_⟩<;>(cbv;(try simp only [nc] at *);try simp (disch:=(first|omega|(simp only [lnS];omega))) only [rdT,rdS,reduceCtorEq,trT] at h_s))
  |(refine hF ?_;intro _;clear hF)
  |(refine hF ?_;cbv;clear hF)
  |(refine ⟨fun _=>?_,?_⟩;(· ((try simp only [nc] at *);first|done|omega|exact ⟨by omega,rfl⟩|(simp (disch:=(first|omega|(simp only [lnS];omega))) only [rdT,rdS];first|done|omega|rfl|exact ⟨by omega,rfl⟩|(simp;done)|(simp;omega))|(intros;trivial)));(try (simp only [nc] at *));(try simp (disch:=(first|omega|(simp only [lnS];omega))) only [rdT,rdS]);(try cbv))
  | fail
 )
 all_goals first
  | (simp; done)
  | (exfalso; ((try simp only [nc] at *); omega))
  | (exfalso; revert h_s; simp; done)
  | (exfalso; rw [show Int.toNat 1 = 1 from rfl] at h_s; omega)
end Go.AL.Rl

namespace Go.AL.Rl
open Go Go.AL Go.Proofs
set_option maxRecDepth 100000
set_option maxHeartbeats 3200000

def evT (g : Gr) (d : EId) : Prop := 1 ≤ d.t ∧ d.t ≤ g.th.length ∧ 0 ≤ d.i ∧ d.i < (g.th.getD (d.t - 1).toNat []).length
theorem evT_iff {g : Gr} {d : EId} : evT g d ↔ d ∈ idsT g g.th.length := (idsT_mem (g := g) (t := g.th.length) (d := d)).symm
def ahead (g : Gr) (a d : EId) : Prop := (a.t = d.t ∧ a.i < d.i) ∨ (readsM ((eventM g d).getD ev0) = true ∧ srcOf g d = a)
def Dn (g : Gr) (l : List EId) : Prop := ∀ d ∈ l, ∀ a, evT g a → ahead g a d → a ∈ l
theorem idx_lo {g : Gr} {j : Nat} (h : j < g.init.length) : (idsG g).getD j id0 = ⟨0, j⟩ := by
 unfold idsG
 rw [List.getD_eq_getElem?_getD, List.getElem?_append_left (by rw [idsI_len]; exact h)]
 simp [idsI, h]
theorem idx_hi {g : Gr} {j : Nat} (h : g.init.length ≤ j) (hj : j < nG g) : evT g ((idsG g).getD j id0) := by
 rw [evT_iff]
 unfold nG at hj
 unfold idsG at hj ⊢
 rw [List.length_append, idsI_len] at hj
 rw [List.getD_eq_getElem?_getD, List.getElem?_append_right (by rw [idsI_len]; exact h), idsI_len, ← List.getD_eq_getElem?_getD]
 exact getD_mem (by omega)
theorem idx_of {g : Gr} {d : EId} (h : evT g d) : ∃ j, g.init.length ≤ j ∧ j < nG g ∧ (idsG g).getD j id0 = d := by
 have hm : d ∈ idsG g := by rw [idsG, List.mem_append]; exact .inr (evT_iff.1 h)
 refine ⟨numOf (idsG g) d, ?_, numOf_lt hm, numOf_get hm⟩
 rcases Nat.lt_or_ge (numOf (idsG g) d) g.init.length with h1 | h1
 ·have := idx_lo h1
  rw [numOf_get hm] at this
  have e : d.t = 0 := congrArg EId.t this
  have := h.1
  omega
 ·exact h1
theorem numI_iff {g : Gr} {d : EId} {j : Nat} (hj : j < nG g) : numI (idsG g) d = j ↔ (idsG g).getD j id0 = d := by
 constructor
 ·intro h
  unfold numI at h
  cases e : (idsG g).findIdx? fun x => decide (x = d) with
  | none => rw [e] at h; simp only at h; omega
  | some k =>
   rw [e] at h
   simp only at h
   have hk : k = j := by omega
   subst hk
   rw [List.findIdx?_eq_some_iff_getElem] at e
   obtain ⟨h1, h2, _⟩ := e
   simpa [h1] using h2
 ·intro h
  exact numI_at hj h fun k hk e => by
   have := getD_inj (idsG_nodup g) (i := k) (j := j) (by unfold nG at hj; omega) hj (e.trans h.symm)
   omega
theorem bitP_iff {g : Gr} (hn : nG g ≤ 62) (d : EId) (j : Nat) : (bitP (idsG g) g.init.length d).getLsbD j = true ↔ g.init.length ≤ j ∧ j < nG g ∧ (idsG g).getD j id0 = d := by
 have hb := numI_lt (idsG g) d
 unfold bitP
 by_cases h1 : numI (idsG g) d < g.init.length
 ·rw [if_pos h1]
  constructor
  ·intro h; simp at h
  ·rintro ⟨h2, h3, h4⟩
   have := (numI_iff h3).2 h4
   omega
 ·rw [if_neg h1]
  have hlt : (numI (idsG g) d).toNat < nG g := by unfold nG; omega
  by_cases hj : j < 64
  ·rw [one_shl_bit _ j hj, decide_eq_true_eq]
   constructor
   ·rintro rfl
    exact ⟨by omega, hlt, (numI_iff hlt).1 (by omega)⟩
   ·rintro ⟨h2, h3, h4⟩
    have := (numI_iff h3).2 h4
    omega
  ·rw [BitVec.getLsbD_of_ge _ j (by omega)]
   constructor
   ·intro h; cases h
   ·intro h; omega
theorem maskP_iff {g : Gr} (hn : nG g ≤ 62) (l : List EId) (j : Nat) : ∀ k, k ≤ l.length → ((maskT (bitP (idsG g) g.init.length) l k).getLsbD j = true ↔ g.init.length ≤ j ∧ j < nG g ∧ (idsG g).getD j id0 ∈ l.take k)
 | 0, _ => by simp [maskT]
 | k + 1, h => by
  unfold maskT
  rw [BitVec.getLsbD_or, Bool.or_eq_true, maskP_iff hn l j k (by omega), bitP_iff hn, take_succ' l k id0 (by omega), List.mem_append, List.mem_singleton]
  constructor
  ·rintro (⟨h1, h2, h3⟩ | ⟨h1, h2, h3⟩)
   ·exact ⟨h1, h2, .inl h3⟩
   ·exact ⟨h1, h2, .inr h3⟩
  ·rintro ⟨h1, h2, h3 | h3⟩
   ·exact .inl ⟨h1, h2, h3⟩
   ·exact .inr ⟨h1, h2, h3⟩
theorem back_iff {g : Gr} (hg : GOk g) (i j : Nat) : bit (backF (viewG g) (nG g)) i j = true ↔ j < nG g ∧ i < nG g ∧ (poM (viewG g) j i = true ∨ rfM (viewG g) j i = true) := by
 have hn := (viewG_wf hg).small
 have f1 := fits_poF (viewG g) hn
 have f2 := fits_rfF (viewG g) hn
 unfold backF
 rw [bit_turn (fits_or2 f1 f2), bit_or2 f1 f2]
 unfold poF rfF
 rw [bit_relI hn, bit_relI hn]
 constructor
 ·rintro (⟨h1, h2, h3⟩ | ⟨h1, h2, h3⟩)
  ·exact ⟨h1, h2, .inl h3⟩
  ·exact ⟨h1, h2, .inr h3⟩
 ·rintro ⟨h1, h2, h3 | h3⟩
  ·exact .inl ⟨h1, h2, h3⟩
  ·exact .inr ⟨h1, h2, h3⟩
theorem rf_view {g : Gr} {i j : Nat} (hi : i < nG g) : rfM (viewG g) j i = true ↔ frOf g ((idsG g).getD i id0) = j := by
 unfold rfM viewG
 rw [decide_eq_true_eq, tabI_get _ _ _ hi]
theorem back_lo {g : Gr} (hg : GOk g) {i j : Nat} (hi : i < g.init.length) : ¬ bit (backF (viewG g) (nG g)) i j = true := by
 rw [back_iff hg]
 rintro ⟨h1, h2, h3⟩
 have e := idx_lo hi
 rcases h3 with h3 | h3
 ·unfold poM at h3
  simp only [viewG, e] at h3
  simp at h3
 ·rw [rf_view h2, e] at h3
  unfold frOf at h3
  rw [if_pos rfl] at h3
  omega
theorem po_view {g : Gr} {i j : Nat} (h1 : 1 ≤ ((idsG g).getD j id0).t) (h2 : 1 ≤ ((idsG g).getD i id0).t) : poM (viewG g) j i = true ↔ ((idsG g).getD j id0).t = ((idsG g).getD i id0).t ∧ ((idsG g).getD j id0).i < ((idsG g).getD i id0).i := by
 show (decide (((idsG g).getD i id0).t ≠ 0) && (decide (((idsG g).getD j id0).t = 0) || decide (((idsG g).getD j id0).t = ((idsG g).getD i id0).t) && decide (((idsG g).getD j id0).i < ((idsG g).getD i id0).i))) = true ↔ _
 rw [decide_eq_true (show ((idsG g).getD i id0).t ≠ 0 by omega), decide_eq_false (show ¬ ((idsG g).getD j id0).t = 0 by omega), Bool.true_and, Bool.false_or, Bool.and_eq_true, decide_eq_true_eq, decide_eq_true_eq]
theorem back_hi {g : Gr} (hg : GOk g) {i j : Nat} (hi : g.init.length ≤ i) (hj : g.init.length ≤ j) (hi2 : i < nG g) (hj2 : j < nG g) : bit (backF (viewG g) (nG g)) i j = true ↔ ahead g ((idsG g).getD j id0) ((idsG g).getD i id0) := by
 rw [back_iff hg]
 have e1 := idx_hi hi hi2
 have e2 := idx_hi hj hj2
 have hm : (idsG g).getD i id0 ∈ idsG g := getD_mem hi2
 have z1 := e1.1
 have z2 := e2.1
 rw [rf_view hi2, po_view z2 z1]
 unfold ahead frOf
 rw [if_neg (by omega)]
 by_cases hr : readsM ((eventM g ((idsG g).getD i id0)).getD ev0) = true
 ·rw [if_pos hr]
  obtain ⟨w, hw, _⟩ := source_mem (src_ok hg hm (by omega)) hr
  have hs : srcOf g ((idsG g).getD i id0) ∈ idsG g := idsG_mem.2 (by rw [hw]; rfl)
  constructor
  ·rintro ⟨_, _, h | h⟩
   ·exact .inl h
   ·refine .inr ⟨hr, ?_⟩
    rw [← numOf_get hs]
    congr 1; omega
  ·rintro (h | ⟨_, h⟩)
   ·exact ⟨hj2, hi2, .inl h⟩
   ·refine ⟨hj2, hi2, .inr ?_⟩
    rw [h, numOf_at (idsG_nodup g) hj2]
 ·rw [if_neg hr]
  constructor
  ·rintro ⟨_, _, h | h⟩
   ·exact .inl h
   ·omega
  ·rintro (h | ⟨h, _⟩)
   ·exact ⟨hj2, hi2, .inl h⟩
   ·exact absurd h hr
/-- what is closed: events of threads, none twice, with all ahead of them -/
def ClG (g : Gr) (l : List EId) : Prop := l.Nodup ∧ (∀ d ∈ l, evT g d) ∧ Dn g l
/-- masks that take what is ahead -/
theorem grow_in {g : Gr} (hg : GOk g) {m : BitVec 64} (S : EId → Prop) (hm : ∀ j, m.getLsbD j = true → g.init.length ≤ j ∧ j < nG g ∧ S ((idsG g).getD j id0))
  (hS : ∀ d, evT g d → S d → ∀ a, evT g a → ahead g a d → S a) {j : Nat} (h : (growM (nG g) (backF (viewG g) (nG g)) m).getLsbD j = true) (hx : g.init.length ≤ j) : j < nG g ∧ S ((idsG g).getD j id0) := by
 have hn := (viewG_wf hg).small
 have hf := backF_fits (viewG g) hn
 rw [grow_bit hf] at h
 have key : ∀ p j, bit (plusM (nG g) (backF (viewG g) (nG g))) p j = true → (g.init.length ≤ p → S ((idsG g).getD p id0)) → (g.init.length ≤ j → S ((idsG g).getD j id0)) := by
  intro p j hpj
  refine plus_least (fun a b => (g.init.length ≤ a → S ((idsG g).getD a id0)) → (g.init.length ≤ b → S ((idsG g).getD b id0))) (fun a b hab ha hb => ?_) (fun a b c h1 h2 h3 => h2 (h1 h3)) hpj
  have hab2 := (back_iff hg a b).1 hab
  rcases Nat.lt_or_ge a g.init.length with h1 | h1
  ·exact absurd hab (back_lo hg h1)
  ·exact hS _ (idx_hi h1 hab2.2.1) (ha h1) _ (idx_hi hb hab2.1) ((back_hi hg h1 hb hab2.2.1 hab2.1).1 hab)
 rcases h with h | ⟨p, h1, h2⟩
 ·exact ⟨(hm j h).2.1, (hm j h).2.2⟩
 ·refine ⟨?_, key p j h2 (fun _ => (hm p h1).2.2) hx⟩
  have := (fits_bits (fits_plus hf) h2).2
  have e := (fits_plus hf).2.2.1
  omega
theorem closedG_iff (g : Gr) (l : List EId) : closedG g l = true ↔ GOk g ∧ ClG g l := by
 unfold closedG
 rw [Bool.and_eq_true, decide_eq_true_eq]
 refine and_congr_right fun hg => ?_
 have hn := (viewG_wf hg).small
 have hf := backF_fits (viewG g) hn
 unfold closedP ClG
 rw [Bool.and_eq_true, decide_eq_true_eq, decide_eq_true_eq]
 have hmask := fun j => maskP_iff hn l j l.length (Nat.le_refl _)
 rw [List.take_length] at hmask
 have hmk : ∀ k, k ≤ l.length → ∀ j, _ := fun k hk j => maskP_iff hn l j k hk
 have hok : (∀ k < l.length, okP (bitP (idsG g) g.init.length) l k = true) ↔ l.Nodup ∧ ∀ d ∈ l, evT g d := by
  have one : ∀ k < l.length, (okP (bitP (idsG g) g.init.length) l k = true ↔ evT g (l.getD k id0) ∧ l.getD k id0 ∉ l.take k) := fun k hk => by
   unfold okP
   rw [Bool.and_eq_true, decide_eq_true_eq, decide_eq_true_eq]
   constructor
   ·rintro ⟨h1, h2⟩
    have hev : evT g (l.getD k id0) := by
     by_cases hnone : ∀ j, (bitP (idsG g) g.init.length (l.getD k id0)).getLsbD j = false
     ·exact absurd (BitVec.eq_of_getLsbD_eq fun j _ => by rw [hnone]; simp) h1
     ·simp only [Classical.not_forall, Bool.not_eq_false] at hnone
      obtain ⟨j, hj⟩ := hnone
      obtain ⟨g1, g2, g3⟩ := (bitP_iff hn _ j).1 hj
      rw [← g3]; exact idx_hi g1 g2
    refine ⟨hev, fun hin => ?_⟩
    obtain ⟨j, g1, g2, g3⟩ := idx_of hev
    have b1 := (bitP_iff hn (l.getD k id0) j).2 ⟨g1, g2, g3⟩
    have b2 := (hmk k (by omega) j).2 ⟨g1, g2, by rw [g3]; exact hin⟩
    have := congrArg (fun m => m.getLsbD j) h2
    simp only [BitVec.getLsbD_and, b1, b2] at this
    simp at this
   ·rintro ⟨h1, h2⟩
    obtain ⟨j, g1, g2, g3⟩ := idx_of h1
    refine ⟨fun e => ?_, BitVec.eq_of_getLsbD_eq fun i _ => ?_⟩
    ·have := (bitP_iff hn (l.getD k id0) j).2 ⟨g1, g2, g3⟩
     rw [e] at this; simp at this
    ·rw [BitVec.getLsbD_and]
     cases hi : (bitP (idsG g) g.init.length (l.getD k id0)).getLsbD i with
     | false => simp
     | true =>
      obtain ⟨_, _, q3⟩ := (bitP_iff hn _ i).1 hi
      cases hm : (maskT (bitP (idsG g) g.init.length) l k).getLsbD i with
      | false => simp
      | true =>
       obtain ⟨_, _, r3⟩ := (hmk k (by omega) i).1 hm
       rw [q3] at r3; exact absurd r3 h2
  constructor
  ·intro h
   refine ⟨?_, fun d hd => ?_⟩
   ·unfold List.Nodup
    rw [List.pairwise_iff_getElem]
    intro i k hi hk hik e
    have := ((one k hk).1 (h k hk)).2
    refine this ?_
    have e2 : l.getD k id0 = l[k] := by simp [hk]
    rw [e2, ← e, List.mem_take_iff_getElem]
    exact ⟨i, by omega, rfl⟩
   ·obtain ⟨k, hk, e⟩ := List.getElem_of_mem hd
    have := ((one k hk).1 (h k hk)).1
    rwa [show l.getD k id0 = d by simp [hk, e]] at this
  ·rintro ⟨h1, h2⟩ k hk
   refine (one k hk).2 ⟨h2 _ (getD_mem hk), fun hin => ?_⟩
   rw [List.mem_take_iff_getElem] at hin
   obtain ⟨i, hi, e⟩ := hin
   have := getD_inj h1 (i := i) (j := k) (by omega) hk (by rw [show l.getD i id0 = l[i] by simp [show i < l.length by omega]]; exact e)
   omega
 rw [hok]
 constructor
 ·rintro ⟨⟨h1, h2⟩, h3⟩
  refine ⟨h1, h2, fun d hd a ha hah => ?_⟩
  obtain ⟨i, i1, i2, i3⟩ := idx_of (h2 d hd)
  obtain ⟨j, j1, j2, j3⟩ := idx_of ha
  have b1 := (hmask i).2 ⟨i1, i2, by rw [i3]; exact hd⟩
  have b2 : (growM (nG g) (backF (viewG g) (nG g)) (maskT (bitP (idsG g) g.init.length) l l.length)).getLsbD j = true :=
   grow_closed hf _ ((grow_bit hf _ _).2 (.inl b1)) ((back_hi hg i1 j1 i2 j2).2 (by rw [i3, j3]; exact hah))
  have b3 : (evP g.init.length (growM (nG g) (backF (viewG g) (nG g)) (maskT (bitP (idsG g) g.init.length) l l.length))).getLsbD j = true := by
   rw [ev_bit, b2]; simp [j1]
  rw [h3] at b3
  have := ((hmask j).1 b3).2.2
  rwa [j3] at this
 ·rintro ⟨h1, h2, h3⟩
  refine ⟨⟨h1, h2⟩, BitVec.eq_of_getLsbD_eq fun j _ => ?_⟩
  rw [Bool.eq_iff_iff, ev_bit, Bool.and_eq_true, decide_eq_true_eq]
  constructor
  ·rintro ⟨hx, hgr⟩
   obtain ⟨q1, q2⟩ := grow_in hg (fun d => d ∈ l) (fun j hj => (hmask j).1 hj) (fun d _ hd a ha hah => h3 d hd a ha hah) hgr hx
   exact (hmask j).2 ⟨hx, q1, q2⟩
  ·intro hj
   exact ⟨((hmask j).1 hj).1, (grow_bit hf _ _).2 (.inl hj)⟩
end Go.AL.Rl

namespace Go.AL.Rl
open Go Go.AL Go.Proofs
set_option maxRecDepth 100000
set_option maxHeartbeats 3200000

theorem range_down (p : Nat → Bool) : ∀ n, (∀ j < n, p j = true → ∀ i < j, p i = true) → (List.range n).filter p = List.range ((List.range n).filter p).length ∧ ((List.range n).filter p).length ≤ n ∧ ∀ j < n, (p j = true ↔ j < ((List.range n).filter p).length)
 | 0, _ => by simp
 | n + 1, h => by
  obtain ⟨h1, h2, h3⟩ := range_down p n fun j hj => h j (by omega)
  rw [List.range_succ, List.filter_append]
  cases hn : p n with
  | true =>
   have hall : ∀ j < n, j < ((List.range n).filter p).length := fun j hj => (h3 j hj).1 (h n (by omega) hn j hj)
   have hlen : ((List.range n).filter p).length = n := by
    rcases Nat.lt_or_ge ((List.range n).filter p).length n with h4 | h4
    ·exact absurd (hall _ h4) (Nat.lt_irrefl _)
    ·omega
   rw [List.filter_cons_of_pos hn, List.filter_nil, List.length_append, hlen, h1, hlen]
   refine ⟨by rw [← List.range_succ]; rfl, by simp, fun j hj => ?_⟩
   simp only [List.length_singleton]
   rcases Nat.lt_or_ge j n with h4 | h4
   ·exact ⟨fun _ => hj, fun _ => (h3 j h4).2 (hall j h4)⟩
   ·obtain rfl : j = n := by omega
    exact ⟨fun _ => hj, fun _ => hn⟩
  | false =>
   rw [List.filter_cons_of_neg (by rw [hn]; simp), List.filter_nil, List.append_nil]
   refine ⟨h1, by omega, fun j hj => ?_⟩
   rcases Nat.lt_or_ge j n with h4 | h4
   ·exact h3 j h4
   ·obtain rfl : j = n := by omega
    rw [hn]
    constructor
    ·intro h; cases h
    ·intro h; omega
def kQ (g : Gr) (l : List EId) (t : Nat) : Nat := (keepP l t (g.th.getD t []).length).length
theorem eid_eq {d : EId} (h1 : 1 ≤ d.t) (h2 : 0 ≤ d.i) : (⟨(((d.t - 1).toNat : Nat) : Int) + 1, ((d.i.toNat : Nat) : Int)⟩ : EId) = d := EId.ext' (by simp only; omega) (by simp only; omega)
theorem evT_mk {g : Gr} {t i : Nat} : evT g ⟨(t : Int) + 1, (i : Int)⟩ ↔ t < g.th.length ∧ i < (g.th.getD t []).length := by
 unfold evT
 have : (((⟨(t : Int) + 1, (i : Int)⟩ : EId).t - 1).toNat) = t := by simp only; omega
 rw [this]
 simp only
 omega
theorem map_take {α : Type} (l : List α) (d : α) (k : Nat) (h : k ≤ l.length) : (List.range k).map (fun j => l.getD j d) = l.take k := by
 apply List.ext_getElem
 ·simp; omega
 ·intro i h1 h2
  simp only [List.length_map, List.length_range] at h1
  simp [show i < l.length by omega]
section
variable {g : Gr} {l : List EId} (hg : GOk g) (hC : ClG g l)
include hg hC
theorem keepP_eq (t : Nat) (ht : t < g.th.length) : keepP l t (g.th.getD t []).length = List.range (kQ g l t) ∧ kQ g l t ≤ (g.th.getD t []).length ∧ ∀ j < (g.th.getD t []).length, ((⟨(t : Int) + 1, (j : Int)⟩ : EId) ∈ l ↔ j < kQ g l t) := by
 have _hg := hg
 have := range_down (fun j => decide ((⟨(t : Int) + 1, (j : Int)⟩ : EId) ∈ l)) (g.th.getD t []).length fun j hj h i hi => by
  rw [decide_eq_true_eq] at h ⊢
  exact hC.2.2 _ h _ (evT_mk.2 ⟨ht, by omega⟩) (.inl ⟨rfl, by simp only; omega⟩)
 simp only [decide_eq_true_eq] at this
 exact this
theorem kQ_le (t : Nat) (ht : t < g.th.length) : kQ g l t ≤ (g.th.getD t []).length := (keepP_eq hg hC t ht).2.1
theorem keepTh_eq (t : Nat) (ht : t < g.th.length) : keepTh g l t (g.th.getD t []).length = (g.th.getD t []).take (kQ g l t) := by
 obtain ⟨h1, h2, _⟩ := keepP_eq hg hC t ht
 unfold keepTh
 rw [h1, map_take _ _ _ h2]
theorem keepFr_eq (t : Nat) (ht : t < g.th.length) : keepFr g l t (g.th.getD t []).length = (g.fr.getD t []).take (kQ g l t) := by
 obtain ⟨h1, h2, _⟩ := keepP_eq hg hC t ht
 have h3 := (hg.events t ht).1
 unfold keepFr
 rw [h1, map_take _ _ _ (by omega)]
theorem kth (t : Nat) (ht : t < g.th.length) : (keepM g l).th.getD t [] = (g.th.getD t []).take (kQ g l t) := by
 rw [keep_th, if_pos ht, keepTh_eq hg hC t ht]
theorem kth_len (t : Nat) (ht : t < g.th.length) : ((keepM g l).th.getD t []).length = kQ g l t := by
 rw [kth hg hC t ht, List.length_take]
 have := kQ_le hg hC t ht
 omega
theorem kfr (t : Nat) (ht : t < g.th.length) : (keepM g l).fr.getD t [] = (g.fr.getD t []).take (kQ g l t) := by
 rw [← keepFr_eq hg hC t ht]
 unfold keepM
 simp [ht]
theorem kev (t j : Nat) (ht : t < g.th.length) (hj : j < kQ g l t) : ((keepM g l).th.getD t []).getD j ev0 = (g.th.getD t []).getD j ev0 := by
 rw [kth hg hC t ht]
 simp [List.getElem?_take, hj]
theorem k_in (t j : Nat) (ht : t < g.th.length) (hj : j < (g.th.getD t []).length) : (⟨(t : Int) + 1, (j : Int)⟩ : EId) ∈ l ↔ j < kQ g l t := (keepP_eq hg hC t ht).2.2 j hj
theorem k_evT (d : EId) : evT (keepM g l) d ↔ d ∈ l := by
 constructor
 ·intro h
  have h1 := h.1
  have h2 := h.2.1
  have h3 := h.2.2.1
  have h4 := h.2.2.2
  rw [keep_thl] at h2
  rw [kth_len hg hC _ (by omega)] at h4
  have h5 := kQ_le hg hC (d.t - 1).toNat (by omega)
  have := (k_in hg hC (d.t - 1).toNat d.i.toNat (by omega) (by omega)).2 (by omega)
  rwa [eid_eq h1 h3] at this
 ·intro h
  obtain ⟨h1, h2, h3, h4⟩ := hC.2.1 d h
  have h5 := (k_in hg hC (d.t - 1).toNat d.i.toNat (by omega) (by omega)).1 (by rw [eid_eq h1 h3]; exact h)
  refine ⟨h1, by rw [keep_thl]; exact h2, h3, ?_⟩
  rw [kth_len hg hC _ (by omega)]
  omega
omit hg hC in
theorem evT_t {g : Gr} {d : EId} (h : evT g d) : d.t ≠ 0 := by have := h.1; omega
omit hg hC in
theorem event_T {g : Gr} {d : EId} (h : evT g d) : eventM g d = some ((g.th.getD (d.t - 1).toNat []).getD d.i.toNat ev0) := by
 unfold eventM
 obtain ⟨h1, h2, h3, h4⟩ := h
 rw [if_neg (by omega), if_pos ⟨by omega, h2, h3, h4⟩]
theorem k_event (d : EId) (h : d ∈ l) : eventM (keepM g l) d = eventM g d := by
 have h0 := hC.2.1 d h
 have hk := (k_evT hg hC d).2 h
 rw [event_T hk, event_T h0]
 have h1 := hk.2.2.2
 obtain ⟨a1, a2, a3, a4⟩ := h0
 rw [kth_len hg hC _ (by omega)] at h1
 rw [kev hg hC _ _ (by omega) (by omega)]
omit hg hC in
theorem k_event0 (d : EId) (h : d.t = 0) : eventM (keepM g l) d = eventM g d := by
 unfold eventM
 rw [if_pos h, if_pos h]
 rfl
/-- where a source lies, there is an event or an initial write -/
theorem k_source (d : EId) (h : d ∈ l) (hr : readsM ((eventM g d).getD ev0) = true) : eventM (keepM g l) (srcOf g d) = eventM g (srcOf g d) := by
 have h0 := hC.2.1 d h
 have hm : d ∈ idsG g := by rw [idsG, List.mem_append]; exact .inr (evT_iff.1 h0)
 obtain ⟨w, hw, _⟩ := source_mem (src_ok hg hm (evT_t h0)) hr
 have hs : srcOf g d ∈ idsG g := idsG_mem.2 (by rw [hw]; rfl)
 rw [idsG, List.mem_append, idsI_mem] at hs
 rcases hs with hs | hs
 ·exact k_event0 _ hs.1
 ·exact k_event hg hC _ (hC.2.2 d h _ (evT_iff.2 hs) (.inr ⟨hr, rfl⟩))
theorem k_short : Short (keepM g l) := by
 have _hC := hC
 refine ⟨by rw [keep_thl]; exact hg.short.th, hg.short.init, fun x hx => ?_⟩
 obtain ⟨t, ht, e⟩ := List.getElem_of_mem hx
 have h1 := keep_le g l t
 have h2 := hg.short.at t
 rw [show (keepM g l).th.getD t [] = x by simp [ht, e]] at h1
 omega
theorem k_sources : sourcesOk (keepM g l) := by
 intro t ht i hi
 rw [keep_thl] at ht
 rw [kth_len hg hC t ht] at hi
 have hle := kQ_le hg hC t ht
 have hin := (k_in hg hC t i ht (by omega)).2 hi
 have hs := hg.sources t ht i (by omega)
 have e : ((keepM g l).fr.getD t []).getD i id0 = (g.fr.getD t []).getD i id0 := by
  rw [kfr hg hC t ht]; simp [List.getElem?_take, hi]
 rw [e]
 have es : srcOf g ⟨(t : Int) + 1, (i : Int)⟩ = (g.fr.getD t []).getD i id0 := by
  unfold srcOf
  have : (((⟨(t : Int) + 1, (i : Int)⟩ : EId).t - 1).toNat) = t := by simp only; omega
  rw [this]
  simp
 unfold sourceM at hs ⊢
 rw [k_event hg hC _ hin]
 by_cases hr : readsM ((eventM g ⟨(t : Int) + 1, (i : Int)⟩).getD ev0) = true
 ·rw [if_pos hr] at hs ⊢
  have := k_source hg hC _ hin hr
  rw [es] at this
  rw [this]
  exact hs
 ·rw [if_neg hr] at hs ⊢
  exact hs
theorem k_events : eventsOk (keepM g l) := by
 intro t ht
 rw [keep_thl] at ht
 have hle := kQ_le hg hC t ht
 have h1 := hg.events t ht
 refine ⟨by rw [kfr hg hC t ht, kth_len hg hC t ht, List.length_take]; omega, fun i hi => ?_⟩
 rw [kth_len hg hC t ht] at hi
 rw [kev hg hC t i ht hi]
 exact h1.2 i (by omega)
omit hg hC in
theorem qs_filter (n : Nat) (hn : n ≤ g.ord.length) : qsT (keepM g l) n = (qsT g n).filter fun p => decide (p.1 ∈ l) := by
 unfold qsT
 rw [List.filter_flatMap]
 simp only [List.flatMap]
 congr 1
 apply List.map_congr_left
 intro x hx
 have hx : x < g.ord.length := by have := List.mem_range.1 hx; omega
 have e : (keepM g l).ord.getD x [] = keepO l (g.ord.getD x []) := by simp [keepM, hx]
 rw [e, List.filter_map]
 rfl
omit hg hC in
theorem ws_nodup : ∀ t, ((wsT g t).map (·.1)).Nodup := by
 intro t
 unfold wsT List.Nodup
 rw [List.pairwise_map, List.pairwise_flatMap]
 refine ⟨fun k _ => ?_, List.nodup_range.imp fun {a b} hab x hx y hy e => ?_⟩
 ·unfold wsE
  rw [List.pairwise_flatMap]
  refine ⟨fun i _ => by split <;> simp, List.nodup_range.imp fun {a b} hab x hx y hy e => ?_⟩
  split at hx <;> simp at hx
  split at hy <;> simp at hy
  subst hx; subst hy
  simp at e
  omega
 ·obtain ⟨i, _, _, rfl⟩ := wsE_mem.1 hx
  obtain ⟨j, _, _, rfl⟩ := wsE_mem.1 hy
  simp at e
  omega
omit hg hC in
theorem nodup_of_map {α β : Type} {f : α → β} : ∀ {l : List α}, (l.map f).Nodup → l.Nodup := fun {l} h => by
 unfold List.Nodup at *
 rw [List.pairwise_map] at h
 exact h.imp fun hab e => hab (by rw [e])
end
theorem k_ok {g : Gr} {l : List EId} (hg : GOk g) (hC : ClG g l) : GOk (keepM g l) := by
 have hlo : (keepM g l).ord.length = (keepM g l).init.length := by
  show (g.ord.map (keepO l)).length = g.init.length
  rw [List.length_map]; exact hg.lord
 have hev := k_events hg hC
 refine ⟨k_short hg hC, by simp [keepM], hlo, hev, k_sources hg hC, (orders_perm hlo hev).2 ?_⟩
 have hp := (orders_perm hg.lord hg.events).1 hg.orders
 have e1 : (keepM g l).ord.length = g.ord.length := by simp [keepM]
 rw [e1, qs_filter _ (Nat.le_refl _), keep_thl]
 refine (hp.filter _).trans ?_
 refine (List.perm_ext_iff_of_nodup ((nodup_of_map (ws_nodup _)).filter _) (nodup_of_map (ws_nodup _))).2 fun p => ?_
 rw [List.mem_filter, decide_eq_true_eq, wsT_mem, wsT_mem]
 constructor
 ·rintro ⟨⟨t, ht, i, hi, hw, rfl⟩, hin⟩
  have hk := (k_in hg hC t i ht hi).1 hin
  refine ⟨t, ht, i, by rw [kth_len hg hC t ht]; exact hk, ?_, ?_⟩
  ·rw [kev hg hC t i ht hk]; exact hw
  ·rw [kev hg hC t i ht hk]
 ·rintro ⟨t, ht, i, hi, hw, rfl⟩
  rw [kth_len hg hC t ht] at hi
  rw [kev hg hC t i ht hi] at hw ⊢
  have hle := kQ_le hg hC t ht
  exact ⟨⟨t, ht, i, by omega, hw, rfl⟩, (k_in hg hC t i ht (by omega)).2 hi⟩
end Go.AL.Rl

namespace Go.AL.Rl
open Go Go.AL Go.Proofs
set_option maxRecDepth 100000
set_option maxHeartbeats 3200000

theorem sub_or {α : Type} : ∀ {l : List α} {x y : α}, x ∈ l → y ∈ l → x ≠ y → [x, y].Sublist l ∨ [y, x].Sublist l
 | [], _, _, h, _, _ => by cases h
 | a :: l, x, y, hx, hy, hne => by
  rcases List.mem_cons.1 hx with hx1 | hx1
  ·rcases List.mem_cons.1 hy with hy1 | hy1
   ·exact absurd (hx1.trans hy1.symm) hne
   ·rw [hx1]; exact .inl (List.Sublist.cons_cons _ (List.singleton_sublist.2 hy1))
  ·rcases List.mem_cons.1 hy with hy1 | hy1
   ·rw [hy1]; exact .inr (List.Sublist.cons_cons _ (List.singleton_sublist.2 hx1))
   ·exact (sub_or hx1 hy1 hne).imp (fun h => h.cons _) (fun h => h.cons _)
theorem lastK_at {ms : List Mk} (hn : ms.Nodup) {k : Nat} (hk : k < ms.length) : ∀ n, n ≤ ms.length → k < n → lastK ms (ms.getD k mk0) n = some k
 | 0, _, h => by omega
 | n + 1, hl, h => by
  unfold lastK
  have hinj : ∀ i, i < ms.length → ms.getD i mk0 = ms.getD k mk0 → i = k := fun i hi e => by
   unfold List.Nodup at hn
   rw [List.pairwise_iff_getElem] at hn
   simp only [List.getD_eq_getElem?_getD, List.getElem?_eq_getElem hi, List.getElem?_eq_getElem hk, Option.getD_some] at e
   rcases Nat.lt_trichotomy i k with h1 | h1 | h1
   ·exact absurd e (hn i k hi hk h1)
   ·exact h1
   ·exact absurd e.symm (hn k i hk hi h1)
  by_cases e : ms.getD n mk0 = ms.getD k mk0
  ·rw [if_pos e, hinj n (by omega) e]
  ·rw [if_neg e]
   refine lastK_at hn hk n (by omega) ?_
   rcases Nat.lt_or_ge k n with h1 | h1
   ·exact h1
   ·obtain rfl : k = n := by omega
    exact absurd rfl e
theorem plK_at {ms : List Mk} (hn : ms.Nodup) {k : Nat} (hk : k < ms.length) : plK ms (ms.getD k mk0) = k := by
 unfold plK; rw [lastK_at hn hk ms.length (Nat.le_refl _) hk]
theorem plK_pw {ms : List Mk} (hn : ms.Nodup) : ms.Pairwise fun x y => plK ms x < plK ms y := by
 rw [List.pairwise_iff_getElem]
 intro i j hi hj hij
 have h1 := plK_at hn hi
 have h2 := plK_at hn hj
 rw [show ms.getD i mk0 = ms[i] by simp [hi]] at h1
 rw [show ms.getD j mk0 = ms[j] by simp [hj]] at h2
 omega
theorem plK_sub {ms : List Mk} (hn : ms.Nodup) {x y : Mk} (hx : x ∈ ms) (hy : y ∈ ms) : plK ms x < plK ms y ↔ [x, y].Sublist ms := by
 have hp : ∀ {a b : Mk}, [a, b].Sublist ms → plK ms a < plK ms b := fun h => List.pairwise_iff_forall_sublist.1 (plK_pw hn) h
 constructor
 ·intro h
  rcases sub_or hx hy (fun e => by rw [e] at h; omega) with h1 | h1
  ·exact h1
  ·have := hp h1; omega
 ·exact fun h => hp h
theorem plK_filter {ms : List Mk} (hn : ms.Nodup) (p : Mk → Bool) {x y : Mk} (hx : x ∈ ms.filter p) (hy : y ∈ ms.filter p) (h : plK ms x < plK ms y) : plK (ms.filter p) x < plK (ms.filter p) y := by
 rw [plK_sub (hn.filter p) hx hy]
 have h1 := (plK_sub hn (List.mem_filter.1 hx).1 (List.mem_filter.1 hy).1).1 h
 have h2 := h1.filter p
 rwa [List.filter_cons_of_pos (List.mem_filter.1 hx).2, List.filter_cons_of_pos (List.mem_filter.1 hy).2, List.filter_nil] at h2
theorem needE_congr (t : Nat) (l l2 : List Ev) : ∀ i, (∀ j < i, l.getD j ev0 = l2.getD j ev0) → needE t l i = needE t l2 i
 | 0, _ => rfl
 | i + 1, h => by rw [needE_succ, needE_succ, needE_congr t l l2 i fun j hj => h j (by omega), h i (by omega)]
section
variable {g : Gr} {l : List EId} (hg : GOk g) (hC : ClG g l)
include hg hC
theorem k_allN (m : Mk) : m ∈ allN (keepM g l) ↔ m ∈ allN g ∧ m.id ∈ l := by
 rw [allN_mem, allN_mem, keep_thl]
 constructor
 ·rintro ⟨t, ht, j, hj, h⟩
  rw [kth_len hg hC t ht] at hj
  rw [kev hg hC t j ht hj] at h
  have hle := kQ_le hg hC t ht
  refine ⟨⟨t, ht, j, by omega, h⟩, ?_⟩
  rw [(needM_mem.1 h).1]
  exact (k_in hg hC t j ht (by omega)).2 hj
 ·rintro ⟨⟨t, ht, j, hj, h⟩, hin⟩
  rw [(needM_mem.1 h).1] at hin
  have hk := (k_in hg hC t j ht hj).1 hin
  exact ⟨t, ht, j, by rw [kth_len hg hC t ht]; exact hk, by rw [kev hg hC t j ht hk]; exact h⟩
theorem k_kept {ms : List Mk} (hm : markedM g ms = true) (m : Mk) (hin : m ∈ ms) : keptM (keepM g l) m = true ↔ m.id ∈ l := by
 obtain ⟨t, ht, j, hj, h⟩ := allN_mem.1 (((marked_iff g ms).1 hm).1.symm.subset hin)
 unfold keptM
 rw [decide_eq_true_eq, (needM_mem.1 h).1, k_in hg hC t j ht hj]
 have : (((⟨(t : Int) + 1, (j : Int)⟩ : EId).t - 1).toNat) = t := by simp only; omega
 rw [this, kth_len hg hC t ht]
 simp only
 omega
theorem k_marked {ms : List Mk} (hm : markedM g ms = true) : markedM (keepM g l) (ms.filter (keptM (keepM g l))) = true := by
 obtain ⟨h1, h2⟩ := (marked_iff g ms).1 hm
 have hn : ms.Nodup := h1.nodup_iff.1 (allN_nodup g)
 have hp : (allN (keepM g l)).Perm (ms.filter (keptM (keepM g l))) := by
  refine (List.perm_ext_iff_of_nodup (allN_nodup _) (hn.filter _)).2 fun m => ?_
  rw [k_allN hg hC, List.mem_filter, h1.mem_iff]
  exact and_congr_right fun hin => (k_kept hg hC hm m hin).symm
 refine (marked_iff _ _).2 ⟨hp, fun t ht => ?_⟩
 have ht2 : t < g.th.length := by rwa [keep_thl] at ht
 have hle := kQ_le hg hC t ht2
 have hsub : (needE t ((keepM g l).th.getD t []) ((keepM g l).th.getD t []).length).Sublist (needE t (g.th.getD t []) (g.th.getD t []).length) := by
  rw [kth_len hg hC t ht2, needE_congr t _ (g.th.getD t []) _ fun j hj => kev hg hC t j ht2 hj]
  obtain ⟨r, hr⟩ := needE_more t (g.th.getD t []) (kQ g l t) ((g.th.getD t []).length - kQ g l t)
  rw [show kQ g l t + ((g.th.getD t []).length - kQ g l t) = (g.th.getD t []).length by omega] at hr
  rw [hr]
  exact List.sublist_append_left _ _
 refine List.Pairwise.imp_of_mem (fun {x y} hx hy hxy => ?_) ((h2 t ht2).sublist hsub)
 have hin : ∀ z, z ∈ needE t ((keepM g l).th.getD t []) ((keepM g l).th.getD t []).length → z ∈ ms.filter (keptM (keepM g l)) := fun z hz => by
  obtain ⟨j, hj, h⟩ := needE_mem.1 hz
  exact hp.subset (allN_mem.2 ⟨t, ht, j, hj, h⟩)
 exact plK_filter hn _ (hin x hx) (hin y hy) hxy
end
theorem cut_ok {s : Sta} {l : List EId} (hs : SOk s) (hC : ClG s.g l) : SOk (cutM s l) := by
 obtain ⟨hg, hm, hh⟩ := hs
 refine ⟨k_ok hg hC, k_marked hg hC hm, ?_⟩
 obtain ⟨h1, h2, h3⟩ := (halfOk_iff s).1 hh
 rw [halfOk_iff]
 show 0 ≤ (cutM s l).half ∧ (cutM s l).half ≤ (keepM s.g l).th.length ∧ ((cutM s l).half = 0 ∨ (((keepM s.g l).th.getD ((cutM s l).half - 1).toNat []).length ≠ 0 ∧ (((keepM s.g l).th.getD ((cutM s l).half - 1).toNat []).getD (((keepM s.g l).th.getD ((cutM s l).half - 1).toNat []).length - 1) ev0).kind = 1))
 have e : (cutM s l).half = if 0 < s.half ∧ ((keepM s.g l).th.getD (s.half - 1).toNat []).length = (s.g.th.getD (s.half - 1).toNat []).length then s.half else 0 := rfl
 rw [e, keep_thl]
 by_cases hc : 0 < s.half ∧ ((keepM s.g l).th.getD (s.half - 1).toNat []).length = (s.g.th.getD (s.half - 1).toNat []).length
 ·rw [if_pos hc]
  refine ⟨h1, h2, .inr ?_⟩
  have ht : (s.half - 1).toNat < s.g.th.length := by omega
  have hk := kth_len hg hC _ ht
  have e2 : (keepM s.g l).th.getD (s.half - 1).toNat [] = s.g.th.getD (s.half - 1).toNat [] := by
   rw [kth hg hC _ ht, List.take_of_length_le]
   omega
  rw [e2]
  rcases h3 with h3 | h3
  ·omega
  ·exact h3
 ·rw [if_neg hc]
  exact ⟨Int.le_refl _, by omega, .inl rfl⟩
theorem Sta.ext' {a b : Sta} (h1 : a.g = b.g) (h2 : a.ms = b.ms) (h3 : a.half = b.half) : a = b := by cases a; cases b; simp_all
theorem rd_ok {g : Gr} (hg : GOk g) : Rd g := by
 have hs := hg.short
 have h1 := hs.th
 have h2 := hs.init
 have h3 := hg.lfr
 have h4 := hg.lord
 refine ⟨by omega, by omega, by omega, by omega, fun l hl => ?_, fun l hl => ?_, fun l hl => ?_⟩
 ·have := hs.ths l hl; omega
 ·obtain ⟨t, ht, e⟩ := List.getElem_of_mem hl
  have h5 := (hg.events t (by omega)).1
  have h6 := hs.at t
  rw [show g.fr.getD t [] = l by simp [ht, e]] at h5
  omega
 ·obtain ⟨x, hx, e⟩ := List.getElem_of_mem hl
  have h5 := hg.orders x (by omega)
  unfold orderedM at h5
  rw [Bool.and_eq_true, decide_eq_true_eq, decide_eq_true_eq] at h5
  have h6 := cntT_le (x : Int) hs.ths
  have h7 := h5.2
  rw [show g.ord.getD x [] = l by simp [hx, e]] at h7
  omega
end Go.AL.Rl

namespace Go.AL.Rl
open Go Go.AL Go.Proofs
set_option maxRecDepth 100000
set_option maxHeartbeats 3200000

def porfB (g : Gr) (a d : EId) : Bool := bit (porfF (viewG g) (nG g)) (numOf (idsG g) a) (numOf (idsG g) d)
theorem fwd_iff {g : Gr} (hg : GOk g) (i j : Nat) : bit (orM (nG g) [((nG g : Int), poF (viewG g) (nG g)), ((nG g : Int), rfF (viewG g) (nG g))]) i j = true ↔ bit (backF (viewG g) (nG g)) j i = true := by
 have hn := (viewG_wf hg).small
 unfold backF
 rw [bit_turn (fits_or2 (fits_poF _ hn) (fits_rfF _ hn))]
theorem porf_in {g : Gr} (hg : GOk g) (S : EId → Prop) (hS : ∀ d, evT g d → S d → ∀ a, evT g a → ahead g a d → S a) {i j : Nat} (h : bit (porfF (viewG g) (nG g)) i j = true) : g.init.length ≤ j ∧ (S ((idsG g).getD j id0) → g.init.length ≤ i → S ((idsG g).getD i id0)) := by
 refine plus_least (fun i j => g.init.length ≤ j ∧ (S ((idsG g).getD j id0) → g.init.length ≤ i → S ((idsG g).getD i id0))) (fun a b hab => ?_) (fun a k b h1 h2 => ⟨h2.1, fun hb ha => h1.2 (h2.2 hb h1.1) ha⟩) h
 have hb := (fwd_iff hg a b).1 hab
 have hlt := (back_iff hg b a).1 hb
 have hx : g.init.length ≤ b := by
  rcases Nat.lt_or_ge b g.init.length with h1 | h1
  ·exact absurd hb (back_lo hg h1)
  ·exact h1
 exact ⟨hx, fun hs ha => hS _ (idx_hi hx hlt.2.1) hs _ (idx_hi ha hlt.1) ((back_hi hg hx ha hlt.2.1 hlt.1).1 hb)⟩
theorem num_hi {g : Gr} {d : EId} (h : evT g d) : g.init.length ≤ numOf (idsG g) d ∧ numOf (idsG g) d < nG g ∧ (idsG g).getD (numOf (idsG g) d) id0 = d := by
 obtain ⟨j, h1, h2, h3⟩ := idx_of h
 have := numOf_at (idsG_nodup g) (k := j) h2
 rw [h3] at this
 rw [this]
 exact ⟨h1, h2, h3⟩
theorem dn_porf {g : Gr} (hg : GOk g) {l : List EId} (hl : ∀ d ∈ l, evT g d) : Dn g l ↔ ∀ d ∈ l, ∀ a, evT g a → porfB g a d = true → a ∈ l := by
 constructor
 ·intro h d hd a ha hb
  obtain ⟨d1, d2, d3⟩ := num_hi (hl d hd)
  obtain ⟨a1, a2, a3⟩ := num_hi ha
  have := (porf_in hg (fun x => x ∈ l) (fun d _ hd a ha hah => h d hd a ha hah) hb).2 (by rw [d3]; exact hd) a1
  rwa [a3] at this
 ·intro h d hd a ha hah
  obtain ⟨d1, d2, d3⟩ := num_hi (hl d hd)
  obtain ⟨a1, a2, a3⟩ := num_hi ha
  refine h d hd a ha (plus_edge ((fwd_iff hg _ _).2 ((back_hi hg d1 a1 d2 a2).2 ?_)))
  rw [d3, a3]; exact hah
/-- what an event leans on, by the document -/
def rleansM (g : Gr) (d : EId) : List EId := (idsT g g.th.length).filter fun a => porfB g a d
def rclosedB (g : Gr) (l : List EId) (k : Nat) : Bool := decide (l.getD k id0 ∈ idsT g g.th.length) && !decide (l.getD k id0 ∈ l.take k) && (rleansM g (l.getD k id0)).all fun a => decide (a ∈ l)
def rclosedM (g : Gr) (l : List EId) : Bool := decide (GOk g) && decide (∀ k < l.length, rclosedB g l k = true)
theorem rclosed_same (g : Gr) (l : List EId) : rclosedM g l = closedG g l := by
 rw [Bool.eq_iff_iff, closedG_iff]
 unfold rclosedM
 rw [Bool.and_eq_true, decide_eq_true_eq, decide_eq_true_eq]
 refine and_congr_right fun hg => ?_
 have one : ∀ k < l.length, (rclosedB g l k = true ↔ evT g (l.getD k id0) ∧ l.getD k id0 ∉ l.take k ∧ ∀ a, evT g a → porfB g a (l.getD k id0) = true → a ∈ l) := fun k hk => by
  unfold rclosedB rleansM
  rw [Bool.and_eq_true, Bool.and_eq_true, decide_eq_true_eq, Bool.not_eq_true', decide_eq_false_iff_not, List.all_eq_true, ← evT_iff]
  simp only [List.mem_filter, decide_eq_true_eq, ← evT_iff, and_assoc, and_imp]
 unfold ClG
 constructor
 ·intro h
  have hev : ∀ d ∈ l, evT g d := fun d hd => by
   obtain ⟨k, hk, e⟩ := List.getElem_of_mem hd
   have := ((one k hk).1 (h k hk)).1
   rwa [show l.getD k id0 = d by simp [hk, e]] at this
  refine ⟨?_, hev, (dn_porf hg hev).2 fun d hd a ha hb => ?_⟩
  ·unfold List.Nodup
   rw [List.pairwise_iff_getElem]
   intro i k hi hk hik e
   refine ((one k hk).1 (h k hk)).2.1 ?_
   have e2 : l.getD k id0 = l[k] := by simp [hk]
   rw [e2, ← e, List.mem_take_iff_getElem]
   exact ⟨i, by omega, rfl⟩
  ·obtain ⟨k, hk, e⟩ := List.getElem_of_mem hd
   have e2 : l.getD k id0 = d := by simp [hk, e]
   exact ((one k hk).1 (h k hk)).2.2 a ha (by rw [e2]; exact hb)
 ·rintro ⟨h1, h2, h3⟩ k hk
  refine (one k hk).2 ⟨h2 _ (getD_mem hk), fun hin => ?_, fun a ha hb => (dn_porf hg h2).1 h3 _ (getD_mem hk) a ha hb⟩
  rw [List.mem_take_iff_getElem] at hin
  obtain ⟨i, hi, e⟩ := hin
  have := getD_inj h1 (i := i) (j := k) (by omega) hk (by rw [show l.getD i id0 = l[i] by simp [show i < l.length by omega]]; exact e)
  omega
def rmarkB (ms L : List Mk) (i : Nat) : Bool := decide (0 ≤ numK ms (L.getD i mk0)) && !(decide (0 < i) && decide ((L.getD (i - 1) mk0).id.t = (L.getD i mk0).id.t) && decide (numK ms (L.getD (i - 1) mk0) > numK ms (L.getD i mk0)))
def rmarkedM (g : Gr) (ms : List Mk) : Bool := decide ((allN g).length = ms.length) && decide (∀ i < (allN g).length, rmarkB ms (allN g) i = true)
theorem numK_in {ms : List Mk} {d : Mk} (h : 0 ≤ numK ms d) : d ∈ ms := by
 unfold numK at h
 cases e : ms.findIdx? fun x => decide (x = d) with
 | none => rw [e] at h; simp at h
 | some k =>
  rw [List.findIdx?_eq_some_iff_getElem] at e
  obtain ⟨h1, h2, _⟩ := e
  have h2 := of_decide_eq_true h2
  rw [← h2]; exact List.getElem_mem h1
theorem numK_pl {ms : List Mk} (hn : ms.Nodup) {d : Mk} (h : d ∈ ms) : numK ms d = plK ms d := by
 obtain ⟨k, hk, e⟩ := List.getElem_of_mem h
 have e2 : ms.getD k mk0 = d := by simp [hk, e]
 rw [← e2, plK_at hn hk]
 refine numK_at hk rfl fun j hj e => ?_
 have h1 := plK_at hn hk
 have h2 := plK_at hn (k := j) (by omega)
 rw [e] at h2
 omega
theorem gD {α : Type} {l : List α} {i : Nat} {d : α} (h : i < l.length) : l.getD i d = l[i] := by simp [h]
theorem seg_at {g : Gr} {t : Nat} (ht : t < g.th.length) {p : Nat} (hp : p < (needE t (g.th.getD t []) (g.th.getD t []).length).length) :
  cntN g t + p < (allN g).length ∧ (allN g).getD (cntN g t + p) mk0 = (needE t (g.th.getD t []) (g.th.getD t []).length).getD p mk0 := by
 have e : allN g = ((List.range t).flatMap fun t => needE t (g.th.getD t []) (g.th.getD t []).length) ++ (needE t (g.th.getD t []) (g.th.getD t []).length ++ ((List.range (g.th.length - (t + 1))).map (fun x => t + 1 + x)).flatMap fun t => needE t (g.th.getD t []) (g.th.getD t []).length) := by
  unfold allN
  conv => lhs; rw [show g.th.length = t + 1 + (g.th.length - (t + 1)) by omega]
  rw [List.range_add, List.flatMap_append, List.range_succ, List.flatMap_append, List.append_assoc]
  simp
 have hl : ((List.range t).flatMap fun t => needE t (g.th.getD t []) (g.th.getD t []).length).length = cntN g t := by
  unfold cntN; rw [List.length_flatMap]
 rw [e]
 generalize ((List.range t).flatMap fun t => needE t (g.th.getD t []) (g.th.getD t []).length) = A at hl
 generalize (((List.range (g.th.length - (t + 1))).map (fun x => t + 1 + x)).flatMap fun t => needE t (g.th.getD t []) (g.th.getD t []).length) = B
 rw [← hl]
 refine ⟨by simp only [List.length_append]; omega, ?_⟩
 rw [List.getD_eq_getElem?_getD, List.getElem?_append_right (by omega), Nat.add_sub_cancel_left, List.getElem?_append_left hp, ← List.getD_eq_getElem?_getD]
theorem chain_pw {L : List Mk} (f : Mk → Int) (h : ∀ i, i + 1 < L.length → f (L.getD i mk0) < f (L.getD (i + 1) mk0)) : L.Pairwise fun x y => f x < f y := by
 rw [List.pairwise_iff_getElem]
 have key : ∀ d i, i + d + 1 < L.length → f (L.getD i mk0) < f (L.getD (i + d + 1) mk0) := by
  intro d
  induction d with
  | zero => intro i hi; exact h i hi
  | succ d ih =>
   intro i hi
   have h1 := ih i (by omega)
   have h2 := h (i + d + 1) (by omega)
   have e : i + (d + 1) + 1 = i + d + 1 + 1 := by omega
   rw [e]; omega
 intro i j hi hj hij
 have := key (j - i - 1) i (by omega)
 rw [show i + (j - i - 1) + 1 = j by omega] at this
 rw [show L.getD i mk0 = L[i] by simp [hi], show L.getD j mk0 = L[j] by simp [hj]] at this
 exact this
theorem mk_inj {L : List Mk} (hn : L.Nodup) {i j : Nat} (hi : i < L.length) (hj : j < L.length) (h : L.getD i mk0 = L.getD j mk0) : i = j := by
 have h1 := plK_at hn hi
 have h2 := plK_at hn hj
 rw [h] at h1
 omega
theorem need_t {t : Nat} {l : List Ev} {i p : Nat} (hp : p < (needE t l i).length) : ((needE t l i).getD p mk0).id.t = (t : Int) + 1 := by
 obtain ⟨j, _, h⟩ := needE_mem.1 (getD_mem (d := mk0) hp)
 rw [(needM_mem.1 h).1]
theorem rmarked_same (g : Gr) (ms : List Mk) : rmarkedM g ms = markedM g ms := by
 rw [Bool.eq_iff_iff, marked_iff]
 unfold rmarkedM
 rw [Bool.and_eq_true, decide_eq_true_eq, decide_eq_true_eq]
 have hnd := allN_nodup g
 constructor
 ·rintro ⟨h1, h2⟩
  have hin : ∀ d ∈ allN g, d ∈ ms := fun d hd => by
   obtain ⟨i, hi, e⟩ := List.getElem_of_mem hd
   have := h2 i hi
   unfold rmarkB at this
   rw [Bool.and_eq_true, decide_eq_true_eq] at this
   rw [show (allN g).getD i mk0 = d by simp [hi, e]] at this
   exact numK_in this.1
  have hp := perm_of_sub hnd hin (by omega)
  have hn : ms.Nodup := hp.nodup_iff.1 hnd
  refine ⟨hp, fun t ht => chain_pw _ fun p hpl => ?_⟩
  obtain ⟨a1, a2⟩ := seg_at ht (p := p) (by omega)
  obtain ⟨b1, b2⟩ := seg_at ht hpl
  have hb := h2 _ b1
  unfold rmarkB at hb
  rw [Bool.and_eq_true, Bool.not_eq_true'] at hb
  have hb2 := hb.2
  rw [show cntN g t + (p + 1) - 1 = cntN g t + p by omega, a2, b2, need_t (by omega), need_t hpl, decide_eq_true rfl, decide_eq_true (show 0 < cntN g t + (p + 1) by omega), Bool.true_and, Bool.true_and, decide_eq_false_iff_not] at hb2
  have m1 := hin _ (getD_mem (d := mk0) a1)
  have m2 := hin _ (getD_mem (d := mk0) b1)
  rw [a2] at m1
  rw [b2] at m2
  rw [numK_pl hn m1, numK_pl hn m2] at hb2
  have hne : plK ms ((needE t (g.th.getD t []) (g.th.getD t []).length).getD p mk0) ≠ plK ms ((needE t (g.th.getD t []) (g.th.getD t []).length).getD (p + 1) mk0) := fun e => by
   obtain ⟨i, hi, ei⟩ := List.getElem_of_mem m1
   obtain ⟨j, hj, ej⟩ := List.getElem_of_mem m2
   have ei2 : ms.getD i mk0 = _ := (show ms.getD i mk0 = ms[i] by simp [hi]).trans ei
   have ej2 : ms.getD j mk0 = _ := (show ms.getD j mk0 = ms[j] by simp [hj]).trans ej
   rw [← ei2, ← ej2, plK_at hn hi, plK_at hn hj] at e
   have e : i = j := by omega
   subst e
   have := mk_inj hnd a1 b1 (by rw [a2, b2, ← ei2, ← ej2])
   omega
  omega
 ·rintro ⟨h1, h2⟩
  have hn : ms.Nodup := h1.nodup_iff.1 hnd
  refine ⟨h1.length_eq, fun i hi => ?_⟩
  have hin : ∀ d ∈ allN g, d ∈ ms := fun d hd => h1.subset hd
  obtain ⟨t, ht, j, hj, hm⟩ := allN_mem.1 (getD_mem (d := mk0) hi)
  obtain ⟨p, hp, ep⟩ := List.getElem_of_mem (needE_mem.2 ⟨j, hj, hm⟩)
  obtain ⟨b1, b2⟩ := seg_at ht hp
  have ep2 : (needE t (g.th.getD t []) (g.th.getD t []).length).getD p mk0 = (allN g).getD i mk0 := (gD hp).trans ep
  have ei : i = cntN g t + p := mk_inj hnd hi b1 (by rw [b2, ep2])
  unfold rmarkB
  have hmi := hin _ (getD_mem (d := mk0) hi)
  have hnn : 0 ≤ numK ms ((allN g).getD i mk0) := by
   rw [numK_pl hn hmi]
   obtain ⟨k, hk, e⟩ := List.getElem_of_mem hmi
   rw [← e, ← (show ms.getD k mk0 = ms[k] by simp [hk]), plK_at hn hk]
   omega
  rw [decide_eq_true hnn, Bool.true_and, Bool.not_eq_true', Bool.and_eq_false_iff]
  by_cases hc : 0 < i ∧ ((allN g).getD (i - 1) mk0).id.t = ((allN g).getD i mk0).id.t
  ·right
   refine decide_eq_false fun hgt => ?_
   have hit : ((allN g).getD i mk0).id.t = (t : Int) + 1 := by rw [← ep2]; exact need_t hp
   -- the one ahead is in the thread, too
   obtain ⟨t', ht', j', hj', hm'⟩ := allN_mem.1 (getD_mem (d := mk0) (show i - 1 < (allN g).length by omega))
   have ett : t' = t := by
    have := hc.2
    rw [hit, (needM_mem.1 hm').1] at this
    simp only at this
    omega
   subst ett
   obtain ⟨p', hp', ep'⟩ := List.getElem_of_mem (needE_mem.2 ⟨j', hj', hm'⟩)
   obtain ⟨c1, c2⟩ := seg_at ht' hp'
   have ep2' : (needE t' (g.th.getD t' []) (g.th.getD t' []).length).getD p' mk0 = (allN g).getD (i - 1) mk0 := (gD hp').trans ep'
   have ei' : i - 1 = cntN g t' + p' := mk_inj hnd (by omega) c1 (by rw [c2, ep2'])
   have hpw := List.pairwise_iff_getElem.1 (h2 t' ht') p' p hp' hp (by omega)
   rw [ep', ep] at hpw
   rw [numK_pl hn hmi, numK_pl hn (hin _ (getD_mem (d := mk0) (show i - 1 < (allN g).length by omega)))] at hgt
   omega
  ·left
   rw [Bool.and_eq_false_iff]
   by_cases h0 : 0 < i
   ·right; exact decide_eq_false fun e => hc ⟨h0, e⟩
   ·left; exact decide_eq_false h0
theorem half_in {s : Sta} {l : List EId} (hs : SOk s) (hC : ClG s.g l) (h0 : 0 < s.half) : ((keepM s.g l).th.getD (s.half - 1).toNat []).length = (s.g.th.getD (s.half - 1).toNat []).length ↔ (⟨s.half, ((s.g.th.getD (s.half - 1).toNat []).length : Int) - 1⟩ : EId) ∈ l := by
 obtain ⟨h1, h2, h3⟩ := (halfOk_iff s).1 hs.2.2
 have ht : (s.half - 1).toNat < s.g.th.length := by omega
 have hne : (s.g.th.getD (s.half - 1).toNat []).length ≠ 0 := by
  rcases h3 with h3 | h3
  ·omega
  ·exact h3.1
 have hk := k_in hs.1 hC (s.half - 1).toNat ((s.g.th.getD (s.half - 1).toNat []).length - 1) ht (by omega)
 have e : (⟨(((s.half - 1).toNat : Nat) : Int) + 1, (((s.g.th.getD (s.half - 1).toNat []).length - 1 : Nat) : Int)⟩ : EId) = ⟨s.half, ((s.g.th.getD (s.half - 1).toNat []).length : Int) - 1⟩ := EId.ext' (by simp only; omega) (by simp only; omega)
 rw [e] at hk
 have hle := kQ_le hs.1 hC _ ht
 rw [kth_len hs.1 hC _ ht, hk]
 omega
def rcutM (s : Sta) (l : List EId) : Sta := ⟨keepM s.g l, s.ms.filter (fun m => decide (m.id ∈ l)), if 0 < s.half ∧ (⟨s.half, ((s.g.th.getD (s.half - 1).toNat []).length : Int) - 1⟩ : EId) ∈ l then s.half else 0⟩
theorem rcut_same {s : Sta} {l : List EId} (hs : SOk s) (hC : ClG s.g l) : rcutM s l = cutM s l := by
 refine Sta.ext' rfl ?_ ?_
 ·refine List.filter_congr fun m hm => ?_
  rw [Bool.eq_iff_iff, decide_eq_true_eq]
  exact (k_kept hs.1 hC hs.2.1 m hm).symm
 ·show (if 0 < s.half ∧ (⟨s.half, ((s.g.th.getD (s.half - 1).toNat []).length : Int) - 1⟩ : EId) ∈ l then s.half else 0) = if 0 < s.half ∧ ((keepM s.g l).th.getD (s.half - 1).toNat []).length = (s.g.th.getD (s.half - 1).toNat []).length then s.half else 0
  by_cases h0 : 0 < s.half
  ·have := half_in hs hC h0
   by_cases h1 : (⟨s.half, ((s.g.th.getD (s.half - 1).toNat []).length : Int) - 1⟩ : EId) ∈ l
   ·rw [if_pos ⟨h0, h1⟩, if_pos ⟨h0, this.2 h1⟩]
   ·rw [if_neg fun x => h1 x.2, if_neg fun x => h1 (this.1 x.2)]
  ·rw [if_neg fun x => h0 x.1, if_neg fun x => h0 x.1]
end Go.AL.Rl
