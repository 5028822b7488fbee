import Derived.Test.YtbpebafmnnofjaaGreatDoorPs7
import Derived.OpenShut
import Derived.ReadAgain
import Derived.Deep.DeepHandedRow
import Derived.Lib.LaidTab
import Derived.ProofKit
import Derived.Test.YtbpebafmnnofjaaGreatDoorCards
import Derived.Test.YtbpebafmnnofjaaGreatDoorTie
set_option linter.unusedVariables false
set_option linter.unusedSimpArgs false
namespace Go.AL.Rl
open Go Go.AL Go.Proofs
set_option maxRecDepth 100000
set_option maxHeartbeats 3200000
variable {γ : Nat → Option AV}

theorem rleans_ok (g : Gr) (hg : Rd g) (h : GOk g) (d : EId) (hd : d ∈ idsT g g.th.length) : Pure Tryz.prog γ false 73 [aGr g, encRel (nG g : Nat) (porfF (viewG g) (nG g)), aId d] (.vs 2 fun _ => ids (rleansM g d)) := by
 have ka := rall_ok (γ := γ) g h.short
 have kn := fun a (ha : a ∈ idsT g g.th.length) => rnumber_ok (γ := γ) g hg h a ha
 have kh : ∀ a, a ∈ idsT g g.th.length → Pure Tryz.prog γ false 98 [encRel (nG g : Nat) (porfF (viewG g) (nG g)), .i fun _ => (numOf (idsG g) a : Nat), .i fun _ => (numOf (idsG g) d : Nat)] (.b fun _ => porfB g a d) := fun a ha => by
  have := rhas_ok (γ := γ) (nG g : Nat) (porfF (viewG g) (nG g)) (numOf (idsG g) a : Nat) (numOf (idsG g) d : Nat)
  rwa [has_porf h ha hd] at this
 have kd := kn d hd
 have hl := idsT_short h.short
 have hget : ∀ i, i < (idsT g g.th.length).length → (idsT g g.th.length).getD i id0 ∈ idsT g g.th.length := fun i hi => getD_mem hi
 have mS := fun i hi => rln_succ g d (i := i) hi
 have mL := rln_len g d
 have m0 := rln_zero g d
 rw [← rln_all]
 generalize rlnM g d = M at *
 obtain ⟨N, hN⟩ : ∃ N : EId → Nat, ∀ a, N a = numOf (idsG g) a := ⟨_, fun _ => rfl⟩
 simp only [← hN] at kn kh kd
 clear hN
 obtain ⟨p, hp⟩ : ∃ p : EId → Bool, ∀ a, p a = porfB g a d := ⟨_, fun _ => rfl⟩
 simp only [← hp] at kh mS
 clear hp hd
 generalize porfF (viewG g) (nG g) = bk at *
 generalize nG g = n at *
 generalize idsT g g.th.length = L at *
 obtain ⟨G, hG⟩ : ∃ G : List EId → Nat, ∀ l, G l = l.length := ⟨_, fun _ => rfl⟩
 have hG0 : G [] = 0 := by rw [hG]; rfl
 refine Pure.go (ty := ty) ty_eq mo Tryz.func73 rfl Tryz.ntmps73 Tryz.results73 Tryz.call73 (by simp) fun P C CQ D W F E hF => ?_
 cbv
 repeat' (first
  |(refine E.c (SCalls.of_le (kd) ?_ ?_);(· (cbv;(try simp only [nc] at *);first|done|(simp;done)|(simp (disch:=(first|omega|(simp only [lnS];omega))) only [rdT,rdS,anT];first|done|omega|(refine ⟨?_,?_⟩<;>omega))|(simp (disch:=(first|omega|(simp only [lnS];omega))) [rdT,rdS];done)));cbv)
  |(refine E.c (SCalls.of_le (ka) ?_ ?_);(· (cbv;(try simp only [nc] at *);first|done|(simp;done)|(simp (disch:=(first|omega|(simp only [lnS];omega))) only [rdT,rdS,anT];first|done|omega|(refine ⟨?_,?_⟩<;>omega))|(simp (disch:=(first|omega|(simp only [lnS];omega))) [rdT,rdS];done)));cbv)
  |(refine ⟨fun _ h_s=>?_,fun _ h_s=>?_⟩<;>(cbv;(try simp only [nc] at *);try simp (disch:=(first|omega|(simp only [lnS];omega))) only [rdT,rdS,reduceCtorEq,trT] at h_s))
  |(refine hF ?_;intro _;clear hF)
  |(refine hF ?_;cbv;clear hF)
  |(refine ⟨fun _=>?_,?_⟩;(· ((try simp only [nc] at *);first|done|omega|exact ⟨by omega,rfl⟩|(simp (disch:=(first|omega|(simp only [lnS];omega))) only [rdT,rdS];first|done|omega|rfl|exact ⟨by omega,rfl⟩|(simp;done)|(simp;omega))|(intros;trivial)));(try (simp only [nc] at *));(try simp (disch:=(first|omega|(simp only [lnS];omega))) only [rdT,rdS]);(try cbv))
  |(refine E.d 8 (by decide +kernel) ?_;cbv;(fail_if_success guard_target =~ False))
  | fail
 )
 refine E.w (AWP.ghostSlot 7 2 rfl (by omega) (E.loopSA (ι := Nat) (fun i => i ≤ L.length) (fun i => L.length - i) (fun i => [(10, .i fun _ => ((i : Nat) : Int)), (7, .sl 3 (G (M i)) 2 (fun _ => 0) fun _ => (M i).length)]) (fun i h => h.set 3 (.run (G (M i)) 2 fun _ => ids (M i))) 0 (fun _ => by first | rfl | simp) (Nat.zero_le _) ?_ fun i hi I hI => ?_))
 ·cbv; simp [m0, hG0, ids, LV.of]
 cbv
 rcases Nat.lt_or_ge i L.length with hlt | hge
 ·have e1 := mS i hlt
  have e2 := mL i
  have k1 := kn _ (hget i hlt)
  have k2 := kh _ (hget i hlt)
  skip
  repeat' (first
   |(refine hI (i + 1) ?_ ?_ ?_;rotate_left 1;(· ((try simp only [nc] at *);omega));(cbv;clear hI;(try clear hF);(try simp only [nc] at *);(try simp (disch:=(first|omega|(simp only [lnS];omega))) only [rdT,rdS,anT]));rotate_left 1;(try ((try simp only [nc] at *);omega)))
   |((first|refine E.c (SCalls.of_le (k2) ?_ ?_)|refine E.q (QCalls.of_le (k2) ?_ ?_));(· (cbv;(try simp only [nc] at *);first|done|(simp;done)|(simp (disch:=(first|omega|(simp only [lnS];omega))) only [rdT,rdS,anT];first|done|omega|(refine ⟨?_,?_⟩<;>omega))|(simp (disch:=(first|omega|(simp only [lnS];omega))) [rdT,rdS];done)));cbv)
   |((first|refine E.c (SCalls.of_le (k1) ?_ ?_)|refine E.q (QCalls.of_le (k1) ?_ ?_));(· (cbv;(try simp only [nc] at *);first|done|(simp;done)|(simp (disch:=(first|omega|(simp only [lnS];omega))) only [rdT,rdS,anT];first|done|omega|(refine ⟨?_,?_⟩<;>omega))|(simp (disch:=(first|omega|(simp only [lnS];omega))) [rdT,rdS];done)));cbv)
   |(refine ⟨fun _ h_s=>?_,fun _ h_s=>?_⟩<;>(cbv;(try simp only [nc] at *);try simp (disch:=(first|omega|(simp only [lnS];omega))) only [rdT,rdS,reduceCtorEq,trT] at h_s))
   |(refine hF ?_;intro _;clear hF)
   |(refine hF ?_;cbv;clear hF)
   |(refine ⟨fun _=>?_,?_⟩;(· ((try simp only [nc] at *);first|done|omega|exact ⟨by omega,rfl⟩|(simp (disch:=(first|omega|(simp only [lnS];omega))) only [rdT,rdS];first|done|omega|rfl|exact ⟨by omega,rfl⟩|(simp;done)|(simp;omega))|(intros;trivial)|exact ⟨by first|trivial|rfl,by first|trivial|rfl|simp,by first|trivial|simp,by simp;omega,by simp;omega,by simp [AV.flat,AV.cells,AV.one]⟩));(try (simp only [nc] at *));(try simp (disch:=(first|omega|(simp only [lnS];omega))) only [rdT,rdS]);(try cbv))
   |(refine E.d 8 (by decide +kernel) ?_;cbv;(fail_if_success guard_target =~ False))
   | fail
  )
  ·rw [if_pos (by assumption)] at e1
   simp [hG, e1, ids, setAll, AV.nrm, nrms, nrm1]
  ·rw [if_neg (by simp_all), List.append_nil] at e1
   simp [e1]
  ·exfalso; ((try simp only [nc] at *); omega)
 ·have e : i = L.length := by omega
  subst e
  repeat' (first
   |(refine ⟨fun _ h_s=>?_,fun _ h_s=>?_⟩<;>(cbv;(try simp only [nc] at *);try simp (disch:=(first|omega|(simp only [lnS];omega))) only [rdT,rdS,reduceCtorEq,trT] at h_s))
   |(refine hF ?_;intro _;clear hF)
   |(refine hF ?_;cbv;clear hF)
   |(refine ⟨fun _=>?_,?_⟩;(· ((try simp only [nc] at *);first|done|omega|exact ⟨by omega,rfl⟩|(simp (disch:=(first|omega|(simp only [lnS];omega))) only [rdT,rdS];first|done|omega|rfl|exact ⟨by omega,rfl⟩|(simp;done)|(simp;omega))|(intros;trivial)|exact ⟨by first|trivial|rfl,by first|trivial|rfl|simp,by first|trivial|simp,by simp;omega,by simp;omega,by simp [AV.flat,AV.cells,AV.one]⟩));(try (simp only [nc] at *));(try simp (disch:=(first|omega|(simp only [lnS];omega))) only [rdT,rdS]);(try cbv))
   |(refine E.d 8 (by decide +kernel) ?_;cbv;(fail_if_success guard_target =~ False))
   | fail
  )
  ·exfalso; ((try simp only [nc] at *); omega)
  ·have q2 : List.take (M L.length).length (ids (M L.length)).l = (ids (M L.length)).l := List.take_of_length_le (by rw [ids_len]; exact Nat.le_refl _)
   simp [q2]
theorem rclosed_ok (g : Gr) (hg : Rd g) (l : List EId) (hl : (l.length : Int) ≤ 9223372036854775807) : Pure Tryz.prog γ false 46 [aGr g, .vs 2 fun _ => ids l] (.b fun _ => rclosedM g l) := by
 have kc := check14_ok (γ := γ) g hg
 by_cases h : GOk g
 ·rw [gcheck0 h] at kc
  have kp := rporf_ok (γ := γ) g hg h
  have hlt : ∀ i, ((List.take i l).length : Int) ≤ 9223372036854775807 := fun i => by have := List.length_take_le' i l; omega
  have kt := fun d => rthere_ok (γ := γ) g hg d
  have kn := fun d => rin_ok (γ := γ) l d hl
  have kl := fun d hd => rleans_ok (γ := γ) g hg h d hd
  have hm : rclosedM g l = decide (∀ k < l.length, rclosedB g l k = true) := by unfold rclosedM; rw [decide_eq_true h, Bool.true_and]
  have hB : ∀ k, rclosedB g l k = (decide (l.getD k id0 ∈ idsT g g.th.length) && !decide (l.getD k id0 ∈ l.take k) && (rleansM g (l.getD k id0)).all fun a => decide (a ∈ l)) := fun _ => rfl
  have hLl : ∀ d, (rleansM g d).length ≤ 56 := fun d => Nat.le_trans (List.length_filter_le _ _) (idsT_short h.short)
  have hno : ∀ k, k < l.length → rclosedB g l k = false → rclosedM g l = false := fun k hk e => by
   rw [hm]; exact decide_eq_false fun x => by rw [x k hk] at e; cases e
  have hyes : (∀ k < l.length, rclosedB g l k = true) → rclosedM g l = true := fun e => by rw [hm]; exact decide_eq_true e
  clear hm
  generalize rclosedB g l = B at *
  generalize rclosedM g l = z at *
  generalize rleansM g = R at *
  generalize idsT g g.th.length = L at *
  generalize porfF (viewG g) (nG g) = bk at *
  generalize nG g = n at *
  refine Pure.go (ty := ty) ty_eq mo Tryz.func46 rfl Tryz.ntmps46 Tryz.results46 Tryz.call46 (by simp) fun P C CQ D W F E hF => ?_
  cbv
  repeat' (first
   |(refine E.c (SCalls.of_le (kp) ?_ ?_);(· (cbv;(try simp only [nc] at *);first|done|(simp;done)|(simp (disch:=(first|omega|(simp only [lnS];omega))) only [rdT,rdS,anT];first|done|omega|(refine ⟨?_,?_⟩<;>omega))|(simp (disch:=(first|omega|(simp only [lnS];omega))) [rdT,rdS];done)));cbv)
   |(refine E.c (SCalls.of_le (kc) ?_ ?_);(· (cbv;(try simp only [nc] at *);first|done|(simp;done)|(simp (disch:=(first|omega|(simp only [lnS];omega))) only [rdT,rdS,anT];first|done|omega|(refine ⟨?_,?_⟩<;>omega))|(simp (disch:=(first|omega|(simp only [lnS];omega))) [rdT,rdS];done)));cbv)
   |(refine ⟨fun _ h_s=>?_,fun _ h_s=>?_⟩<;>(cbv;(try simp only [nc] at *);try simp (disch:=(first|omega|(simp only [lnS];omega))) only [rdT,rdS,reduceCtorEq,trT] at h_s))
   |(refine hF ?_;intro _;clear hF)
   |(refine hF ?_;cbv;clear hF)
   |(refine ⟨fun _=>?_,?_⟩;(· ((try simp only [nc] at *);first|done|omega|exact ⟨by omega,rfl⟩|(simp (disch:=(first|omega|(simp only [lnS];omega))) only [rdT,rdS];first|done|omega|rfl|exact ⟨by omega,rfl⟩|(simp;done)|(simp;omega))|(intros;trivial)|exact ⟨by first|trivial|rfl,by first|trivial|rfl|simp,by first|trivial|simp,by simp;omega,by simp;omega,by simp [AV.flat,AV.cells,AV.one]⟩));(try (simp only [nc] at *));(try simp (disch:=(first|omega|(simp only [lnS];omega))) only [rdT,rdS]);(try cbv))
   |(refine E.d 6 (by decide +kernel) ?_;cbv;(fail_if_success guard_target =~ False))
   |(refine E.d 15 (by decide +kernel) ?_;cbv;(fail_if_success guard_target =~ False))
   | fail
  )
  ·exact absurd h_s (by simp)
  refine E.loopS (ι:=Nat) (fun i=>i≤l.length∧(∀ k < i,B k = true)) (fun i=>l.length - i) (fun i=>[(6,.i fun _=>((i : Nat) : Int))]) (fun i h=>h) 0 (fun _=>by first|rfl|simp) ⟨Nat.zero_le _,?_⟩ ?_ fun i hi I hI=>?_
  ·intro k hk; omega
  ·cbv; simp
  cbv
  obtain ⟨hi, hp⟩ := hi
  have k1 := kt (l.getD i id0)
  have k2 := rin_ok (γ := γ) (l.take i) (l.getD i id0) (hlt i)
  have ea : LV.of (List.take (i - 0) (List.drop 0 (ids l).l)) = ids (l.take i) := by simp [ids, List.map_take]
  rw [← ea] at k2
  clear ea
  by_cases hd : l.getD i id0 ∈ L
  ·have k3 := kl _ hd
   have k4 := hLl (l.getD i id0)
   have b1 := hB i
   generalize R (l.getD i id0) = O at *
   have bn : ∀ j, j < O.length → O.getD j id0 ∉ l → B i = false := fun j hj hn => by
    rw [b1, Bool.and_eq_false_iff]
    right
    refine Bool.eq_false_iff.2 fun e => hn ?_
    rw [List.all_eq_true] at e
    exact of_decide_eq_true (e _ (getD_mem hj))
   have by1 : l.getD i id0 ∉ l.take i → (∀ j < O.length, O.getD j id0 ∈ l) → B i = true := fun h1 h2 => by
    rw [b1, decide_eq_true hd, decide_eq_false h1, Bool.not_false, Bool.true_and, Bool.true_and, List.all_eq_true]
    intro a ha
    obtain ⟨j, hj, e⟩ := List.getElem_of_mem ha
    have := h2 j hj
    rw [show O.getD j id0 = a by simp [hj, e]] at this
    exact decide_eq_true this
   have bz : l.getD i id0 ∈ l.take i → B i = false := fun h1 => by
    rw [b1, decide_eq_true h1]; simp
   clear b1 hB kl hLl
   rw [decide_eq_true hd] at k1
   repeat' (first
    |((first|refine E.c (SCalls.of_le (k3) ?_ ?_)|refine E.q (QCalls.of_le (k3) ?_ ?_));(· (cbv;(try simp only [nc] at *);first|done|(simp;done)|(simp (disch:=(first|omega|(simp only [lnS];omega))) only [rdT,rdS,anT];first|done|omega|(refine ⟨?_,?_⟩<;>omega))|(simp (disch:=(first|omega|(simp only [lnS];omega))) [rdT,rdS];done)));cbv)
    |((first|refine E.c (SCalls.of_le (k2) ?_ ?_)|refine E.q (QCalls.of_le (k2) ?_ ?_));(· (cbv;(try simp only [nc] at *);first|done|(simp;done)|(simp (disch:=(first|omega|(simp only [lnS];omega))) only [rdT,rdS,anT];first|done|omega|(refine ⟨?_,?_⟩<;>omega))|(simp (disch:=(first|omega|(simp only [lnS];omega))) [rdT,rdS];done)));cbv)
    |((first|refine E.c (SCalls.of_le (k1) ?_ ?_)|refine E.q (QCalls.of_le (k1) ?_ ?_));(· (cbv;(try simp only [nc] at *);first|done|(simp;done)|(simp (disch:=(first|omega|(simp only [lnS];omega))) only [rdT,rdS,anT];first|done|omega|(refine ⟨?_,?_⟩<;>omega))|(simp (disch:=(first|omega|(simp only [lnS];omega))) [rdT,rdS];done)));cbv)
    |(refine ⟨fun _ h_s=>?_,fun _ h_s=>?_⟩<;>(cbv;(try simp only [nc] at *);try simp (disch:=(first|omega|(simp only [lnS];omega))) only [rdT,rdS,reduceCtorEq,trT] at h_s))
    |(refine hF ?_;intro _;clear hF)
    |(refine hF ?_;cbv;clear hF)
    |(refine ⟨fun _=>?_,?_⟩;(· ((try simp only [nc] at *);first|done|omega|exact ⟨by omega,rfl⟩|(simp (disch:=(first|omega|(simp only [lnS];omega))) only [rdT,rdS];first|done|omega|rfl|exact ⟨by omega,rfl⟩|(simp;done)|(simp;omega))|(intros;trivial)|exact ⟨by first|trivial|rfl,by first|trivial|rfl|simp,by first|trivial|simp,by simp;omega,by simp;omega,by simp [AV.flat,AV.cells,AV.one]⟩));(try (simp only [nc] at *));(try simp (disch:=(first|omega|(simp only [lnS];omega))) only [rdT,rdS]);(try cbv))
    |(refine E.d 6 (by decide +kernel) ?_;cbv;(fail_if_success guard_target =~ False))
    |(refine E.d 15 (by decide +kernel) ?_;cbv;(fail_if_success guard_target =~ False))
    | fail
   )
   ·exact hno i (by ((try simp only [nc] at *); omega)) (bz (by simpa using h_s))
   ·have hnt : l.getD i id0 ∉ l.take i := by simpa using h_s
    have hb2 := by1 hnt
    clear by1 bz k1 k2 k3
    refine E.loopS (ι:=Nat) (fun k=>k≤O.length∧(∀ j < k,O.getD j id0 ∈ l)) (fun k=>O.length - k) (fun k=>[(8,.i fun _=>((k : Nat) : Int))]) (fun k h=>h) 0 (fun _=>by first|rfl|simp) ⟨Nat.zero_le _,?_⟩ ?_ fun k hk I2 hI2=>?_
    ·intro j hj; omega
    ·cbv; simp
    cbv
    obtain ⟨hk, hpk⟩ := hk
    have ki := kn (O.getD k id0)
    repeat' (first
     |(refine hI (i + 1) ?_ ?_ ?_;rotate_left 1;(· ((try simp only [nc] at *);omega));(cbv;clear hI;(try clear hF);(try simp only [nc] at *);(try simp (disch:=(first|omega|(simp only [lnS];omega))) only [rdT,rdS,anT]));rotate_left 1;(try ((try simp only [nc] at *);omega)))
     |(refine hI2 (k + 1) ?_ ?_ ?_;rotate_left 1;(· ((try simp only [nc] at *);omega));(cbv;clear hI2;(try clear hF);(try simp only [nc] at *);(try simp (disch:=(first|omega|(simp only [lnS];omega))) only [rdT,rdS,anT]));rotate_left 1;(try ((try simp only [nc] at *);omega)))
     |((first|refine E.c (SCalls.of_le (ki) ?_ ?_)|refine E.q (QCalls.of_le (ki) ?_ ?_));(· (cbv;(try simp only [nc] at *);first|done|(simp;done)|(simp (disch:=(first|omega|(simp only [lnS];omega))) only [rdT,rdS,anT];first|done|omega|(refine ⟨?_,?_⟩<;>omega))|(simp (disch:=(first|omega|(simp only [lnS];omega))) [rdT,rdS];done)));cbv)
     |(refine E.c (SCalls.of_le (ki) ?_ ?_);(· (cbv;(try simp only [nc] at *);first|done|(simp;done)|(simp (disch:=(first|omega|(simp only [lnS];omega))) only [rdT,rdS,anT];first|done|omega|(refine ⟨?_,?_⟩<;>omega))|(simp (disch:=(first|omega|(simp only [lnS];omega))) [rdT,rdS];done)));cbv)
     |(refine ⟨fun _ h_s=>?_,fun _ h_s=>?_⟩<;>(cbv;(try simp only [nc] at *);try simp (disch:=(first|omega|(simp only [lnS];omega))) only [rdT,rdS,reduceCtorEq,trT] at h_s))
     |(refine hF ?_;intro _;clear hF)
     |(refine hF ?_;cbv;clear hF)
     |(refine ⟨fun _=>?_,?_⟩;(· ((try simp only [nc] at *);first|done|omega|exact ⟨by omega,rfl⟩|(simp (disch:=(first|omega|(simp only [lnS];omega))) only [rdT,rdS];first|done|omega|rfl|exact ⟨by omega,rfl⟩|(simp;done)|(simp;omega))|(intros;trivial)|exact ⟨by first|trivial|rfl,by first|trivial|rfl|simp,by first|trivial|simp,by simp;omega,by simp;omega,by simp [AV.flat,AV.cells,AV.one]⟩));(try (simp only [nc] at *));(try simp (disch:=(first|omega|(simp only [lnS];omega))) only [rdT,rdS]);(try cbv))
     |(refine E.d 6 (by decide +kernel) ?_;cbv;(fail_if_success guard_target =~ False))
     |(refine E.d 15 (by decide +kernel) ?_;cbv;(fail_if_success guard_target =~ False))
     | fail
    )
    ·exact hno i (by ((try simp only [nc] at *); omega)) (bn k (by ((try simp only [nc] at *); omega)) (by simpa using h_s))
    ·refine ⟨by ((try simp only [nc] at *); omega), fun j hj => ?_⟩
     rcases Nat.lt_or_ge j k with h1 | h1
     ·exact hpk j h1
     ·obtain rfl : j = k := by omega
      simpa using h_s
    ·push_cast; rfl
    ·refine ⟨by ((try simp only [nc] at *); omega), fun j hj => ?_⟩
     rcases Nat.lt_or_ge j i with h1 | h1
     ·exact hp j h1
     ·obtain rfl : j = i := by omega
      exact hb2 fun j hj => hpk j (by ((try simp only [nc] at *); omega))
    ·push_cast; rfl
   ·exact hyes fun j hj => hp j (by ((try simp only [nc] at *); omega))
  ·have b1 : B i = false := by rw [hB, decide_eq_false hd]; rfl
   rw [decide_eq_false hd] at k1
   repeat' (first
    |((first|refine E.c (SCalls.of_le (k2) ?_ ?_)|refine E.q (QCalls.of_le (k2) ?_ ?_));(· (cbv;(try simp only [nc] at *);first|done|(simp;done)|(simp (disch:=(first|omega|(simp only [lnS];omega))) only [rdT,rdS,anT];first|done|omega|(refine ⟨?_,?_⟩<;>omega))|(simp (disch:=(first|omega|(simp only [lnS];omega))) [rdT,rdS];done)));cbv)
    |((first|refine E.c (SCalls.of_le (k1) ?_ ?_)|refine E.q (QCalls.of_le (k1) ?_ ?_));(· (cbv;(try simp only [nc] at *);first|done|(simp;done)|(simp (disch:=(first|omega|(simp only [lnS];omega))) only [rdT,rdS,anT];first|done|omega|(refine ⟨?_,?_⟩<;>omega))|(simp (disch:=(first|omega|(simp only [lnS];omega))) [rdT,rdS];done)));cbv)
    |(refine ⟨fun _ h_s=>?_,fun _ h_s=>?_⟩<;>(cbv;(try simp only [nc] at *);try simp (disch:=(first|omega|(simp only [lnS];omega))) only [rdT,rdS,reduceCtorEq,trT] at h_s))
    |(refine hF ?_;intro _;clear hF)
    |(refine hF ?_;cbv;clear hF)
    |(refine ⟨fun _=>?_,?_⟩;(· ((try simp only [nc] at *);first|done|omega|exact ⟨by omega,rfl⟩|(simp (disch:=(first|omega|(simp only [lnS];omega))) only [rdT,rdS];first|done|omega|rfl|exact ⟨by omega,rfl⟩|(simp;done)|(simp;omega))|(intros;trivial)|exact ⟨by first|trivial|rfl,by first|trivial|rfl|simp,by first|trivial|simp,by simp;omega,by simp;omega,by simp [AV.flat,AV.cells,AV.one]⟩));(try (simp only [nc] at *));(try simp (disch:=(first|omega|(simp only [lnS];omega))) only [rdT,rdS]);(try cbv))
    |(refine E.d 6 (by decide +kernel) ?_;cbv;(fail_if_success guard_target =~ False))
    |(refine E.d 15 (by decide +kernel) ?_;cbv;(fail_if_success guard_target =~ False))
    | fail
   )
   all_goals first
    | exact hno i (by ((try simp only [nc] at *); omega)) b1
    | exact hyes fun j hj => hp j (by ((try simp only [nc] at *); omega))
    | exact absurd h_s (by simp)
    | trace_state
 ·have hm : rclosedM g l = false := by unfold rclosedM; rw [decide_eq_false h]; rfl
  rw [hm]
  have hc : gcheckM g ≠ 0 := by unfold gcheckM; split <;> simp [h]
  refine Pure.go (ty := ty) ty_eq mo Tryz.func46 rfl Tryz.ntmps46 Tryz.results46 Tryz.call46 (by simp) fun P C CQ D W F E hF => ?_
  cbv
  repeat' (first
   |(refine E.c (SCalls.of_le (kc) ?_ ?_);(· (cbv;(try simp only [nc] at *);first|done|(simp;done)|(simp (disch:=(first|omega|(simp only [lnS];omega))) only [rdT,rdS,anT];first|done|omega|(refine ⟨?_,?_⟩<;>omega))|(simp (disch:=(first|omega|(simp only [lnS];omega))) [rdT,rdS];done)));cbv)
   |(refine ⟨fun _ h_s=>?_,fun _ h_s=>?_⟩<;>(cbv;(try simp only [nc] at *);try simp (disch:=(first|omega|(simp only [lnS];omega))) only [rdT,rdS,reduceCtorEq,trT] at h_s))
   |(refine hF ?_;intro _;clear hF)
   |(refine hF ?_;cbv;clear hF)
   |(refine ⟨fun _=>?_,?_⟩;(· ((try simp only [nc] at *);first|done|omega|exact ⟨by omega,rfl⟩|(simp (disch:=(first|omega|(simp only [lnS];omega))) only [rdT,rdS];first|done|omega|rfl|exact ⟨by omega,rfl⟩|(simp;done)|(simp;omega))|(intros;trivial)|exact ⟨by first|trivial|rfl,by first|trivial|rfl|simp,by first|trivial|simp,by simp;omega,by simp;omega,by simp [AV.flat,AV.cells,AV.one]⟩));(try (simp only [nc] at *));(try simp (disch:=(first|omega|(simp only [lnS];omega))) only [rdT,rdS]);(try cbv))
   |(refine E.d 6 (by decide +kernel) ?_;cbv;(fail_if_success guard_target =~ False))
   |(refine E.d 15 (by decide +kernel) ?_;cbv;(fail_if_success guard_target =~ False))
   | fail
  )
  all_goals first
   | rfl
   | exact absurd trivial h_s
   | (exfalso; ((try simp only [nc] at *); omega))
   | exact absurd h_s hc
   | trace_state
end Go.AL.Rl

namespace Go.AL.Rl
open Go Go.AL Go.Proofs
set_option maxRecDepth 100000
set_option maxHeartbeats 3200000
variable {γ : Nat → Option AV}

theorem rkeep_no (g : Gr) (hg : Rd g) (l : List EId) (hl : (l.length : Int) ≤ 9223372036854775807) (h : closedG g l = false) : Pure Tryz.prog γ false 20 [aGr g, .vs 2 fun _ => ids l] (.tup [aGr gz, .i fun _ => 2]) := by
 have kc := rclosed_ok (γ := γ) g hg l hl
 rw [rclosed_same, h] at kc
 refine Pure.go (ty := ty) ty_eq mo Tryz.func20 rfl Tryz.ntmps20 Tryz.results20 Tryz.call20 (by simp) fun P C CQ D W F E hF => ?_
 cbv
 repeat' (first
  |(refine E.c (SCalls.of_le (kc) ?_ ?_);(· (cbv;(try simp only [nc] at *);first|done|(simp;done)|(simp (disch:=(first|omega|(simp only [lnS];omega))) only [rdT,rdS,anT];first|done|omega|(refine ⟨?_,?_⟩<;>omega))|(simp (disch:=(first|omega|(simp only [lnS];omega))) [rdT,rdS];done)));cbv)
  |(refine ⟨fun _ h_s=>?_,fun _ h_s=>?_⟩<;>(cbv;(try simp only [nc] at *);try simp (disch:=(first|omega|(simp only [lnS];omega))) only [rdT,rdS,reduceCtorEq,trT] at h_s))
  |(refine hF ?_;intro _;clear hF)
  |(refine hF ?_;cbv;clear hF)
  |(refine ⟨fun _=>?_,?_⟩;(· ((try simp only [nc] at *);first|done|omega|exact ⟨by omega,rfl⟩|(simp (disch:=(first|omega|(simp only [lnS];omega))) only [rdT,rdS];first|done|omega|rfl|exact ⟨by omega,rfl⟩|(simp;done)|(simp;omega))|(intros;trivial)));(try (simp only [nc] at *));(try simp (disch:=(first|omega|(simp only [lnS];omega))) only [rdT,rdS]);(try cbv))
  | fail
 )
 all_goals first
  | (exfalso; revert h_s; simp; done)
  | (simp [is, ids, evss, idss, LV.of, LV.l]; done)
theorem rkeep_yes (g : Gr) (hg : Rd g) (l : List EId) (hl : (l.length : Int) ≤ 17592186044416) (h : closedG g l = true) : Pure Tryz.prog γ false 20 [aGr g, .vs 2 fun _ => ids l] (.tup [aGr (keepM g l), .i fun _ => 0]) := by
 have kc := rclosed_ok (γ := γ) g hg l (by omega)
 rw [rclosed_same, h] at kc
 have hgo : GOk g := by
  unfold closedG at h
  rw [Bool.and_eq_true, decide_eq_true_eq] at h
  exact h.1
 have hs := hgo.short
 have hin := hs.init
 have hth := hs.th
 have kst := fun d => rin_ok (γ := γ) l d (by omega)
 refine Pure.goL (ty := ty) ty_eq mo Tryz.func20 rfl Tryz.ntmps20 Tryz.results20 Tryz.call20 (by simp) fun P C CQ D W F E hF => ?_
 refine E.cut 4 (told 126 [(1, .vs 2 fun _ => ids l), (2, .ptr 0 0), (4, .ptr 1 0), (6, .ptr 3 0)] [.box (aGr g), .box (.agg [.nils, .nils, .nils, .nils]), .run 0 1 fun _ => is g.init, .box (.agg [.sl 2 0 1 (fun _ => 0) fun _ => g.init.length, .nils, .nils, .nils])]) (by kernel_rfl) (Nat.zero_le _) (fun I hI => ?_) ?_
 ·cbv
  repeat' (first
   |(refine E.c (SCalls.of_le (kc) ?_ ?_);(· (cbv;(try simp only [nc] at *);first|done|(simp;done)|(simp (disch:=(first|omega|(simp only [lnS];omega))) only [rdT,rdS,anT];first|done|omega|(refine ⟨?_,?_⟩<;>omega))|(simp (disch:=(first|omega|(simp only [lnS];omega))) [rdT,rdS];done)));cbv)
   |(refine ⟨fun _ h_s=>?_,fun _ h_s=>?_⟩<;>(cbv;(try simp only [nc] at *);try simp (disch:=(first|omega|(simp only [lnS];omega))) only [rdT,rdS,reduceCtorEq,trT] at h_s))
   |(refine hF ?_;intro _;clear hF)
   |(refine hF ?_;cbv;clear hF)
   |(refine ⟨fun _=>?_,?_⟩;(· ((try simp only [nc] at *);first|done|omega|exact ⟨by omega,rfl⟩|(simp (disch:=(first|omega|(simp only [lnS];omega))) only [rdT,rdS];first|done|omega|rfl|exact ⟨by omega,rfl⟩|(simp;done)|(simp;omega))|(intros;trivial)));(try (simp only [nc] at *));(try simp (disch:=(first|omega|(simp only [lnS];omega))) only [rdT,rdS]);(try cbv))
   | fail
  )
  ·refine ⟨fun _ => ⟨by simp; omega, by simp; omega, fun v hv => ?_⟩, ?_⟩
   ·unfold is at hv
    rw [LV.l_of] at hv
    obtain ⟨x, _, rfl⟩ := List.mem_map.1 hv
    rfl
   ·refine hI ?_
    cbv
    simp
 clear kc
 obtain ⟨TH, hTH⟩ : ∃ TH : Nat → List (List Ev), ∀ n, TH n = (List.range n).map fun t => keepTh g l t (g.th.getD t []).length := ⟨_, fun _ => rfl⟩
 obtain ⟨FR, hFR⟩ : ∃ FR : Nat → List (List EId), ∀ n, FR n = (List.range n).map fun t => keepFr g l t (g.th.getD t []).length := ⟨_, fun _ => rfl⟩
 have hTH0 : TH 0 = [] := by rw [hTH]; rfl
 have hFR0 : FR 0 = [] := by rw [hFR]; rfl
 have hTHS : ∀ n, TH (n + 1) = TH n ++ [keepTh g l n (g.th.getD n []).length] := fun n => by rw [hTH, hTH, List.range_succ, List.map_append]; rfl
 have hFRS : ∀ n, FR (n + 1) = FR n ++ [keepFr g l n (g.th.getD n []).length] := fun n => by rw [hFR, hFR, List.range_succ, List.map_append]; rfl
 have hTHl : ∀ n, (TH n).length = n := fun n => by rw [hTH]; simp
 have hFRl : ∀ n, (FR n).length = n := fun n => by rw [hFR]; simp
 obtain ⟨EV, hEV⟩ : ∃ EV : Nat → Nat → List Ev, ∀ t i, EV t i = keepTh g l t i := ⟨_, fun _ _ => rfl⟩
 obtain ⟨FE, hFE⟩ : ∃ FE : Nat → Nat → List EId, ∀ t i, FE t i = keepFr g l t i := ⟨_, fun _ _ => rfl⟩
 have hEV0 : ∀ t, EV t 0 = [] := fun t => by rw [hEV]; rfl
 have hFE0 : ∀ t, FE t 0 = [] := fun t => by rw [hFE]; rfl
 have hEVS : ∀ t i, EV t (i + 1) = EV t i ++ if (⟨(t : Int) + 1, (i : Int)⟩ : EId) ∈ l then [(g.th.getD t []).getD i ev0] else [] := fun t i => by rw [hEV, hEV, keepTh_succ]
 have hFES : ∀ t i, FE t (i + 1) = FE t i ++ if (⟨(t : Int) + 1, (i : Int)⟩ : EId) ∈ l then [(g.fr.getD t []).getD i id0] else [] := fun t i => by rw [hFE, hFE, keepFr_succ]
 have hEVl : ∀ t i, (EV t i).length ≤ i := fun t i => by rw [hEV]; unfold keepTh; rw [List.length_map]; exact keepP_len l t i
 have hFEl : ∀ t i, (FE t i).length = (EV t i).length := fun t i => by rw [hFE, hEV]; unfold keepTh keepFr; rw [List.length_map, List.length_map]
 simp only [← hEV, ← hFE] at hTHS hFRS
 obtain ⟨G, hG⟩ : ∃ G : Nat → Nat, ∀ x, G x = x := ⟨_, fun _ => rfl⟩
 have hG0 : G 0 = 0 := hG 0
 have hle := hs.at
 refine E.cut 2 (told 126 [(1, .vs 2 fun _ => ids l), (2, .ptr 0 0), (4, .ptr 1 0), (6, .ptr 3 0)] [.box (aGr g), .box (.agg [.nils, .nils, .nils, .nils]), .run 0 1 fun _ => is g.init, .box (.agg [.sl 2 0 1 (fun _ => 0) fun _ => g.init.length, .vs 1 fun _ => evss (TH g.th.length), .vs 1 fun _ => idss (FR g.th.length), .nils])]) (by kernel_rfl) (Nat.zero_le _) (fun I hI => ?_) ?_
 ·cbv
  repeat' (first
   |(refine ⟨fun _ h_s=>?_,fun _ h_s=>?_⟩<;>(cbv;(try simp only [nc] at *);try simp (disch:=(first|omega|(simp only [lnS];omega))) only [rdT,rdS,reduceCtorEq,trT] at h_s))
   |(refine hF ?_;intro _;clear hF)
   |(refine hF ?_;cbv;clear hF)
   |(refine ⟨fun _=>?_,?_⟩;(· ((try simp only [nc] at *);first|done|omega|exact ⟨by omega,rfl⟩|(simp (disch:=(first|omega|(simp only [lnS];omega))) only [rdT,rdS];first|done|omega|rfl|exact ⟨by omega,rfl⟩|(simp;done)|(simp;omega))|(intros;trivial)));(try (simp only [nc] at *));(try simp (disch:=(first|omega|(simp only [lnS];omega))) only [rdT,rdS]);(try cbv))
   | fail
  )
  refine E.w (AWP.ghostField 3 1 1 rfl rfl ?_)
  refine AWP.ghostField 3 2 1 rfl rfl ?_
  refine E.loopCA (ι := Nat) (fun t => t ≤ g.th.length) (fun t => g.th.length - t) (fun t => [(7, .i fun _ => ((t : Nat) : Int))]) (fun t => [.box (aGr g), .box (.agg [.nils, .nils, .nils, .nils]), .run 0 1 fun _ => is g.init, .box (.agg [.sl 2 0 1 (fun _ => 0) fun _ => g.init.length, .sl 4 (G t) 1 (fun _ => 0) fun _ => t, .sl 5 (G t) 1 (fun _ => 0) fun _ => t, .nils]), .run (G t) 1 fun _ => evss (TH t), .run (G t) 1 fun _ => idss (FR t)]) 0 rfl (fun _ => rfl) (Nat.zero_le _) ?_ fun t ht I2 hI2 => ?_
  ·cbv; simp [hG0, hTH0, hFR0, evss, idss, LV.of]
  refine E.cutI (ι := Unit) 2 (fun _ => t < g.th.length) (fun _ => told 126 [(1, .vs 2 fun _ => ids l), (2, .ptr 0 0), (4, .ptr 1 0), (6, .ptr 3 0), (7, .i fun _ => ((t : Nat) : Int))] [.box (aGr g), .box (.agg [.nils, .nils, .nils, .nils]), .run 0 1 fun _ => is g.init, .box (.agg [.sl 2 0 1 (fun _ => 0) fun _ => g.init.length, .sl 4 (G t) 1 (fun _ => 0) fun _ => t, .sl 5 (G t) 1 (fun _ => 0) fun _ => t, .nils]), .run (G t) 1 fun _ => evss (TH t), .run (G t) 1 fun _ => idss (FR t)]) (by kernel_rfl) (fun _ => Nat.le_refl _) (fun I3 hI3 => ?_) fun _ ht2 => ?_
  ·cbv
   repeat' (first
    |(refine ⟨fun _ h_s=>?_,fun _ h_s=>?_⟩<;>(cbv;(try simp only [nc] at *);try simp (disch:=(first|omega|(simp only [lnS];omega))) only [rdT,rdS,reduceCtorEq,trT] at h_s))
    |(refine hF ?_;intro _;clear hF)
    |(refine hF ?_;cbv;clear hF)
    |(refine ⟨fun _=>?_,?_⟩;(· ((try simp only [nc] at *);first|done|omega|exact ⟨by omega,rfl⟩|(simp (disch:=(first|omega|(simp only [lnS];omega))) only [rdT,rdS];first|done|omega|rfl|exact ⟨by omega,rfl⟩|(simp;done)|(simp;omega))|(intros;trivial)));(try (simp only [nc] at *));(try simp (disch:=(first|omega|(simp only [lnS];omega))) only [rdT,rdS]);(try cbv))
    | fail
   )
   ·refine hI3 () (by ((try simp only [nc] at *); omega)) ?_
    cbv; simp
   ·refine hI ?_
    have e : t = g.th.length := by ((try simp only [nc] at *); omega)
    subst e
    cbv
    have q1 := hTHl g.th.length
    have q2 := hFRl g.th.length
    simp only [evss_len, idss_len, q1, q2]
    simp
    exact ⟨List.take_of_length_le (by simp [q1]), List.take_of_length_le (by simp [q2])⟩
  have hTt := hTHl t
  have hFt := hFRl t
  have hle0 := hle t
  refine AWPl.block ?_
  refine E.cut 4 (told 126 [(1, .vs 2 fun _ => ids l), (2, .ptr 0 0), (4, .ptr 1 0), (6, .ptr 3 0), (7, .i fun _ => ((t : Nat) : Int)), (8, .vs 5 fun _ => evs (EV t (g.th.getD t []).length)), (9, .vs 2 fun _ => ids (FE t (g.th.getD t []).length))] [.box (aGr g), .box (.agg [.nils, .nils, .nils, .nils]), .run 0 1 fun _ => is g.init, .box (.agg [.sl 2 0 1 (fun _ => 0) fun _ => g.init.length, .sl 4 (G t) 1 (fun _ => 0) fun _ => t, .sl 5 (G t) 1 (fun _ => 0) fun _ => t, .nils]), .run (G t) 1 fun _ => evss (TH t), .run (G t) 1 fun _ => idss (FR t)]) (by kernel_rfl) (Nat.le_refl _) (fun I3 hI3 => ?_) (E.blk ?_)
  ·cbv
   repeat' (first
    |(refine ⟨fun _ h_s=>?_,fun _ h_s=>?_⟩<;>(cbv;(try simp only [nc] at *);try simp (disch:=(first|omega|(simp only [lnS];omega))) only [rdT,rdS,reduceCtorEq,trT] at h_s))
    |(refine hF ?_;intro _;clear hF)
    |(refine hF ?_;cbv;clear hF)
    |(refine ⟨fun _=>?_,?_⟩;(· ((try simp only [nc] at *);first|done|omega|exact ⟨by omega,rfl⟩|(simp (disch:=(first|omega|(simp only [lnS];omega))) only [rdT,rdS];first|done|omega|rfl|exact ⟨by omega,rfl⟩|(simp;done)|(simp;omega))|(intros;trivial)));(try (simp only [nc] at *));(try simp (disch:=(first|omega|(simp only [lnS];omega))) only [rdT,rdS]);(try cbv))
    | fail
   )
   refine E.w (AWP.ghostSlot 8 5 rfl (by omega) ?_)
   refine AWP.ghostSlot 9 2 rfl (by omega) ?_
   refine E.loopSA (ι:=Nat) (fun i=>i≤(g.th.getD t []).length) (fun i=>(g.th.getD t []).length - i) (fun i=>[(8,.sl 6 (G (EV t i).length) 5 (fun _=>0) fun _=>(EV t i).length),(9,.sl 7 (G (EV t i).length) 2 (fun _=>0) fun _=>(EV t i).length),(10,.i fun _=>((i : Nat) : Int))]) (fun i h=>(h.set 6 (.run (G (EV t i).length) 5 fun _=>evs (EV t i))).set 7 (.run (G (EV t i).length) 2 fun _=>ids (FE t i))) 0 (fun _=>by first|rfl|simp) (Nat.zero_le _) ?_ fun i hi I4 hI4=>?_
   ·cbv; simp [hG0, hEV0, hFE0, evs, ids, LV.of]
   cbv
   have hfl : g.fr.length = g.th.length := hgo.lfr
   have hfe : (g.fr.getD t []).length = (g.th.getD t []).length := (hgo.events t ht2).1
   have f1 := hEVS t i
   have f2 := hFES t i
   have f3 := hEVl t i
   have f4 := hFEl t i
   have ks := kst ⟨t + 1, i⟩
   skip
   repeat' (first
    |(refine hI4 (i + 1) ?_ ?_ ?_;rotate_left 1;(· ((try simp only [nc] at *);omega));(cbv;clear hI4;(try clear hF);(try simp only [nc] at *);(try simp (disch:=(first|omega|(simp only [lnS];omega))) only [rdT,rdS,anT]));rotate_left 1;(try ((try simp only [nc] at *);omega)))
    |(refine E.de 24 [6,7] [] (by decide +kernel) ?_;cbv;(fail_if_success guard_target =~ False))
    |((first|refine E.c (SCalls.of_le (ks) ?_ ?_)|refine E.q (QCalls.of_le (ks) ?_ ?_));(· (cbv;(try simp only [nc] at *);first|done|(simp;done)|(simp (disch:=(first|omega|(simp only [lnS];omega))) only [rdT,rdS,anT];first|done|omega|(refine ⟨?_,?_⟩<;>omega))|(simp (disch:=(first|omega|(simp only [lnS];omega))) [rdT,rdS];done)));cbv)
    |(refine E.c (SCalls.of_le (ks) ?_ ?_);(· (cbv;(try simp only [nc] at *);first|done|(simp;done)|(simp (disch:=(first|omega|(simp only [lnS];omega))) only [rdT,rdS,anT];first|done|omega|(refine ⟨?_,?_⟩<;>omega))|(simp (disch:=(first|omega|(simp only [lnS];omega))) [rdT,rdS];done)));cbv)
    |(refine ⟨fun _ h_s=>?_,fun _ h_s=>?_⟩<;>(cbv;(try simp only [nc] at *);try simp (disch:=(first|omega|(simp only [lnS];omega))) only [rdT,rdS,reduceCtorEq,trT] at h_s))
    |(refine hF ?_;intro _;clear hF)
    |(refine hF ?_;cbv;clear hF)
    |(refine ⟨fun _=>?_,?_⟩;(· ((try simp only [nc] at *);first|done|omega|exact ⟨by omega,rfl⟩|(simp (disch:=(first|omega|(simp only [lnS];omega))) only [rdT,rdS];first|done|omega|rfl|exact ⟨by omega,rfl⟩|(simp;done)|(simp;omega))|(intros;trivial)|exact ⟨by first|trivial|rfl,by first|trivial|rfl|simp,by first|trivial|(simp;done)|(simp [f4];done)|(simp [*];done),by simp;omega,by simp;omega,by simp [AV.flat,AV.cells,AV.one]⟩));(try (simp only [nc] at *));(try simp (disch:=(first|omega|(simp only [lnS];omega))) only [rdT,rdS]);(try cbv))
    | fail
   )
   ·have hm : (⟨(t : Int) + 1, (i : Int)⟩ : EId) ∈ l := by simpa using h_s
    rw [if_pos hm] at f1 f2
    simp [hG, f1, f2, evs, ids, setAll, AV.nrm, nrms, nrm1]
   ·have hm : (⟨(t : Int) + 1, (i : Int)⟩ : EId) ∉ l := by simpa using h_s
    rw [if_neg hm, List.append_nil] at f1 f2
    simp [f1, f2]
   ·clear hI4
    have e : i = (g.th.getD t []).length := by ((try simp only [nc] at *); omega)
    subst e
    refine hI3 ?_
    cbv
    have q := hFEl t (g.th.getD t []).length
    have q1 : List.take (EV t (g.th.getD t []).length).length (evs (EV t (g.th.getD t []).length)).l = (evs (EV t (g.th.getD t []).length)).l := List.take_of_length_le (by rw [evs_len]; exact Nat.le_refl _)
    have q2 : List.take (EV t (g.th.getD t []).length).length (ids (FE t (g.th.getD t []).length)).l = (ids (FE t (g.th.getD t []).length)).l := List.take_of_length_le (by rw [ids_len, q]; exact Nat.le_refl _)
    simp only [evs_len, ids_len, q, List.drop_zero, q1, q2, and_self, implies_true, Nat.zero_add, Nat.le_refl]
  cbv
  have f1 := hTHS t
  have f2 := hFRS t
  repeat' (first
   |(refine hI2 (t + 1) ?_ ?_ ?_;rotate_left 1;(· ((try simp only [nc] at *);omega));(cbv;clear hI2;(try clear hF);(try simp only [nc] at *);(try simp (disch:=(first|omega|(simp only [lnS];omega))) only [rdT,rdS,anT]));rotate_left 1;(try ((try simp only [nc] at *);omega)))
   |(refine E.de 11 [4,5] [] (by decide +kernel) ?_;cbv;(fail_if_success guard_target =~ False))
   |(refine ⟨fun _ h_s=>?_,fun _ h_s=>?_⟩<;>(cbv;(try simp only [nc] at *);try simp (disch:=(first|omega|(simp only [lnS];omega))) only [rdT,rdS,reduceCtorEq,trT] at h_s))
   |(refine hF ?_;intro _;clear hF)
   |(refine hF ?_;cbv;clear hF)
   |(refine ⟨fun _=>?_,?_⟩;(· ((try simp only [nc] at *);first|done|omega|exact ⟨by omega,rfl⟩|(simp (disch:=(first|omega|(simp only [lnS];omega))) only [rdT,rdS];first|done|omega|rfl|exact ⟨by omega,rfl⟩|(simp;done)|(simp;omega))|(intros;trivial)|exact ⟨by first|trivial|rfl,by first|trivial|rfl|simp,by first|trivial|(simp;done)|(simp [f4];done)|(simp [*];done),by simp;omega,by simp;omega,by simp [AV.flat,AV.cells,AV.one]⟩));(try (simp only [nc] at *));(try simp (disch:=(first|omega|(simp only [lnS];omega))) only [rdT,rdS]);(try cbv))
   | fail
  )
  simp [hG, f1, f2, evss, idss, setAll, AV.nrm, nrms, nrm1]
 have hTHe : TH g.th.length = (keepM g l).th := hTH _
 have hFRe : FR g.th.length = (keepM g l).fr := hFR _
 rw [hTHe, hFRe]
 have hki : (keepM g l).init = g.init := rfl
 obtain ⟨OR, hOR⟩ : ∃ OR : Nat → List (List EId), ∀ n, OR n = (g.ord.take n).map (keepO l) := ⟨_, fun _ => rfl⟩
 obtain ⟨OE, hOE⟩ : ∃ OE : Nat → Nat → List EId, ∀ x i, OE x i = keepO l ((g.ord.getD x []).take i) := ⟨_, fun _ _ => rfl⟩
 have hOR0 : OR 0 = [] := by rw [hOR]; rfl
 have hORS : ∀ n, n < g.ord.length → OR (n + 1) = OR n ++ [OE n (g.ord.getD n []).length] := fun n hn => by rw [hOR, hOR, hOE, take_succ' _ n [] hn, List.map_append, List.take_length]; rfl
 have hORl : ∀ n, n ≤ g.ord.length → (OR n).length = n := fun n hn => by rw [hOR]; simp; omega
 have hORe : OR g.ord.length = (keepM g l).ord := by rw [hOR, List.take_length]; rfl
 have hOE0 : ∀ x, OE x 0 = [] := fun x => by rw [hOE]; rfl
 have hOES : ∀ x i, i < (g.ord.getD x []).length → OE x (i + 1) = OE x i ++ if (g.ord.getD x []).getD i id0 ∈ l then [(g.ord.getD x []).getD i id0] else [] := fun x i hi => by
  rw [hOE, hOE, take_succ' _ i id0 hi]
  unfold keepO
  rw [List.filter_append]
  congr 1
  by_cases h : (g.ord.getD x []).getD i id0 ∈ l
  ·rw [if_pos h, List.filter_cons_of_pos (by simpa using h)]; rfl
  ·rw [if_neg h, List.filter_cons_of_neg (by simpa using h)]; rfl
 have hOEl : ∀ x i, (OE x i).length ≤ i := fun x i => by rw [hOE]; unfold keepO; exact Nat.le_trans (List.length_filter_le _ _) (by simp; omega)
 clear hTH hFR hTH0 hFR0 hTHS hFRS hTHl hFRl hTHe hFRe hEV hFE hEV0 hFE0 hEVS hFES hEVl hFEl
 clear TH FR EV FE
 rw [← hki]
 have hol : g.ord.length ≤ 6 := by have := hgo.lord; omega
 obtain ⟨k, hk⟩ : ∃ k, keepM g l = k := ⟨_, rfl⟩
 rw [hk] at hki hORe ⊢
 have hcn : ∀ x, x < g.ord.length → (g.ord.getD x []).length ≤ 56 := fun x hx => by
  have h1 := hgo.orders x (by rw [← hgo.lord]; exact hx)
  unfold orderedM at h1
  rw [Bool.and_eq_true, decide_eq_true_eq, decide_eq_true_eq] at h1
  have h2 := cntT_le (x : Int) hs.ths
  omega
 refine E.bl ?_
 cbv
 repeat' (first
  |(refine ⟨fun _ h_s=>?_,fun _ h_s=>?_⟩<;>(cbv;(try simp only [nc] at *);try simp (disch:=(first|omega|(simp only [lnS];omega))) only [rdT,rdS,reduceCtorEq,trT] at h_s))
  |(refine hF ?_;intro _;clear hF)
  |(refine hF ?_;cbv;clear hF)
  |(refine ⟨fun _=>?_,?_⟩;(· ((try simp only [nc] at *);first|done|omega|exact ⟨by omega,rfl⟩|(simp (disch:=(first|omega|(simp only [lnS];omega))) only [rdT,rdS];first|done|omega|rfl|exact ⟨by omega,rfl⟩|(simp;done)|(simp;omega))|(intros;trivial)|exact ⟨by first|trivial|rfl,by first|trivial|rfl|simp,by first|trivial|(simp;done)|(simp [f4];done)|(simp [*];done),by simp;omega,by simp;omega,by simp [AV.flat,AV.cells,AV.one]⟩));(try (simp only [nc] at *));(try simp (disch:=(first|omega|(simp only [lnS];omega))) only [rdT,rdS]);(try cbv))
  | fail
 )
 refine E.w (AWP.ghostField 3 3 1 rfl rfl ?_)
 refine E.loopCA (ι := Nat) (fun x => x ≤ g.ord.length) (fun x => g.ord.length - x) (fun x => [(11, .i fun _ => ((x : Nat) : Int))]) (fun x => [.box (aGr g), .box (.agg [.nils, .nils, .nils, .nils]), .run 0 1 fun _ => is k.init, .box (.agg [.sl 2 0 1 (fun _ => 0) fun _ => k.init.length, .vs 1 fun _ => evss k.th, .vs 1 fun _ => idss k.fr, .sl 4 (G x) 1 (fun _ => 0) fun _ => x]), .run (G x) 1 fun _ => idss (OR x)]) 0 rfl (fun _ => rfl) (Nat.zero_le _) ?_ fun x hx I2 hI2 => ?_
 ·cbv; simp [hG0, hOR0, idss, LV.of]
 refine E.cutI (ι := Unit) 2 (fun _ => x < g.ord.length) (fun _ => told 126 [(1, .vs 2 fun _ => ids l), (2, .ptr 0 0), (4, .ptr 1 0), (6, .ptr 3 0), (11, .i fun _ => ((x : Nat) : Int))] [.box (aGr g), .box (.agg [.nils, .nils, .nils, .nils]), .run 0 1 fun _ => is k.init, .box (.agg [.sl 2 0 1 (fun _ => 0) fun _ => k.init.length, .vs 1 fun _ => evss k.th, .vs 1 fun _ => idss k.fr, .sl 4 (G x) 1 (fun _ => 0) fun _ => x]), .run (G x) 1 fun _ => idss (OR x)]) (by kernel_rfl) (fun _ => Nat.le_refl _) (fun I3 hI3 => ?_) fun _ hx2 => ?_
 ·cbv
  repeat' (first
   |(refine ⟨fun _ h_s=>?_,fun _ h_s=>?_⟩<;>(cbv;(try simp only [nc] at *);try simp (disch:=(first|omega|(simp only [lnS];omega))) only [rdT,rdS,reduceCtorEq,trT] at h_s))
   |(refine hF ?_;intro _;clear hF)
   |(refine hF ?_;cbv;clear hF)
   |(refine ⟨fun _=>?_,?_⟩;(· ((try simp only [nc] at *);first|done|omega|exact ⟨by omega,rfl⟩|(simp (disch:=(first|omega|(simp only [lnS];omega))) only [rdT,rdS];first|done|omega|rfl|exact ⟨by omega,rfl⟩|(simp;done)|(simp;omega))|(intros;trivial)|exact ⟨by first|trivial|rfl,by first|trivial|rfl|simp,by first|trivial|(simp;done)|(simp [f4];done)|(simp [*];done),by simp;omega,by simp;omega,by simp [AV.flat,AV.cells,AV.one]⟩));(try (simp only [nc] at *));(try simp (disch:=(first|omega|(simp only [lnS];omega))) only [rdT,rdS]);(try cbv))
   | fail
  )
  ·refine hI3 () (by ((try simp only [nc] at *); omega)) ?_
   cbv; simp
  ·have e : x = g.ord.length := by ((try simp only [nc] at *); omega)
   subst e
   have q1 := hORl g.ord.length (Nat.le_refl _)
   have q2 : List.take g.ord.length (idss (OR g.ord.length)).l = (idss (OR g.ord.length)).l := List.take_of_length_le (by rw [idss_len, q1]; exact Nat.le_refl _)
   cbv
   simp only [hk, ← hORe]
   simp only [idss_len, q1, List.drop_zero, q2]
   simp
   exact List.take_of_length_le (by simp)
 have hOx := hORl x hx
 have hcx := hcn x hx2
 refine AWPl.block ?_
 refine E.cut 3 (told 126 [(1, .vs 2 fun _ => ids l), (2, .ptr 0 0), (4, .ptr 1 0), (6, .ptr 3 0), (11, .i fun _ => ((x : Nat) : Int)), (12, .vs 2 fun _ => ids (OE x (g.ord.getD x []).length))] [.box (aGr g), .box (.agg [.nils, .nils, .nils, .nils]), .run 0 1 fun _ => is k.init, .box (.agg [.sl 2 0 1 (fun _ => 0) fun _ => k.init.length, .vs 1 fun _ => evss k.th, .vs 1 fun _ => idss k.fr, .sl 4 (G x) 1 (fun _ => 0) fun _ => x]), .run (G x) 1 fun _ => idss (OR x)]) (by kernel_rfl) (Nat.le_refl _) (fun I3 hI3 => ?_) (E.blk ?_)
 ·cbv
  repeat' (first
   |(refine ⟨fun _ h_s=>?_,fun _ h_s=>?_⟩<;>(cbv;(try simp only [nc] at *);try simp (disch:=(first|omega|(simp only [lnS];omega))) only [rdT,rdS,reduceCtorEq,trT] at h_s))
   |(refine hF ?_;intro _;clear hF)
   |(refine hF ?_;cbv;clear hF)
   |(refine ⟨fun _=>?_,?_⟩;(· ((try simp only [nc] at *);first|done|omega|exact ⟨by omega,rfl⟩|(simp (disch:=(first|omega|(simp only [lnS];omega))) only [rdT,rdS];first|done|omega|rfl|exact ⟨by omega,rfl⟩|(simp;done)|(simp;omega))|(intros;trivial)|exact ⟨by first|trivial|rfl,by first|trivial|rfl|simp,by first|trivial|(simp;done)|(simp [f4];done)|(simp [*];done),by simp;omega,by simp;omega,by simp [AV.flat,AV.cells,AV.one]⟩));(try (simp only [nc] at *));(try simp (disch:=(first|omega|(simp only [lnS];omega))) only [rdT,rdS]);(try cbv))
   | fail
  )
  refine E.w (AWP.ghostSlot 12 2 rfl (by omega) (E.loopSA (ι := Nat) (fun i => i ≤ (g.ord.getD x []).length) (fun i => (g.ord.getD x []).length - i) (fun i => [(13, .i fun _ => ((i : Nat) : Int)), (12, .sl 5 (G (OE x i).length) 2 (fun _ => 0) fun _ => (OE x i).length)]) (fun i h => h.set 5 (.run (G (OE x i).length) 2 fun _ => ids (OE x i))) 0 (fun _ => by first | rfl | simp) (Nat.zero_le _) ?_ fun i hi I4 hI4 => ?_))
  ·cbv; simp [hG0, hOE0, ids, LV.of]
  cbv
  have f1 := hOES x i
  have f3 := hOEl x i
  have ks := kst ((g.ord.getD x []).getD i id0)
  repeat' (first
   |(refine hI4 (i + 1) ?_ ?_ ?_;rotate_left 1;(· ((try simp only [nc] at *);omega));(cbv;clear hI4;(try clear hF);(try simp only [nc] at *);(try simp (disch:=(first|omega|(simp only [lnS];omega))) only [rdT,rdS,anT]));rotate_left 1;(try ((try simp only [nc] at *);omega)))
   |((first|refine E.c (SCalls.of_le (ks) ?_ ?_)|refine E.q (QCalls.of_le (ks) ?_ ?_));(· (cbv;(try simp only [nc] at *);first|done|(simp;done)|(simp (disch:=(first|omega|(simp only [lnS];omega))) only [rdT,rdS,anT];first|done|omega|(refine ⟨?_,?_⟩<;>omega))|(simp (disch:=(first|omega|(simp only [lnS];omega))) [rdT,rdS];done)));cbv)
   |(refine E.c (SCalls.of_le (ks) ?_ ?_);(· (cbv;(try simp only [nc] at *);first|done|(simp;done)|(simp (disch:=(first|omega|(simp only [lnS];omega))) only [rdT,rdS,anT];first|done|omega|(refine ⟨?_,?_⟩<;>omega))|(simp (disch:=(first|omega|(simp only [lnS];omega))) [rdT,rdS];done)));cbv)
   |(refine ⟨fun _ h_s=>?_,fun _ h_s=>?_⟩<;>(cbv;(try simp only [nc] at *);try simp (disch:=(first|omega|(simp only [lnS];omega))) only [rdT,rdS,reduceCtorEq,trT] at h_s))
   |(refine hF ?_;intro _;clear hF)
   |(refine hF ?_;cbv;clear hF)
   |(refine ⟨fun _=>?_,?_⟩;(· ((try simp only [nc] at *);first|done|omega|exact ⟨by omega,rfl⟩|(simp (disch:=(first|omega|(simp only [lnS];omega))) only [rdT,rdS];first|done|omega|rfl|exact ⟨by omega,rfl⟩|(simp;done)|(simp;omega))|(intros;trivial)|exact ⟨by first|trivial|rfl,by first|trivial|rfl|simp,by first|trivial|(simp;done)|(simp [f4];done)|(simp [*];done),by simp;omega,by simp;omega,by simp [AV.flat,AV.cells,AV.one]⟩));(try (simp only [nc] at *));(try simp (disch:=(first|omega|(simp only [lnS];omega))) only [rdT,rdS]);(try cbv))
   | fail
  )
  ·have hm : (g.ord.getD x []).getD i id0 ∈ l := by simpa using h_s
   rw [f1 (by ((try simp only [nc] at *); omega)), if_pos hm]
   simp [hG, ids, setAll, AV.nrm, nrms, nrm1]
  ·have hm : (g.ord.getD x []).getD i id0 ∉ l := by simpa using h_s
   rw [f1 (by ((try simp only [nc] at *); omega)), if_neg hm, List.append_nil]
   simp
  ·clear hI4
   have e : i = (g.ord.getD x []).length := by ((try simp only [nc] at *); omega)
   subst e
   refine hI3 ?_
   cbv
   have q2 : List.take (OE x (g.ord.getD x []).length).length (ids (OE x (g.ord.getD x []).length)).l = (ids (OE x (g.ord.getD x []).length)).l := List.take_of_length_le (by rw [ids_len]; exact Nat.le_refl _)
   simp only [ids_len, List.drop_zero, q2, and_self, implies_true, Nat.zero_add, Nat.le_refl]
 cbv
 have f1 := hORS x hx2
 repeat' (first
  |(refine hI2 (x + 1) ?_ ?_ ?_;rotate_left 1;(· ((try simp only [nc] at *);omega));(cbv;clear hI2;(try clear hF);(try simp only [nc] at *);(try simp (disch:=(first|omega|(simp only [lnS];omega))) only [rdT,rdS,anT]));rotate_left 1;(try ((try simp only [nc] at *);omega)))
  |(refine ⟨fun _ h_s=>?_,fun _ h_s=>?_⟩<;>(cbv;(try simp only [nc] at *);try simp (disch:=(first|omega|(simp only [lnS];omega))) only [rdT,rdS,reduceCtorEq,trT] at h_s))
  |(refine hF ?_;intro _;clear hF)
  |(refine hF ?_;cbv;clear hF)
  |(refine ⟨fun _=>?_,?_⟩;(· ((try simp only [nc] at *);first|done|omega|exact ⟨by omega,rfl⟩|(simp (disch:=(first|omega|(simp only [lnS];omega))) only [rdT,rdS];first|done|omega|rfl|exact ⟨by omega,rfl⟩|(simp;done)|(simp;omega))|(intros;trivial)|exact ⟨by first|trivial|rfl,by first|trivial|rfl|simp,by first|trivial|(simp;done)|(simp [f4];done)|(simp [*];done),by simp;omega,by simp;omega,by simp [AV.flat,AV.cells,AV.one]⟩));(try (simp only [nc] at *));(try simp (disch:=(first|omega|(simp only [lnS];omega))) only [rdT,rdS]);(try cbv))
  | fail
 )
 simp [hG, f1, idss, setAll, AV.nrm, nrms, nrm1]
theorem rkeep_ok (g : Gr) (hg : Rd g) (l : List EId) (hl : (l.length : Int) ≤ 17592186044416) : Pure Tryz.prog γ false 20 [aGr g, .vs 2 fun _ => ids l] (.tup [aGr (if closedG g l then keepM g l else gz), .i fun _ => if closedG g l then 0 else 2]) := by
 cases h : closedG g l with
 | true => exact rkeep_yes g hg l hl h
 | false => exact rkeep_no g hg l (by omega) h
end Go.AL.Rl

namespace Go.AL.Rl
open Go Go.AL Go.Proofs
set_option maxRecDepth 100000
set_option maxHeartbeats 3200000
variable {γ : Nat → Option AV}

theorem toNat_pred (i : Nat) : (((i + 1 : Nat) : Int) - 1).toNat = i := by omega
theorem r18check_ok (s : Sta) (hg : Rd s.g) (hm : (s.ms.length : Int) ≤ 9223372036854775807) : Pure Tryz.prog γ false 9 [aSt s] (.i fun _ => pcheckM s) := by
 have kg := check14_ok (γ := γ) s.g hg
 by_cases hgo : GOk s.g
 ·have km := rmarks_ok (γ := γ) s.g hg hgo
  have kw := fun d => rwhen_ok (γ := γ) s d hm
  rw [gcheck0 hgo] at kg
  have hs := hgo.short
  have hth := hs.th
  have hle := hs.at (s.half - 1).toNat
  have hml : (allN s.g).length ≤ 112 := by
   have := rmks_len s.g _ (Nat.le_refl _)
   rw [rmks_all] at this
   have := idsT_short hs
   omega
  have hnm : rmarkedM s.g s.ms = false → pcheckM s = 2 := fun h => if_neg fun x => by rw [rmarked_same] at h; rw [x.2.1] at h; cases h
  have hn1 : (allN s.g).length ≠ s.ms.length → pcheckM s = 2 := fun h => hnm (by unfold rmarkedM; rw [decide_eq_false h]; rfl)
  have hn2 : ∀ i, i < (allN s.g).length → rmarkB s.ms (allN s.g) i = false → pcheckM s = 2 := fun i hi h => hnm (by
   unfold rmarkedM
   rw [decide_eq_false (p := ∀ i < (allN s.g).length, rmarkB s.ms (allN s.g) i = true) (fun x => by rw [x i hi] at h; cases h), Bool.and_false])
  have hi := halfOk_iff s
  have hy : (allN s.g).length = s.ms.length → (∀ i, i < (allN s.g).length → rmarkB s.ms (allN s.g) i = true) → pcheckM s = if halfOk s then 0 else 2 := fun h1 h2 => by
   have hmk : markedM s.g s.ms = true := by
    rw [← rmarked_same]; unfold rmarkedM; rw [decide_eq_true h1, decide_eq_true h2]; rfl
   unfold pcheckM SOk; simp [hgo, hmk]
  have hB : ∀ i, rmarkB s.ms (allN s.g) i = (decide (0 ≤ numK s.ms ((allN s.g).getD i mk0)) && !(decide (0 < i) && decide (((allN s.g).getD (i - 1) mk0).id.t = ((allN s.g).getD i mk0).id.t) && decide (numK s.ms ((allN s.g).getD (i - 1) mk0) > numK s.ms ((allN s.g).getD i mk0)))) := fun _ => rfl
  clear hnm
  generalize rmarkB s.ms (allN s.g) = B at *
  generalize allN s.g = M at *
  obtain ⟨Wn, hWn⟩ : ∃ Wn : Mk → Int, ∀ d, Wn d = numK s.ms d := ⟨_, fun _ => rfl⟩
  simp only [← hWn] at kw hB
  clear hWn
  obtain ⟨z, hz⟩ : ∃ z, z = pcheckM s := ⟨_, rfl⟩
  rw [← hz]
  simp only [← hz] at hn1 hn2 hy
  clear hz
  have h2 : M.length = s.ms.length → (∀ i, i < M.length → B i = true) → ¬ (0 ≤ s.half ∧ s.half ≤ s.g.th.length ∧ (s.half = 0 ∨ ((s.g.th.getD (s.half - 1).toNat []).length ≠ 0 ∧ ((s.g.th.getD (s.half - 1).toNat []).getD ((s.g.th.getD (s.half - 1).toNat []).length - 1) ev0).kind = 1))) → 2 = z := fun a b h => by
   rw [hy a b, if_neg]; rwa [hi]
  have h0 : M.length = s.ms.length → (∀ i, i < M.length → B i = true) → (0 ≤ s.half ∧ s.half ≤ s.g.th.length ∧ (s.half = 0 ∨ ((s.g.th.getD (s.half - 1).toNat []).length ≠ 0 ∧ ((s.g.th.getD (s.half - 1).toNat []).getD ((s.g.th.getD (s.half - 1).toNat []).length - 1) ev0).kind = 1))) → 0 = z := fun a b h => by
   rw [hy a b, if_pos]; rwa [hi]
  clear hy hi
  refine Pure.go (ty := ty) ty_eq mo Tryz.func9 rfl Tryz.ntmps9 Tryz.results9 Tryz.call9 (by simp) fun P C CQ D W F E hF => ?_
  cbv
  skip
  repeat' (first
   |(refine E.c (SCalls.of_le (km) ?_ ?_);(· (cbv;(try simp only [nc] at *);first|done|(simp;done)|(simp (disch:=(first|omega|(simp only [lnS,mks_len];omega))) only [rdT,rdS,mks_len,mks_get,anT];first|done|omega|(refine ⟨?_,?_⟩<;>omega))|(simp (disch:=(first|omega|(simp only [lnS,mks_len];omega))) [rdT,rdS,mks_len,mks_get];done)));cbv)
   |(refine E.c (SCalls.of_le (kg) ?_ ?_);(· (cbv;(try simp only [nc] at *);first|done|(simp;done)|(simp (disch:=(first|omega|(simp only [lnS,mks_len];omega))) only [rdT,rdS,mks_len,mks_get,anT];first|done|omega|(refine ⟨?_,?_⟩<;>omega))|(simp (disch:=(first|omega|(simp only [lnS,mks_len];omega))) [rdT,rdS,mks_len,mks_get];done)));cbv)
   |(refine ⟨fun _ h_s=>?_,fun _ h_s=>?_⟩<;>(cbv;(try simp only [nc] at *);try simp (disch:=(first|omega|(simp only [lnS,mks_len];omega))) only [rdT,rdS,mks_len,mks_get,reduceCtorEq,trT] at h_s))
   |(refine hF ?_;intro _;clear hF)
   |(refine hF ?_;cbv;clear hF)
   |(refine ⟨fun _=>?_,?_⟩;(· ((try simp only [nc] at *);first|done|omega|exact ⟨by omega,rfl⟩|(simp (disch:=(first|omega|(simp only [lnS,mks_len];omega))) only [rdT,rdS,mks_len,mks_get];first|done|omega|rfl|exact ⟨by omega,rfl⟩|(simp;done)|(simp;omega))|(intros;trivial)));(try (simp only [nc] at *));(try simp (disch:=(first|omega|(simp only [lnS,mks_len];omega))) only [rdT,rdS,mks_len,mks_get]);(try cbv))
   |(refine E.d 5 (by decide +kernel) ?_;cbv;(fail_if_success guard_target =~ False))
   |(refine E.d 30 (by decide +kernel) ?_;cbv;(fail_if_success guard_target =~ False))
   | fail
  )
  ·exact absurd h_s (by simp)
  ·exact (hn1 (by ((try simp only [nc] at *); omega))).symm
  refine E.loopS (ι:=Nat) (fun i=>i≤M.length∧(∀ k < i,B k = true)) (fun i=>M.length - i) (fun i=>[(4,.i fun _=>((i : Nat) : Int))]) (fun i h=>h) 0 (fun _=>by first|rfl|simp) ⟨Nat.zero_le _,?_⟩ ?_ fun i hi I hI=>?_
  ·intro k hk; omega
  ·cbv; simp
  cbv
  obtain ⟨hi, hp⟩ := hi
  have b1 := hB i
  have kwi := kw (M.getD i mk0)
  have z1 : Wn (M.getD i { id := { t := 0, i := 0 }, w := false }) = Wn (M.getD i mk0) := rfl
  have z2 : (M.getD i { id := { t := 0, i := 0 }, w := false }).id.t = (M.getD i mk0).id.t := rfl
  have z3 : Wn (M.getD (i - 1) { id := { t := 0, i := 0 }, w := false }) = Wn (M.getD (i - 1) mk0) := rfl
  have z4 : (M.getD (i - 1) { id := { t := 0, i := 0 }, w := false }).id.t = (M.getD (i - 1) mk0).id.t := rfl
  have hx : (((s.g.th.getD (s.half - 1).toNat []).length : Int) - 1).toNat = (s.g.th.getD (s.half - 1).toNat []).length - 1 := by omega
  rcases i with _ | i
  ·have b2 : (0 ≤ Wn (M.getD 0 mk0)) → B 0 = true := fun h => by rw [b1, decide_eq_true h]; simp
   have b3 : ¬ (0 ≤ Wn (M.getD 0 mk0)) → B 0 = false := fun h => by rw [b1, decide_eq_false h]; simp
   repeat' (first
    |(refine hI (0 + 1) ?_ ?_ ?_;rotate_left 1;(· ((try simp only [nc] at *);omega));(cbv;clear hI;(try clear hF);(try simp only [nc] at *);(try simp (disch:=(first|omega|(simp only [lnS,mks_len];omega))) only [rdT,rdS,mks_len,mks_get,anT]));rotate_left 1;(try ((try simp only [nc] at *);omega)))
    |((first|refine E.c (SCalls.of_le (kwi) ?_ ?_)|refine E.q (QCalls.of_le (kwi) ?_ ?_));(· (cbv;(try simp only [nc] at *);first|done|(simp;done)|(simp (disch:=(first|omega|(simp only [lnS,mks_len];omega))) only [rdT,rdS,mks_len,mks_get,anT];first|done|omega|(refine ⟨?_,?_⟩<;>omega))|(simp (disch:=(first|omega|(simp only [lnS,mks_len];omega))) [rdT,rdS,mks_len,mks_get];done)));cbv)
    |(refine ⟨fun _ h_s=>?_,fun _ h_s=>?_⟩<;>(cbv;(try simp only [nc] at *);try simp (disch:=(first|omega|(simp only [lnS,mks_len];omega))) only [rdT,rdS,mks_len,mks_get,reduceCtorEq,trT] at h_s))
    |(refine hF ?_;intro _;clear hF)
    |(refine hF ?_;cbv;clear hF)
    |(refine ⟨fun _=>?_,?_⟩;(· ((try simp only [nc] at *);first|done|omega|exact ⟨by omega,rfl⟩|(simp (disch:=(first|omega|(simp only [lnS,mks_len];omega))) only [rdT,rdS,mks_len,mks_get];first|done|omega|rfl|exact ⟨by omega,rfl⟩|(simp;done)|(simp;omega))|(intros;trivial)));(try (simp only [nc] at *));(try simp (disch:=(first|omega|(simp only [lnS,mks_len];omega))) only [rdT,rdS,mks_len,mks_get]);(try cbv))
    |(refine E.d 5 (by decide +kernel) ?_;cbv;(fail_if_success guard_target =~ False))
    |(refine E.d 30 (by decide +kernel) ?_;cbv;(fail_if_success guard_target =~ False))
    | fail
   )
   all_goals (try simp only [hx] at h_s)
   all_goals first
    | (push_cast; rfl)
    | (simp; done)
    | exact (hn2 0 (by ((try simp only [nc] at *); omega)) (b3 (by ((try simp only [nc] at *); omega)))).symm
    | (
      refine ⟨by ((try simp only [nc] at *); omega), fun k hk => ?_⟩; obtain rfl : k = 0 := by omega
      exact b2 (by ((try simp only [nc] at *); omega)))
    | (refine h2 (by ((try simp only [nc] at *); omega)) (fun j hj => hp j (by ((try simp only [nc] at *); omega))) ?_; ((try simp only [nc] at *); omega))
    | (refine h0 (by ((try simp only [nc] at *); omega)) (fun j hj => hp j (by ((try simp only [nc] at *); omega))) ?_; ((try simp only [nc] at *); omega))
    | (exfalso; ((try simp only [nc] at *); omega))
    | trace_state
  ·have kwj := kw (M.getD i mk0)
   rw [Nat.add_sub_cancel] at b1 z3 z4
   have b2 : 0 ≤ Wn (M.getD (i + 1) mk0) → ((M.getD i mk0).id.t = (M.getD (i + 1) mk0).id.t → Wn (M.getD i mk0) ≤ Wn (M.getD (i + 1) mk0)) → B (i + 1) = true := fun h h' => by
    rw [b1, decide_eq_true h, Bool.true_and, Bool.not_eq_true', Bool.and_eq_false_iff]
    by_cases q : (M.getD i mk0).id.t = (M.getD (i + 1) mk0).id.t
    ·exact .inr (decide_eq_false (by have := h' q; omega))
    ·left; rw [decide_eq_false q, Bool.and_false]
   have b3 : (0 ≤ Wn (M.getD (i + 1) mk0) → (M.getD i mk0).id.t = (M.getD (i + 1) mk0).id.t ∧ Wn (M.getD i mk0) > Wn (M.getD (i + 1) mk0)) → B (i + 1) = false := fun h => by
    by_cases q : 0 ≤ Wn (M.getD (i + 1) mk0)
    ·obtain ⟨q1, q2⟩ := h q
     rw [b1, decide_eq_true q, decide_eq_true q1, decide_eq_true q2, decide_eq_true (show 0 < i + 1 by omega)]; rfl
    ·rw [b1, decide_eq_false q]; rfl
   clear b1 hB
   repeat' (first
    |(refine hI (i + 1 + 1) ?_ ?_ ?_;rotate_left 1;(· ((try simp only [nc] at *);omega));(cbv;clear hI;(try clear hF);(try simp only [nc] at *);(try simp (disch:=(first|omega|(simp only [lnS,mks_len];omega))) only [rdT,rdS,mks_len,mks_get,anT]));rotate_left 1;(try ((try simp only [nc] at *);omega)))
    |((first|refine E.c (SCalls.of_le (kwj) ?_ ?_)|refine E.q (QCalls.of_le (kwj) ?_ ?_));(· (cbv;(try simp only [nc] at *);first|done|(simp;done)|(simp (disch:=(first|omega|(simp only [lnS,mks_len];omega))) only [rdT,rdS,mks_len,mks_get,anT];first|done|omega|(refine ⟨?_,?_⟩<;>omega))|(simp (disch:=(first|omega|(simp only [lnS,mks_len];omega))) [rdT,rdS,mks_len,mks_get];done)));cbv)
    |((first|refine E.c (SCalls.of_le (kwi) ?_ ?_)|refine E.q (QCalls.of_le (kwi) ?_ ?_));(· (cbv;(try simp only [nc] at *);first|done|(simp;done)|(simp (disch:=(first|omega|(simp only [lnS,mks_len];omega))) only [rdT,rdS,mks_len,mks_get,anT];first|done|omega|(refine ⟨?_,?_⟩<;>omega))|(simp (disch:=(first|omega|(simp only [lnS,mks_len];omega))) [rdT,rdS,mks_len,mks_get];done)));cbv)
    |(refine ⟨fun _ h_s=>?_,fun _ h_s=>?_⟩<;>(cbv;(try simp only [nc] at *);try simp (disch:=(first|omega|(simp only [lnS,mks_len];omega))) only [rdT,rdS,mks_len,mks_get,reduceCtorEq,trT] at h_s))
    |(refine hF ?_;intro _;clear hF)
    |(refine hF ?_;cbv;clear hF)
    |(refine ⟨fun _=>?_,?_⟩;(· ((try simp only [nc] at *);first|done|omega|exact ⟨by omega,rfl⟩|(simp (disch:=(first|omega|(simp only [lnS,mks_len];omega))) only [rdT,rdS,mks_len,mks_get];first|done|omega|rfl|exact ⟨by omega,rfl⟩|(simp;done)|(simp;omega))|(intros;trivial)));(try (simp only [nc] at *));(try simp (disch:=(first|omega|(simp only [lnS,mks_len];omega))) only [rdT,rdS,mks_len,mks_get]);(try cbv))
    |(refine E.d 5 (by decide +kernel) ?_;cbv;(fail_if_success guard_target =~ False))
    |(refine E.d 30 (by decide +kernel) ?_;cbv;(fail_if_success guard_target =~ False))
    | fail
   )
   all_goals (try simp only [toNat_pred] at *)
   all_goals (try simp only [hx] at h_s)
   all_goals first
    | (push_cast; rfl)
    | (simp; done)
    | exact (hn2 (i + 1) (by ((try simp only [nc] at *); omega)) (b3 (by ((try simp only [nc] at *); omega)))).symm
    | (
      refine ⟨by ((try simp only [nc] at *); omega), fun k hk => ?_⟩
      rcases Nat.lt_or_ge k (i + 1) with h1 | h1
      ·exact hp k h1
      ·obtain rfl : k = i + 1 := by omega
       exact b2 (by ((try simp only [nc] at *); omega)) (by ((try simp only [nc] at *); omega)))
    | (refine h2 (by ((try simp only [nc] at *); omega)) (fun j hj => hp j (by ((try simp only [nc] at *); omega))) ?_; ((try simp only [nc] at *); omega))
    | (refine h0 (by ((try simp only [nc] at *); omega)) (fun j hj => hp j (by ((try simp only [nc] at *); omega))) ?_; ((try simp only [nc] at *); omega))
    | (exfalso; ((try simp only [nc] at *); omega))
    | trace_state
 ·have hc : gcheckM s.g ≠ 0 := by unfold gcheckM; split <;> simp [hgo]
  rw [show pcheckM s = 2 from if_neg fun h => hgo h.1]
  refine Pure.go (ty := ty) ty_eq mo Tryz.func9 rfl Tryz.ntmps9 Tryz.results9 Tryz.call9 (by simp) fun P C CQ D W F E hF => ?_
  cbv
  repeat' (first
   |(refine E.c (SCalls.of_le (kg) ?_ ?_);(· (cbv;(try simp only [nc] at *);first|done|(simp;done)|(simp (disch:=(first|omega|(simp only [lnS,mks_len];omega))) only [rdT,rdS,mks_len,mks_get,anT];first|done|omega|(refine ⟨?_,?_⟩<;>omega))|(simp (disch:=(first|omega|(simp only [lnS,mks_len];omega))) [rdT,rdS,mks_len,mks_get];done)));cbv)
   |(refine ⟨fun _ h_s=>?_,fun _ h_s=>?_⟩<;>(cbv;(try simp only [nc] at *);try simp (disch:=(first|omega|(simp only [lnS,mks_len];omega))) only [rdT,rdS,mks_len,mks_get,reduceCtorEq,trT] at h_s))
   |(refine hF ?_;intro _;clear hF)
   |(refine hF ?_;cbv;clear hF)
   |(refine ⟨fun _=>?_,?_⟩;(· ((try simp only [nc] at *);first|done|omega|exact ⟨by omega,rfl⟩|(simp (disch:=(first|omega|(simp only [lnS,mks_len];omega))) only [rdT,rdS,mks_len,mks_get];first|done|omega|rfl|exact ⟨by omega,rfl⟩|(simp;done)|(simp;omega))|(intros;trivial)));(try (simp only [nc] at *));(try simp (disch:=(first|omega|(simp only [lnS,mks_len];omega))) only [rdT,rdS,mks_len,mks_get]);(try cbv))
   |(refine E.d 5 (by decide +kernel) ?_;cbv;(fail_if_success guard_target =~ False))
   |(refine E.d 30 (by decide +kernel) ?_;cbv;(fail_if_success guard_target =~ False))
   | fail
  )
  all_goals first
   | rfl
   | exact absurd trivial h_s
   | (exfalso; ((try simp only [nc] at *); omega))
   | exact absurd h_s hc
   | trace_state
end Go.AL.Rl

namespace Go.AL.Rl
open Go Go.AL Go.Proofs
set_option maxRecDepth 100000
set_option maxHeartbeats 3200000
variable {γ : Nat → Option AV}

theorem r18cut_ok (s : Sta) (hg : Rd s.g) (hm : (s.ms.length : Int) ≤ 17592186044416) (l : List EId) (hl : (l.length : Int) ≤ 17592186044416) :
  Pure Tryz.prog γ false 7 [aSt s, .vs 2 fun _ => ids l] (.tup [aSt (if SOk s ∧ closedG s.g l = true then cutM s l else sz), .i fun _ => if SOk s ∧ closedG s.g l = true then 0 else 2]) := by
 have kc := r18check_ok (γ := γ) s hg (by omega)
 have kk := rkeep_ok (γ := γ) s.g hg l hl
 by_cases hs : SOk s
 ·rw [show pcheckM s = 0 from if_pos hs] at kc
  by_cases hc : closedG s.g l = true
  ·rw [if_pos ⟨hs, hc⟩, if_pos ⟨hs, hc⟩]
   rw [if_pos hc, if_pos hc] at kk
   rw [← rcut_same hs ((closedG_iff s.g l).1 hc).2]
   have ki := fun d => rin_ok (γ := γ) l d (by omega)
   have hsh := hs.1.short
   have hth := hsh.th
   have hle := hsh.at (s.half - 1).toNat
   have hml : s.ms.length ≤ 112 := by
    have h1 := cntN_le hsh s.g.th.length
    have h2 := ((marked_iff s.g s.ms).1 hs.2.1).1.length_eq
    rw [allN_len] at h2
    omega
   obtain ⟨hh1, hh2, hh3⟩ := (halfOk_iff s).1 hs.2.2
   clear hh3
   obtain ⟨p, hp⟩ : ∃ p : Mk → Bool, p = fun m => decide (m.id ∈ l) := ⟨_, rfl⟩
   have hp2 : ∀ m, p m = decide (m.id ∈ l) := fun m => by rw [hp]
   obtain ⟨M, hM⟩ : ∃ M : Nat → List Mk, ∀ i, M i = (s.ms.take i).filter p := ⟨_, fun _ => rfl⟩
   have hM0 : M 0 = [] := by rw [hM]; rfl
   have hMS : ∀ i, i < s.ms.length → M (i + 1) = M i ++ if p (s.ms.getD i mk0) then [s.ms.getD i mk0] else [] := fun i hi => by
    rw [hM, hM, take_succ' _ i mk0 hi, List.filter_append]
    congr 1
    cases h : p (s.ms.getD i mk0) with
    | true => rw [List.filter_cons_of_pos h]; rfl
    | false => rw [List.filter_cons_of_neg (by rw [h]; simp)]; rfl
   have hMl : ∀ i, (M i).length ≤ i := fun i => by rw [hM]; exact Nat.le_trans (List.length_filter_le _ _) (by simp; omega)
   have hMe : M s.ms.length = (rcutM s l).ms := by rw [hM, List.take_length, hp]; rfl
   have hcg : (rcutM s l).g = keepM s.g l := rfl
   have hch : (rcutM s l).half = if 0 < s.half ∧ (⟨s.half, ((s.g.th.getD (s.half - 1).toNat []).length : Int) - 1⟩ : EId) ∈ l then s.half else 0 := rfl
   have kh := ki ⟨s.half, ((s.g.th.getD (s.half - 1).toNat []).length : Int) - 1⟩
   obtain ⟨z, hz⟩ : ∃ z, z = decide ((⟨s.half, ((s.g.th.getD (s.half - 1).toNat []).length : Int) - 1⟩ : EId) ∈ l) := ⟨_, rfl⟩
   rw [← hz] at kh
   have hch2 : (rcutM s l).half = if 0 < s.half ∧ z = true then s.half else 0 := by rw [hch, hz]; simp only [decide_eq_true_eq]
   clear hch hz
   generalize keepM s.g l = k at *
   generalize rcutM s l = c at *
   clear hp hM
   have hki : ∀ i, Pure Tryz.prog γ false 21 [.vs 2 fun _ => ids l, aId (s.ms.getD i mk0).id] (.b fun _ => p (s.ms.getD i mk0)) := fun i => by rw [hp2]; exact ki _
   clear ki hp2
   have hG : ∃ G : Nat → Nat, ∀ x, G x = x := ⟨_, fun _ => rfl⟩
   obtain ⟨G, hG⟩ := hG
   refine Pure.go (ty := ty) ty_eq mo Tryz.func7 rfl Tryz.ntmps7 Tryz.results7 Tryz.call7 (by simp) fun P C CQ D W F E hF => ?_
   cbv
   skip
   repeat' (first
    |(refine E.c (SCalls.of_le (kk) ?_ ?_);(· (cbv;(try simp only [nc] at *);first|done|(simp;done)|(simp (disch:=(first|omega|(simp only [lnS,mks_len];omega))) only [rdT,rdS,mks_len,mks_get,anT];first|done|omega|(refine ⟨?_,?_⟩<;>omega))|(simp (disch:=(first|omega|(simp only [lnS,mks_len];omega))) [rdT,rdS,mks_len,mks_get];done)));cbv)
    |(refine E.c (SCalls.of_le (kc) ?_ ?_);(· (cbv;(try simp only [nc] at *);first|done|(simp;done)|(simp (disch:=(first|omega|(simp only [lnS,mks_len];omega))) only [rdT,rdS,mks_len,mks_get,anT];first|done|omega|(refine ⟨?_,?_⟩<;>omega))|(simp (disch:=(first|omega|(simp only [lnS,mks_len];omega))) [rdT,rdS,mks_len,mks_get];done)));cbv)
    |(refine ⟨fun _ h_s=>?_,fun _ h_s=>?_⟩<;>(cbv;(try simp only [nc] at *);try simp (disch:=(first|omega|(simp only [lnS,mks_len];omega))) only [rdT,rdS,mks_len,mks_get,reduceCtorEq,trT] at h_s))
    |(refine hF ?_;intro _;clear hF)
    |(refine hF ?_;cbv;clear hF)
    |(refine ⟨fun _=>?_,?_⟩;(· ((try simp only [nc] at *);first|done|omega|exact ⟨by omega,rfl⟩|(simp (disch:=(first|omega|(simp only [lnS,mks_len];omega))) only [rdT,rdS,mks_len,mks_get];first|done|omega|rfl|exact ⟨by omega,rfl⟩|(simp;done)|(simp;omega))|(intros;trivial)));(try (simp only [nc] at *));(try simp (disch:=(first|omega|(simp only [lnS,mks_len];omega))) only [rdT,rdS,mks_len,mks_get]);(try cbv))
    |(refine E.d 8 (by decide +kernel) ?_;cbv;(fail_if_success guard_target =~ False))
    |(refine E.d 18 (by decide +kernel) ?_;cbv;(fail_if_success guard_target =~ False))
    | fail
   )
   ·exact absurd h_s (by simp)
   ·exact absurd h_s (by simp)
   refine E.w (AWP.ghostField 3 4 3 rfl rfl ?_)
   refine E.loopSA (ι:=Nat) (fun x=>x≤s.ms.length) (fun x=>s.ms.length - x) (fun x=>[(9,.i fun _=>((x : Nat) : Int))]) (fun x h=>(h.set 3 (.box (.agg [.vs 1 fun _=>is k.init,.vs 1 fun _=>evss k.th,.vs 1 fun _=>idss k.fr,.vs 1 fun _=>idss k.ord,.sl 4 (G (M x).length) 3 (fun _=>0) fun _=>(M x).length,.lit 0]))).set 4 (.run (G (M x).length) 3 fun _=>mks (M x))) 0 (fun _=>by first|rfl|simp) (Nat.zero_le _) ?_ fun x hx I hI=>?_
   ·cbv; simp [hM0, hG, mks, LV.of]
   cbv
   have e1 := hMS x
   have e2 := hMl x
   have kix := hki x
   skip
   repeat' (first
    |(refine hI (x + 1) ?_ ?_ ?_;rotate_left 1;(· ((try simp only [nc] at *);omega));(cbv;clear hI;(try clear hF);(try simp only [nc] at *);(try simp (disch:=(first|omega|(simp only [lnS,mks_len];omega))) only [rdT,rdS,mks_len,mks_get,anT]));rotate_left 1;(try ((try simp only [nc] at *);omega)))
    |((first|refine E.c (SCalls.of_le (kh) ?_ ?_)|refine E.q (QCalls.of_le (kh) ?_ ?_));(· (cbv;(try simp only [nc] at *);first|done|(simp;done)|(simp (disch:=(first|omega|(simp only [lnS,mks_len];omega))) only [rdT,rdS,mks_len,mks_get,anT];first|done|omega|(refine ⟨?_,?_⟩<;>omega))|(simp (disch:=(first|omega|(simp only [lnS,mks_len];omega))) [rdT,rdS,mks_len,mks_get];done)));cbv)
    |(refine E.c (SCalls.of_le (kix) ?_ ?_);(· (cbv;(try simp only [nc] at *);first|done|(simp;done)|(simp (disch:=(first|omega|(simp only [lnS,mks_len];omega))) only [rdT,rdS,mks_len,mks_get,anT];first|done|omega|(refine ⟨?_,?_⟩<;>omega))|(simp (disch:=(first|omega|(simp only [lnS,mks_len];omega))) [rdT,rdS,mks_len,mks_get];done)));cbv)
    |(refine ⟨fun _ h_s=>?_,fun _ h_s=>?_⟩<;>(cbv;(try simp only [nc] at *);try simp (disch:=(first|omega|(simp only [lnS,mks_len];omega))) only [rdT,rdS,mks_len,mks_get,reduceCtorEq,trT] at h_s))
    |(refine hF ?_;intro _;clear hF)
    |(refine hF ?_;cbv;clear hF)
    |(refine ⟨fun _=>?_,?_⟩;(· ((try simp only [nc] at *);first|done|omega|exact ⟨by omega,rfl⟩|(simp (disch:=(first|omega|(simp only [lnS,mks_len];omega))) only [rdT,rdS,mks_len,mks_get];first|done|omega|rfl|exact ⟨by omega,rfl⟩|(simp;done)|(simp;omega))|(intros;trivial)|exact ⟨by first|trivial|rfl,by first|trivial|rfl|simp,by first|trivial|simp,by simp;omega,by simp;omega,by simp [AV.flat,AV.cells,AV.one]⟩));(try (simp only [nc] at *));(try simp (disch:=(first|omega|(simp only [lnS,mks_len];omega))) only [rdT,rdS,mks_len,mks_get]);(try cbv))
    |(refine E.d 8 (by decide +kernel) ?_;cbv;(fail_if_success guard_target =~ False))
    |(refine E.d 18 (by decide +kernel) ?_;cbv;(fail_if_success guard_target =~ False))
    | fail
   )
   ·rw [e1 (by ((try simp only [nc] at *); omega)), if_pos (by simpa using h_s)]
    simp [hG, mks, setAll, AV.nrm, nrms, nrm1]
   ·rw [e1 (by ((try simp only [nc] at *); omega)), if_neg (by simpa using h_s), List.append_nil]
    simp
   all_goals have e : x = s.ms.length := by ((try simp only [nc] at *); omega)
   all_goals subst e
   all_goals have t1 : List.take (M s.ms.length).length (mks (M s.ms.length)).l = (mks c.ms).l := by rw [List.take_of_length_le (by rw [mks_len]; exact Nat.le_refl _), hMe]
   all_goals simp only [hcg, hch2, mks_len, List.drop_zero, t1, Nat.zero_add, Nat.le_refl, and_self, and_true, true_and, implies_true]
   ·rw [if_pos ⟨by ((try simp only [nc] at *); omega), by assumption⟩]; simp
   all_goals first
    | (rw [if_neg fun h => by (have := h.1; ((try simp only [nc] at *); omega))]; simp; done)
    | (rw [if_neg fun h => by (have := h.2; simp_all)]; simp; done)
    | trace_state
  ·rw [if_neg fun h => hc h.2, if_neg fun h => hc h.2]
   rw [if_neg hc, if_neg hc] at kk
   refine Pure.go (ty := ty) ty_eq mo Tryz.func7 rfl Tryz.ntmps7 Tryz.results7 Tryz.call7 (by simp) fun P C CQ D W F E hF => ?_
   cbv
   repeat' (first
    |(refine E.c (SCalls.of_le (kk) ?_ ?_);(· (cbv;(try simp only [nc] at *);first|done|(simp;done)|(simp (disch:=(first|omega|(simp only [lnS,mks_len];omega))) only [rdT,rdS,mks_len,mks_get,anT];first|done|omega|(refine ⟨?_,?_⟩<;>omega))|(simp (disch:=(first|omega|(simp only [lnS,mks_len];omega))) [rdT,rdS,mks_len,mks_get];done)));cbv)
    |(refine E.c (SCalls.of_le (kc) ?_ ?_);(· (cbv;(try simp only [nc] at *);first|done|(simp;done)|(simp (disch:=(first|omega|(simp only [lnS,mks_len];omega))) only [rdT,rdS,mks_len,mks_get,anT];first|done|omega|(refine ⟨?_,?_⟩<;>omega))|(simp (disch:=(first|omega|(simp only [lnS,mks_len];omega))) [rdT,rdS,mks_len,mks_get];done)));cbv)
    |(refine ⟨fun _ h_s=>?_,fun _ h_s=>?_⟩<;>(cbv;(try simp only [nc] at *);try simp (disch:=(first|omega|(simp only [lnS,mks_len];omega))) only [rdT,rdS,mks_len,mks_get,reduceCtorEq,trT] at h_s))
    |(refine hF ?_;intro _;clear hF)
    |(refine hF ?_;cbv;clear hF)
    |(refine ⟨fun _=>?_,?_⟩;(· ((try simp only [nc] at *);first|done|omega|exact ⟨by omega,rfl⟩|(simp (disch:=(first|omega|(simp only [lnS,mks_len];omega))) only [rdT,rdS,mks_len,mks_get];first|done|omega|rfl|exact ⟨by omega,rfl⟩|(simp;done)|(simp;omega))|(intros;trivial)|exact ⟨by first|trivial|rfl,by first|trivial|rfl|simp,by first|trivial|simp,by simp;omega,by simp;omega,by simp [AV.flat,AV.cells,AV.one]⟩));(try (simp only [nc] at *));(try simp (disch:=(first|omega|(simp only [lnS,mks_len];omega))) only [rdT,rdS,mks_len,mks_get]);(try cbv))
    |(refine E.d 8 (by decide +kernel) ?_;cbv;(fail_if_success guard_target =~ False))
    |(refine E.d 18 (by decide +kernel) ?_;cbv;(fail_if_success guard_target =~ False))
    | fail
   )
   all_goals first
    | (exfalso; revert h_s; simp; done)
    | (simp [is, ids, evss, idss, mks, LV.of, LV.l]; done)
 ·rw [if_neg fun h => hs h.1, if_neg fun h => hs h.1]
  rw [show pcheckM s = 2 from if_neg hs] at kc
  refine Pure.go (ty := ty) ty_eq mo Tryz.func7 rfl Tryz.ntmps7 Tryz.results7 Tryz.call7 (by simp) fun P C CQ D W F E hF => ?_
  cbv
  repeat' (first
   |(refine E.c (SCalls.of_le (kc) ?_ ?_);(· (cbv;(try simp only [nc] at *);first|done|(simp;done)|(simp (disch:=(first|omega|(simp only [lnS,mks_len];omega))) only [rdT,rdS,mks_len,mks_get,anT];first|done|omega|(refine ⟨?_,?_⟩<;>omega))|(simp (disch:=(first|omega|(simp only [lnS,mks_len];omega))) [rdT,rdS,mks_len,mks_get];done)));cbv)
   |(refine ⟨fun _ h_s=>?_,fun _ h_s=>?_⟩<;>(cbv;(try simp only [nc] at *);try simp (disch:=(first|omega|(simp only [lnS,mks_len];omega))) only [rdT,rdS,mks_len,mks_get,reduceCtorEq,trT] at h_s))
   |(refine hF ?_;intro _;clear hF)
   |(refine hF ?_;cbv;clear hF)
   |(refine ⟨fun _=>?_,?_⟩;(· ((try simp only [nc] at *);first|done|omega|exact ⟨by omega,rfl⟩|(simp (disch:=(first|omega|(simp only [lnS,mks_len];omega))) only [rdT,rdS,mks_len,mks_get];first|done|omega|rfl|exact ⟨by omega,rfl⟩|(simp;done)|(simp;omega))|(intros;trivial)|exact ⟨by first|trivial|rfl,by first|trivial|rfl|simp,by first|trivial|simp,by simp;omega,by simp;omega,by simp [AV.flat,AV.cells,AV.one]⟩));(try (simp only [nc] at *));(try simp (disch:=(first|omega|(simp only [lnS,mks_len];omega))) only [rdT,rdS,mks_len,mks_get]);(try cbv))
   |(refine E.d 8 (by decide +kernel) ?_;cbv;(fail_if_success guard_target =~ False))
   |(refine E.d 18 (by decide +kernel) ?_;cbv;(fail_if_success guard_target =~ False))
   | fail
  )
  all_goals first
   | (exfalso; revert h_s; simp; done)
   | (simp [is, ids, evss, idss, mks, LV.of, LV.l]; done)
end Go.AL.Rl

namespace Go.AL.Rl
open Go Go.AL Go.Proofs
set_option maxRecDepth 100000
set_option maxHeartbeats 3200000
variable {γ : Nat → Option AV}

theorem eqMk_ok (a b : List Mk) (ha : (a.length : Int) ≤ 9223372036854775807) : Pure Tryz.prog γ false 29 [.vs 3 fun _ => mks a, .vs 3 fun _ => mks b] (.b fun _ => decide (a = b)) := by
 refine Pure.go (ty := ty) ty_eq mo Tryz.func29 rfl Tryz.ntmps29 Tryz.results29 Tryz.call29 (by simp) fun P C CQ D W F E hF => ?_
 cbv
 skip
 repeat' (first
  |(refine ⟨fun _ h_s=>?_,fun _ h_s=>?_⟩<;>(cbv;(try simp only [nc] at *);try simp (disch:=(first|omega|(simp only [lnS,mks_len];omega))) only [rdT,rdS,mks_len,mks_get,reduceCtorEq,trT] at h_s))
  |(refine hF ?_;intro _;clear hF)
  |(refine hF ?_;cbv;clear hF)
  |(refine ⟨fun _=>?_,?_⟩;(· ((try simp only [nc] at *);first|done|omega|exact ⟨by omega,rfl⟩|(simp (disch:=(first|omega|(simp only [lnS,mks_len];omega))) only [rdT,rdS,mks_len,mks_get];first|done|omega|rfl|exact ⟨by omega,rfl⟩|(simp;done)|(simp;omega))|(intros;trivial)));(try (simp only [nc] at *));(try simp (disch:=(first|omega|(simp only [lnS,mks_len];omega))) only [rdT,rdS,mks_len,mks_get]);(try cbv))
  |(refine E.d 8 (by decide +kernel) ?_;cbv;(fail_if_success guard_target =~ False))
  | fail
 )
 ·simp
  intro e; subst e; simp_all
 ·refine E.loopS (ι:=Nat) (fun i=>i≤a.length∧(∀ k < i,a.getD k mk0 = b.getD k mk0)) (fun i=>a.length - i) (fun i=>[(13,.i fun _=>((i : Nat) : Int))]) (fun i h=>h) 0 (fun _=>by first|rfl|simp) ⟨Nat.zero_le _,?_⟩ ?_ fun i hi I hI=>?_
  ·intro k hk; omega
  ·cbv; simp
  cbv
  obtain ⟨hi, hp⟩ := hi
  repeat' (first
   |(refine hI (i + 1) ?_ ?_ ?_;rotate_left 1;(· ((try simp only [nc] at *);omega));(cbv;clear hI;(try clear hF);(try simp only [nc] at *);(try simp (disch:=(first|omega|(simp only [lnS,mks_len];omega))) only [rdT,rdS,mks_len,mks_get,anT]));rotate_left 1;(try ((try simp only [nc] at *);omega)))
   |(refine ⟨fun _ h_s=>?_,fun _ h_s=>?_⟩<;>(cbv;(try simp only [nc] at *);try simp (disch:=(first|omega|(simp only [lnS,mks_len];omega))) only [rdT,rdS,mks_len,mks_get,reduceCtorEq,trT] at h_s))
   |(refine hF ?_;intro _;clear hF)
   |(refine hF ?_;cbv;clear hF)
   |(refine ⟨fun _=>?_,?_⟩;(· ((try simp only [nc] at *);first|done|omega|exact ⟨by omega,rfl⟩|(simp (disch:=(first|omega|(simp only [lnS,mks_len];omega))) only [rdT,rdS,mks_len,mks_get];first|done|omega|rfl|exact ⟨by omega,rfl⟩|(simp;done)|(simp;omega))|(intros;trivial)));(try (simp only [nc] at *));(try simp (disch:=(first|omega|(simp only [lnS,mks_len];omega))) only [rdT,rdS,mks_len,mks_get]);(try cbv))
   |(refine E.d 8 (by decide +kernel) ?_;cbv;(fail_if_success guard_target =~ False))
   | fail
  )
  ·refine decide_eq_false fun e => ?_
   subst e
   simp at h_s
  ·refine ⟨by ((try simp only [nc] at *); omega), fun k hk => ?_⟩
   rcases Nat.lt_or_ge k i with h1 | h1
   ·exact hp k h1
   ·obtain rfl : k = i := by omega
    exact (mk_iff _ _).2 (by simpa [and_assoc] using h_s)
  ·push_cast; rfl
  ·refine decide_eq_true (List.ext_getElem (by ((try simp only [nc] at *); omega)) fun k h1 h2 => ?_)
   have := hp k (by ((try simp only [nc] at *); omega))
   simpa [h1, h2] using this
theorem eqI_ok (a b : List Int) (ha : (a.length : Int) ≤ 9223372036854775807) : Pure Tryz.prog γ false 30 [.vs 1 fun _ => is a, .vs 1 fun _ => is b] (.b fun _ => decide (a = b)) := by
 refine Pure.go (ty := ty) ty_eq mo Tryz.func30 rfl Tryz.ntmps30 Tryz.results30 Tryz.call30 (by simp) fun P C CQ D W F E hF => ?_
 cbv
 repeat' (first
  |(refine ⟨fun _ h_s=>?_,fun _ h_s=>?_⟩<;>(cbv;(try simp only [nc] at *);try simp (disch:=(first|omega|(simp only [lnS,mks_len];omega))) only [rdT,rdS,mks_len,mks_get,reduceCtorEq,trT] at h_s))
  |(refine hF ?_;intro _;clear hF)
  |(refine hF ?_;cbv;clear hF)
  |(refine ⟨fun _=>?_,?_⟩;(· ((try simp only [nc] at *);first|done|omega|exact ⟨by omega,rfl⟩|(simp (disch:=(first|omega|(simp only [lnS,mks_len];omega))) only [rdT,rdS,mks_len,mks_get];first|done|omega|rfl|exact ⟨by omega,rfl⟩|(simp;done)|(simp;omega))|(intros;trivial)));(try (simp only [nc] at *));(try simp (disch:=(first|omega|(simp only [lnS,mks_len];omega))) only [rdT,rdS,mks_len,mks_get]);(try cbv))
  |(refine E.d 8 (by decide +kernel) ?_;cbv;(fail_if_success guard_target =~ False))
  | fail
 )
 ·simp
  intro e; subst e; simp_all
 ·refine E.loopS (ι:=Nat) (fun i=>i≤a.length∧(∀ k < i,a.getD k 0 = b.getD k 0)) (fun i=>a.length - i) (fun i=>[(13,.i fun _=>((i : Nat) : Int))]) (fun i h=>h) 0 (fun _=>by first|rfl|simp) ⟨Nat.zero_le _,?_⟩ ?_ fun i hi I hI=>?_
  ·intro k hk; omega
  ·cbv; simp
  cbv
  obtain ⟨hi, hp⟩ := hi
  repeat' (first
   |(refine hI (i + 1) ?_ ?_ ?_;rotate_left 1;(· ((try simp only [nc] at *);omega));(cbv;clear hI;(try clear hF);(try simp only [nc] at *);(try simp (disch:=(first|omega|(simp only [lnS,mks_len];omega))) only [rdT,rdS,mks_len,mks_get,anT]));rotate_left 1;(try ((try simp only [nc] at *);omega)))
   |(refine ⟨fun _ h_s=>?_,fun _ h_s=>?_⟩<;>(cbv;(try simp only [nc] at *);try simp (disch:=(first|omega|(simp only [lnS,mks_len];omega))) only [rdT,rdS,mks_len,mks_get,reduceCtorEq,trT] at h_s))
   |(refine hF ?_;intro _;clear hF)
   |(refine hF ?_;cbv;clear hF)
   |(refine ⟨fun _=>?_,?_⟩;(· ((try simp only [nc] at *);first|done|omega|exact ⟨by omega,rfl⟩|(simp (disch:=(first|omega|(simp only [lnS,mks_len];omega))) only [rdT,rdS,mks_len,mks_get];first|done|omega|rfl|exact ⟨by omega,rfl⟩|(simp;done)|(simp;omega))|(intros;trivial)));(try (simp only [nc] at *));(try simp (disch:=(first|omega|(simp only [lnS,mks_len];omega))) only [rdT,rdS,mks_len,mks_get]);(try cbv))
   |(refine E.d 8 (by decide +kernel) ?_;cbv;(fail_if_success guard_target =~ False))
   | fail
  )
  ·refine decide_eq_false fun e => ?_
   subst e
   simp at h_s
  ·refine ⟨by ((try simp only [nc] at *); omega), fun k hk => ?_⟩
   rcases Nat.lt_or_ge k i with h1 | h1
   ·exact hp k h1
   ·obtain rfl : k = i := by omega
    exact by simpa using h_s
  ·push_cast; rfl
  ·refine decide_eq_true (List.ext_getElem (by ((try simp only [nc] at *); omega)) fun k h1 h2 => ?_)
   have := hp k (by ((try simp only [nc] at *); omega))
   simpa [h1, h2] using this
theorem eqEv_ok (a b : List Ev) (ha : (a.length : Int) ≤ 9223372036854775807) : Pure Tryz.prog γ false 32 [.vs 5 fun _ => evs a, .vs 5 fun _ => evs b] (.b fun _ => decide (a = b)) := by
 refine Pure.go (ty := ty) ty_eq mo Tryz.func32 rfl Tryz.ntmps32 Tryz.results32 Tryz.call32 (by simp) fun P C CQ D W F E hF => ?_
 cbv
 repeat' (first
  |(refine ⟨fun _ h_s=>?_,fun _ h_s=>?_⟩<;>(cbv;(try simp only [nc] at *);try simp (disch:=(first|omega|(simp only [lnS,mks_len];omega))) only [rdT,rdS,mks_len,mks_get,reduceCtorEq,trT] at h_s))
  |(refine hF ?_;intro _;clear hF)
  |(refine hF ?_;cbv;clear hF)
  |(refine ⟨fun _=>?_,?_⟩;(· ((try simp only [nc] at *);first|done|omega|exact ⟨by omega,rfl⟩|(simp (disch:=(first|omega|(simp only [lnS,mks_len];omega))) only [rdT,rdS,mks_len,mks_get];first|done|omega|rfl|exact ⟨by omega,rfl⟩|(simp;done)|(simp;omega))|(intros;trivial)));(try (simp only [nc] at *));(try simp (disch:=(first|omega|(simp only [lnS,mks_len];omega))) only [rdT,rdS,mks_len,mks_get]);(try cbv))
  |(refine E.d 8 (by decide +kernel) ?_;cbv;(fail_if_success guard_target =~ False))
  | fail
 )
 ·simp
  intro e; subst e; simp_all
 ·refine E.loopS (ι:=Nat) (fun i=>i≤a.length∧(∀ k < i,a.getD k ev0 = b.getD k ev0)) (fun i=>a.length - i) (fun i=>[(13,.i fun _=>((i : Nat) : Int))]) (fun i h=>h) 0 (fun _=>by first|rfl|simp) ⟨Nat.zero_le _,?_⟩ ?_ fun i hi I hI=>?_
  ·intro k hk; omega
  ·cbv; simp
  cbv
  obtain ⟨hi, hp⟩ := hi
  repeat' (first
   |(refine hI (i + 1) ?_ ?_ ?_;rotate_left 1;(· ((try simp only [nc] at *);omega));(cbv;clear hI;(try clear hF);(try simp only [nc] at *);(try simp (disch:=(first|omega|(simp only [lnS,mks_len];omega))) only [rdT,rdS,mks_len,mks_get,anT]));rotate_left 1;(try ((try simp only [nc] at *);omega)))
   |(refine ⟨fun _ h_s=>?_,fun _ h_s=>?_⟩<;>(cbv;(try simp only [nc] at *);try simp (disch:=(first|omega|(simp only [lnS,mks_len];omega))) only [rdT,rdS,mks_len,mks_get,reduceCtorEq,trT] at h_s))
   |(refine hF ?_;intro _;clear hF)
   |(refine hF ?_;cbv;clear hF)
   |(refine ⟨fun _=>?_,?_⟩;(· ((try simp only [nc] at *);first|done|omega|exact ⟨by omega,rfl⟩|(simp (disch:=(first|omega|(simp only [lnS,mks_len];omega))) only [rdT,rdS,mks_len,mks_get];first|done|omega|rfl|exact ⟨by omega,rfl⟩|(simp;done)|(simp;omega))|(intros;trivial)));(try (simp only [nc] at *));(try simp (disch:=(first|omega|(simp only [lnS,mks_len];omega))) only [rdT,rdS,mks_len,mks_get]);(try cbv))
   |(refine E.d 8 (by decide +kernel) ?_;cbv;(fail_if_success guard_target =~ False))
   | fail
  )
  ·refine decide_eq_false fun e => ?_
   subst e
   simp at h_s
  ·refine ⟨by ((try simp only [nc] at *); omega), fun k hk => ?_⟩
   rcases Nat.lt_or_ge k i with h1 | h1
   ·exact hp k h1
   ·obtain rfl : k = i := by omega
    exact (ev_iff _ _).2 (by simpa [and_assoc] using h_s)
  ·push_cast; rfl
  ·refine decide_eq_true (List.ext_getElem (by ((try simp only [nc] at *); omega)) fun k h1 h2 => ?_)
   have := hp k (by ((try simp only [nc] at *); omega))
   simpa [h1, h2] using this
theorem eqId_ok (a b : List EId) (ha : (a.length : Int) ≤ 9223372036854775807) : Pure Tryz.prog γ false 34 [.vs 2 fun _ => ids a, .vs 2 fun _ => ids b] (.b fun _ => decide (a = b)) := by
 refine Pure.go (ty := ty) ty_eq mo Tryz.func34 rfl Tryz.ntmps34 Tryz.results34 Tryz.call34 (by simp) fun P C CQ D W F E hF => ?_
 cbv
 repeat' (first
  |(refine ⟨fun _ h_s=>?_,fun _ h_s=>?_⟩<;>(cbv;(try simp only [nc] at *);try simp (disch:=(first|omega|(simp only [lnS,mks_len];omega))) only [rdT,rdS,mks_len,mks_get,reduceCtorEq,trT] at h_s))
  |(refine hF ?_;intro _;clear hF)
  |(refine hF ?_;cbv;clear hF)
  |(refine ⟨fun _=>?_,?_⟩;(· ((try simp only [nc] at *);first|done|omega|exact ⟨by omega,rfl⟩|(simp (disch:=(first|omega|(simp only [lnS,mks_len];omega))) only [rdT,rdS,mks_len,mks_get];first|done|omega|rfl|exact ⟨by omega,rfl⟩|(simp;done)|(simp;omega))|(intros;trivial)));(try (simp only [nc] at *));(try simp (disch:=(first|omega|(simp only [lnS,mks_len];omega))) only [rdT,rdS,mks_len,mks_get]);(try cbv))
  |(refine E.d 8 (by decide +kernel) ?_;cbv;(fail_if_success guard_target =~ False))
  | fail
 )
 ·simp
  intro e; subst e; simp_all
 ·refine E.loopS (ι:=Nat) (fun i=>i≤a.length∧(∀ k < i,a.getD k id0 = b.getD k id0)) (fun i=>a.length - i) (fun i=>[(13,.i fun _=>((i : Nat) : Int))]) (fun i h=>h) 0 (fun _=>by first|rfl|simp) ⟨Nat.zero_le _,?_⟩ ?_ fun i hi I hI=>?_
  ·intro k hk; omega
  ·cbv; simp
  cbv
  obtain ⟨hi, hp⟩ := hi
  repeat' (first
   |(refine hI (i + 1) ?_ ?_ ?_;rotate_left 1;(· ((try simp only [nc] at *);omega));(cbv;clear hI;(try clear hF);(try simp only [nc] at *);(try simp (disch:=(first|omega|(simp only [lnS,mks_len];omega))) only [rdT,rdS,mks_len,mks_get,anT]));rotate_left 1;(try ((try simp only [nc] at *);omega)))
   |(refine ⟨fun _ h_s=>?_,fun _ h_s=>?_⟩<;>(cbv;(try simp only [nc] at *);try simp (disch:=(first|omega|(simp only [lnS,mks_len];omega))) only [rdT,rdS,mks_len,mks_get,reduceCtorEq,trT] at h_s))
   |(refine hF ?_;intro _;clear hF)
   |(refine hF ?_;cbv;clear hF)
   |(refine ⟨fun _=>?_,?_⟩;(· ((try simp only [nc] at *);first|done|omega|exact ⟨by omega,rfl⟩|(simp (disch:=(first|omega|(simp only [lnS,mks_len];omega))) only [rdT,rdS,mks_len,mks_get];first|done|omega|rfl|exact ⟨by omega,rfl⟩|(simp;done)|(simp;omega))|(intros;trivial)));(try (simp only [nc] at *));(try simp (disch:=(first|omega|(simp only [lnS,mks_len];omega))) only [rdT,rdS,mks_len,mks_get]);(try cbv))
   |(refine E.d 8 (by decide +kernel) ?_;cbv;(fail_if_success guard_target =~ False))
   | fail
  )
  ·refine decide_eq_false fun e => ?_
   subst e
   simp at h_s
  ·refine ⟨by ((try simp only [nc] at *); omega), fun k hk => ?_⟩
   rcases Nat.lt_or_ge k i with h1 | h1
   ·exact hp k h1
   ·obtain rfl : k = i := by omega
    exact EId.ext' (by simp_all) (by simp_all)
  ·push_cast; rfl
  ·refine decide_eq_true (List.ext_getElem (by ((try simp only [nc] at *); omega)) fun k h1 h2 => ?_)
   have := hp k (by ((try simp only [nc] at *); omega))
   simpa [h1, h2] using this
theorem eqfEv_ok (a b : List (List Ev)) (ha : (a.length : Int) ≤ 9223372036854775807) (he : ∀ x ∈ a, (x.length : Int) ≤ 9223372036854775807) : Pure Tryz.prog γ false 31 [.vs 1 fun _ => evss a, .vs 1 fun _ => evss b, .fn 32 [] []] (.b fun _ => decide (a = b)) := by
 have he2 : ∀ k, ((a.getD k []).length : Int) ≤ 9223372036854775807 := fun k => by
  rcases Nat.lt_or_ge k a.length with h1 | h1
  ·exact he _ (getD_mem h1)
  ·simp [List.getElem?_eq_none h1]
 clear he
 refine Pure.go (ty := ty) ty_eq mo Tryz.func31 rfl Tryz.ntmps31 Tryz.results31 Tryz.call31 (by simp) fun P C CQ D W F E hF => ?_
 cbv
 repeat' (first
  |(refine ⟨fun _ h_s=>?_,fun _ h_s=>?_⟩<;>(cbv;(try simp only [nc] at *);try simp (disch:=(first|omega|(simp only [lnS,mks_len];omega))) only [rdT,rdS,mks_len,mks_get,reduceCtorEq,trT] at h_s))
  |(refine hF ?_;intro _;clear hF)
  |(refine hF ?_;cbv;clear hF)
  |(refine ⟨fun _=>?_,?_⟩;(· ((try simp only [nc] at *);first|done|omega|exact ⟨by omega,rfl⟩|(simp (disch:=(first|omega|(simp only [lnS,mks_len];omega))) only [rdT,rdS,mks_len,mks_get];first|done|omega|rfl|exact ⟨by omega,rfl⟩|(simp;done)|(simp;omega))|(intros;trivial)));(try (simp only [nc] at *));(try simp (disch:=(first|omega|(simp only [lnS,mks_len];omega))) only [rdT,rdS,mks_len,mks_get]);(try cbv))
  | fail
 )
 ·simp
  intro e; subst e; simp_all
 ·refine E.loopS (ι:=Nat) (fun k=>k≤a.length∧(∀ j < k,a.getD j [] = b.getD j [])) (fun k=>a.length - k) (fun k=>[(17,.i fun _=>((k : Nat) : Int))]) (fun k h=>h) 0 (fun _=>by first|rfl|simp) ⟨Nat.zero_le _,?_⟩ ?_ fun k hk I hI=>?_
  ·intro j hj; omega
  ·cbv; simp
  cbv
  obtain ⟨hk, hpk⟩ := hk
  have ke := eqEv_ok (γ := γ) (a.getD k []) (b.getD k []) (he2 k)
  repeat' (first
   |(refine hI (k + 1) ?_ ?_ ?_;rotate_left 1;(· ((try simp only [nc] at *);omega));(cbv;clear hI;(try clear hF);(try simp only [nc] at *);(try simp (disch:=(first|omega|(simp only [lnS,mks_len];omega))) only [rdT,rdS,mks_len,mks_get,anT]));rotate_left 1;(try ((try simp only [nc] at *);omega)))
   |(refine E.c (SCalls.of_le (ke) ?_ ?_);(· (cbv;(try simp only [nc] at *);first|done|(simp;done)|(simp (disch:=(first|omega|(simp only [lnS,mks_len];omega))) only [rdT,rdS,mks_len,mks_get,anT];first|done|omega|(refine ⟨?_,?_⟩<;>omega))|(simp (disch:=(first|omega|(simp only [lnS,mks_len];omega))) [rdT,rdS,mks_len,mks_get];done)));cbv)
   |(refine ⟨fun _ h_s=>?_,fun _ h_s=>?_⟩<;>(cbv;(try simp only [nc] at *);try simp (disch:=(first|omega|(simp only [lnS,mks_len];omega))) only [rdT,rdS,mks_len,mks_get,reduceCtorEq,trT] at h_s))
   |(refine hF ?_;intro _;clear hF)
   |(refine hF ?_;cbv;clear hF)
   |(refine ⟨fun _=>?_,?_⟩;(· ((try simp only [nc] at *);first|done|omega|exact ⟨by omega,rfl⟩|(simp (disch:=(first|omega|(simp only [lnS,mks_len];omega))) only [rdT,rdS,mks_len,mks_get];first|done|omega|rfl|exact ⟨by omega,rfl⟩|(simp;done)|(simp;omega))|(intros;trivial)));(try (simp only [nc] at *));(try simp (disch:=(first|omega|(simp only [lnS,mks_len];omega))) only [rdT,rdS,mks_len,mks_get]);(try cbv))
   | fail
  )
  ·refine decide_eq_false fun e => ?_
   subst e
   simp at h_s
  ·refine ⟨by ((try simp only [nc] at *); omega), fun j hj => ?_⟩
   rcases Nat.lt_or_ge j k with h1 | h1
   ·exact hpk j h1
   ·obtain rfl : j = k := by omega
    simpa using h_s
  ·push_cast; rfl
  ·exact decide_eq_true (list_same _ _ [] (by ((try simp only [nc] at *); omega)) fun j hj => hpk j (by ((try simp only [nc] at *); omega)))
theorem eqfId_ok (a b : List (List EId)) (ha : (a.length : Int) ≤ 9223372036854775807) (he : ∀ x ∈ a, (x.length : Int) ≤ 9223372036854775807) : Pure Tryz.prog γ false 33 [.vs 1 fun _ => idss a, .vs 1 fun _ => idss b, .fn 34 [] []] (.b fun _ => decide (a = b)) := by
 have he2 : ∀ k, ((a.getD k []).length : Int) ≤ 9223372036854775807 := fun k => by
  rcases Nat.lt_or_ge k a.length with h1 | h1
  ·exact he _ (getD_mem h1)
  ·simp [List.getElem?_eq_none h1]
 clear he
 refine Pure.go (ty := ty) ty_eq mo Tryz.func33 rfl Tryz.ntmps33 Tryz.results33 Tryz.call33 (by simp) fun P C CQ D W F E hF => ?_
 cbv
 repeat' (first
  |(refine ⟨fun _ h_s=>?_,fun _ h_s=>?_⟩<;>(cbv;(try simp only [nc] at *);try simp (disch:=(first|omega|(simp only [lnS,mks_len];omega))) only [rdT,rdS,mks_len,mks_get,reduceCtorEq,trT] at h_s))
  |(refine hF ?_;intro _;clear hF)
  |(refine hF ?_;cbv;clear hF)
  |(refine ⟨fun _=>?_,?_⟩;(· ((try simp only [nc] at *);first|done|omega|exact ⟨by omega,rfl⟩|(simp (disch:=(first|omega|(simp only [lnS,mks_len];omega))) only [rdT,rdS,mks_len,mks_get];first|done|omega|rfl|exact ⟨by omega,rfl⟩|(simp;done)|(simp;omega))|(intros;trivial)));(try (simp only [nc] at *));(try simp (disch:=(first|omega|(simp only [lnS,mks_len];omega))) only [rdT,rdS,mks_len,mks_get]);(try cbv))
  | fail
 )
 ·simp
  intro e; subst e; simp_all
 ·refine E.loopS (ι:=Nat) (fun k=>k≤a.length∧(∀ j < k,a.getD j [] = b.getD j [])) (fun k=>a.length - k) (fun k=>[(17,.i fun _=>((k : Nat) : Int))]) (fun k h=>h) 0 (fun _=>by first|rfl|simp) ⟨Nat.zero_le _,?_⟩ ?_ fun k hk I hI=>?_
  ·intro j hj; omega
  ·cbv; simp
  cbv
  obtain ⟨hk, hpk⟩ := hk
  have ke := eqId_ok (γ := γ) (a.getD k []) (b.getD k []) (he2 k)
  repeat' (first
   |(refine hI (k + 1) ?_ ?_ ?_;rotate_left 1;(· ((try simp only [nc] at *);omega));(cbv;clear hI;(try clear hF);(try simp only [nc] at *);(try simp (disch:=(first|omega|(simp only [lnS,mks_len];omega))) only [rdT,rdS,mks_len,mks_get,anT]));rotate_left 1;(try ((try simp only [nc] at *);omega)))
   |(refine E.c (SCalls.of_le (ke) ?_ ?_);(· (cbv;(try simp only [nc] at *);first|done|(simp;done)|(simp (disch:=(first|omega|(simp only [lnS,mks_len];omega))) only [rdT,rdS,mks_len,mks_get,anT];first|done|omega|(refine ⟨?_,?_⟩<;>omega))|(simp (disch:=(first|omega|(simp only [lnS,mks_len];omega))) [rdT,rdS,mks_len,mks_get];done)));cbv)
   |(refine ⟨fun _ h_s=>?_,fun _ h_s=>?_⟩<;>(cbv;(try simp only [nc] at *);try simp (disch:=(first|omega|(simp only [lnS,mks_len];omega))) only [rdT,rdS,mks_len,mks_get,reduceCtorEq,trT] at h_s))
   |(refine hF ?_;intro _;clear hF)
   |(refine hF ?_;cbv;clear hF)
   |(refine ⟨fun _=>?_,?_⟩;(· ((try simp only [nc] at *);first|done|omega|exact ⟨by omega,rfl⟩|(simp (disch:=(first|omega|(simp only [lnS,mks_len];omega))) only [rdT,rdS,mks_len,mks_get];first|done|omega|rfl|exact ⟨by omega,rfl⟩|(simp;done)|(simp;omega))|(intros;trivial)));(try (simp only [nc] at *));(try simp (disch:=(first|omega|(simp only [lnS,mks_len];omega))) only [rdT,rdS,mks_len,mks_get]);(try cbv))
   | fail
  )
  ·refine decide_eq_false fun e => ?_
   subst e
   simp at h_s
  ·refine ⟨by ((try simp only [nc] at *); omega), fun j hj => ?_⟩
   rcases Nat.lt_or_ge j k with h1 | h1
   ·exact hpk j h1
   ·obtain rfl : j = k := by omega
    simpa using h_s
  ·push_cast; rfl
  ·exact decide_eq_true (list_same _ _ [] (by ((try simp only [nc] at *); omega)) fun j hj => hpk j (by ((try simp only [nc] at *); omega)))
theorem cloneEv_ok (l : List Ev) (hl : l.length * 40 ≤ 140737488351232) : Pure Tryz.prog γ false 59 [.vs 5 fun _ => evs l] (.vs 5 fun _ => evs l) := by
 refine Pure.go (ty := ty) ty_eq mo Tryz.func59 rfl Tryz.ntmps59 Tryz.results59 Tryz.call59 (by simp) fun P C CQ D W F E hF => ?_
 cbv
 repeat' (first
  |(refine ⟨fun _ h_s=>?_,fun _ h_s=>?_⟩<;>(cbv;(try simp only [nc] at *);try simp (disch:=(first|omega|(simp only [lnS,mks_len];omega))) only [rdT,rdS,mks_len,mks_get,reduceCtorEq,trT] at h_s))
  |(refine hF ?_;intro _;clear hF)
  |(refine hF ?_;cbv;clear hF)
  |(refine ⟨fun _=>?_,?_⟩;(· ((try simp only [nc] at *);first|done|omega|exact ⟨by omega,rfl⟩|(simp (disch:=(first|omega|(simp only [lnS,mks_len];omega))) only [rdT,rdS,mks_len,mks_get];first|done|omega|rfl|exact ⟨by omega,rfl⟩|(simp;done)|(simp;omega))|(intros;trivial)));(try (simp only [nc] at *));(try simp (disch:=(first|omega|(simp only [lnS,mks_len];omega))) only [rdT,rdS,mks_len,mks_get]);(try cbv))
  | fail
 )
 intro c hc
 cbv
 repeat' (first
  |(refine ⟨fun _ h_s=>?_,fun _ h_s=>?_⟩<;>(cbv;(try simp only [nc] at *);try simp (disch:=(first|omega|(simp only [lnS,mks_len];omega))) only [rdT,rdS,mks_len,mks_get,reduceCtorEq,trT] at h_s))
  |(refine hF ?_;intro _;clear hF)
  |(refine hF ?_;cbv;clear hF)
  |(refine ⟨fun _=>?_,?_⟩;(· ((try simp only [nc] at *);first|done|omega|exact ⟨by omega,rfl⟩|(simp (disch:=(first|omega|(simp only [lnS,mks_len];omega))) only [rdT,rdS,mks_len,mks_get];first|done|omega|rfl|exact ⟨by omega,rfl⟩|(simp;done)|(simp;omega))|(intros;trivial)));(try (simp only [nc] at *));(try simp (disch:=(first|omega|(simp only [lnS,mks_len];omega))) only [rdT,rdS,mks_len,mks_get]);(try cbv))
  | fail
 )
 ·exact hc () (by simpa using h_s)
 ·refine ⟨fun _ => ⟨by simp; omega, by simp; omega, fun v hv => ?_⟩, ?_⟩
  ·unfold evs at hv
   rw [LV.l_of] at hv
   obtain ⟨x, _, rfl⟩ := List.mem_map.1 hv
   rfl
  ·refine hF ?_
   cbv
   intro _
   exact ⟨rfl, by simp, by rw [List.drop_zero, List.take_of_length_le (Nat.le_refl _)]⟩
theorem cloneId_ok (l : List EId) (hl : l.length * 16 ≤ 140737488351232) : Pure Tryz.prog γ false 60 [.vs 2 fun _ => ids l] (.vs 2 fun _ => ids l) := by
 refine Pure.go (ty := ty) ty_eq mo Tryz.func60 rfl Tryz.ntmps60 Tryz.results60 Tryz.call60 (by simp) fun P C CQ D W F E hF => ?_
 cbv
 repeat' (first
  |(refine ⟨fun _ h_s=>?_,fun _ h_s=>?_⟩<;>(cbv;(try simp only [nc] at *);try simp (disch:=(first|omega|(simp only [lnS,mks_len];omega))) only [rdT,rdS,mks_len,mks_get,reduceCtorEq,trT] at h_s))
  |(refine hF ?_;intro _;clear hF)
  |(refine hF ?_;cbv;clear hF)
  |(refine ⟨fun _=>?_,?_⟩;(· ((try simp only [nc] at *);first|done|omega|exact ⟨by omega,rfl⟩|(simp (disch:=(first|omega|(simp only [lnS,mks_len];omega))) only [rdT,rdS,mks_len,mks_get];first|done|omega|rfl|exact ⟨by omega,rfl⟩|(simp;done)|(simp;omega))|(intros;trivial)));(try (simp only [nc] at *));(try simp (disch:=(first|omega|(simp only [lnS,mks_len];omega))) only [rdT,rdS,mks_len,mks_get]);(try cbv))
  | fail
 )
 intro c hc
 cbv
 repeat' (first
  |(refine ⟨fun _ h_s=>?_,fun _ h_s=>?_⟩<;>(cbv;(try simp only [nc] at *);try simp (disch:=(first|omega|(simp only [lnS,mks_len];omega))) only [rdT,rdS,mks_len,mks_get,reduceCtorEq,trT] at h_s))
  |(refine hF ?_;intro _;clear hF)
  |(refine hF ?_;cbv;clear hF)
  |(refine ⟨fun _=>?_,?_⟩;(· ((try simp only [nc] at *);first|done|omega|exact ⟨by omega,rfl⟩|(simp (disch:=(first|omega|(simp only [lnS,mks_len];omega))) only [rdT,rdS,mks_len,mks_get];first|done|omega|rfl|exact ⟨by omega,rfl⟩|(simp;done)|(simp;omega))|(intros;trivial)));(try (simp only [nc] at *));(try simp (disch:=(first|omega|(simp only [lnS,mks_len];omega))) only [rdT,rdS,mks_len,mks_get]);(try cbv))
  | fail
 )
 ·exact hc () (by simpa using h_s)
 ·refine ⟨fun _ => ⟨by simp; omega, by simp; omega, fun v hv => ?_⟩, ?_⟩
  ·unfold ids at hv
   rw [LV.l_of] at hv
   obtain ⟨x, _, rfl⟩ := List.mem_map.1 hv
   rfl
  ·refine hF ?_
   cbv
   intro _
   exact ⟨rfl, by simp, by rw [List.drop_zero, List.take_of_length_le (Nat.le_refl _)]⟩
theorem cloneMk_ok (l : List Mk) (hl : l.length * 24 ≤ 140737488351232) : Pure Tryz.prog γ false 38 [.vs 3 fun _ => mks l] (.vs 3 fun _ => mks l) := by
 refine Pure.go (ty := ty) ty_eq mo Tryz.func38 rfl Tryz.ntmps38 Tryz.results38 Tryz.call38 (by simp) fun P C CQ D W F E hF => ?_
 cbv
 skip
 repeat' (first
  |(refine ⟨fun _ h_s=>?_,fun _ h_s=>?_⟩<;>(cbv;(try simp only [nc] at *);try simp (disch:=(first|omega|(simp only [lnS,mks_len,mks_len];omega))) only [rdT,rdS,mks_len,mks_get,mks_len,mks_get,reduceCtorEq,trT] at h_s))
  |(refine hF ?_;intro _;clear hF)
  |(refine hF ?_;cbv;clear hF)
  |(refine ⟨fun _=>?_,?_⟩;(· ((try simp only [nc] at *);first|done|omega|exact ⟨by omega,rfl⟩|(simp (disch:=(first|omega|(simp only [lnS,mks_len,mks_len];omega))) only [rdT,rdS,mks_len,mks_get,mks_len,mks_get];first|done|omega|rfl|exact ⟨by omega,rfl⟩|(simp;done)|(simp;omega))|(intros;trivial)));(try (simp only [nc] at *));(try simp (disch:=(first|omega|(simp only [lnS,mks_len,mks_len];omega))) only [rdT,rdS,mks_len,mks_get,mks_len,mks_get]);(try cbv))
  | fail
 )
 intro c hc
 cbv
 repeat' (first
  |(refine ⟨fun _ h_s=>?_,fun _ h_s=>?_⟩<;>(cbv;(try simp only [nc] at *);try simp (disch:=(first|omega|(simp only [lnS,mks_len,mks_len];omega))) only [rdT,rdS,mks_len,mks_get,mks_len,mks_get,reduceCtorEq,trT] at h_s))
  |(refine hF ?_;intro _;clear hF)
  |(refine hF ?_;cbv;clear hF)
  |(refine ⟨fun _=>?_,?_⟩;(· ((try simp only [nc] at *);first|done|omega|exact ⟨by omega,rfl⟩|(simp (disch:=(first|omega|(simp only [lnS,mks_len,mks_len];omega))) only [rdT,rdS,mks_len,mks_get,mks_len,mks_get];first|done|omega|rfl|exact ⟨by omega,rfl⟩|(simp;done)|(simp;omega))|(intros;trivial)));(try (simp only [nc] at *));(try simp (disch:=(first|omega|(simp only [lnS,mks_len,mks_len];omega))) only [rdT,rdS,mks_len,mks_get,mks_len,mks_get]);(try cbv))
  | fail
 )
 ·exact hc () (by simpa using h_s)
 ·refine ⟨fun _ => ⟨by simp; omega, by simp; omega, fun v hv => ?_⟩, ?_⟩
  ·unfold mks at hv
   rw [LV.l_of] at hv
   obtain ⟨x, _, rfl⟩ := List.mem_map.1 hv
   rfl
  ·refine hF ?_
   cbv
   intro _
   exact ⟨rfl, by simp, by rw [List.drop_zero, List.take_of_length_le (Nat.le_refl _)]⟩
theorem listsEv_ok (l : List (List Ev)) (hl : l.length * 24 ≤ 140737488351232) (he : ∀ x ∈ l, x.length * 40 ≤ 140737488351232) : Pure Tryz.prog γ false 36 [.vs 1 fun _ => evss l] (.vs 1 fun _ => evss l) := by
 have he2 : ∀ k, (l.getD k []).length * 40 ≤ 140737488351232 := fun k => by
  rcases Nat.lt_or_ge k l.length with h1 | h1
  ·exact he _ (getD_mem h1)
  ·simp [List.getElem?_eq_none h1]
 clear he
 obtain ⟨T, hT⟩ : ∃ T : Nat → List (List Ev), ∀ i, T i = l.take i := ⟨_, fun _ => rfl⟩
 have hT0 : T 0 = [] := by rw [hT]; rfl
 have hTS : ∀ i, i < l.length → T (i + 1) = T i ++ [l.getD i []] := fun i hi => by rw [hT, hT, take_succ' _ i [] hi]
 have hTl : ∀ i, i ≤ l.length → (T i).length = i := fun i hi => by rw [hT]; simp; omega
 have hTe : T l.length = l := by rw [hT, List.take_length]
 obtain ⟨G, hG⟩ : ∃ G : Nat → Nat, ∀ x, G x = x := ⟨_, fun _ => rfl⟩
 have hG0 : G 0 = 0 := hG 0
 clear hT
 refine Pure.go (ty := ty) ty_eq mo Tryz.func36 rfl Tryz.ntmps36 Tryz.results36 Tryz.call36 (by simp) fun P C CQ D W F E hF => ?_
 cbv
 repeat' (first
  |(refine ⟨fun _ h_s=>?_,fun _ h_s=>?_⟩<;>(cbv;(try simp only [nc] at *);try simp (disch:=(first|omega|(simp only [lnS,mks_len,mks_len];omega))) only [rdT,rdS,mks_len,mks_get,mks_len,mks_get,reduceCtorEq,trT] at h_s))
  |(refine hF ?_;intro _;clear hF)
  |(refine hF ?_;cbv;clear hF)
  |(refine ⟨fun _=>?_,?_⟩;(· ((try simp only [nc] at *);first|done|omega|exact ⟨by omega,rfl⟩|(simp (disch:=(first|omega|(simp only [lnS,mks_len,mks_len];omega))) only [rdT,rdS,mks_len,mks_get,mks_len,mks_get];first|done|omega|rfl|exact ⟨by omega,rfl⟩|(simp;done)|(simp;omega))|(intros;trivial)));(try (simp only [nc] at *));(try simp (disch:=(first|omega|(simp only [lnS,mks_len,mks_len];omega))) only [rdT,rdS,mks_len,mks_get,mks_len,mks_get]);(try cbv))
  | fail
 )
 refine E.w (AWP.ghostSlot 3 1 rfl (by omega) (E.loopSA (ι := Nat) (fun i => i ≤ l.length) (fun i => l.length - i) (fun i => [(8, .i fun _ => ((i : Nat) : Int)), (3, .sl 0 (G i) 1 (fun _ => 0) fun _ => i)]) (fun i h => h.set 0 (.run (G i) 1 fun _ => evss (T i))) 0 (fun _ => by first | rfl | simp) (Nat.zero_le _) ?_ fun i hi I hI => ?_))
 ·cbv; simp [hT0, hG0, evss, LV.of]
 cbv
 have f1 := hTS i
 have f2 := hTl i hi
 have kc := cloneEv_ok (γ := γ) (l.getD i []) (he2 i)
 skip
 repeat' (first
  |(refine hI (i + 1) ?_ ?_ ?_;rotate_left 1;(· ((try simp only [nc] at *);omega));(cbv;clear hI;(try clear hF);(try simp only [nc] at *);(try simp (disch:=(first|omega|(simp only [lnS,mks_len,mks_len];omega))) only [rdT,rdS,mks_len,mks_get,mks_len,mks_get,anT]));rotate_left 1;(try ((try simp only [nc] at *);omega)))
  |(refine E.c (SCalls.of_le (kc) ?_ ?_);(· (cbv;(try simp only [nc] at *);first|done|(simp;done)|(simp (disch:=(first|omega|(simp only [lnS,mks_len,mks_len];omega))) only [rdT,rdS,mks_len,mks_get,mks_len,mks_get,anT];first|done|omega|(refine ⟨?_,?_⟩<;>omega))|(simp (disch:=(first|omega|(simp only [lnS,mks_len,mks_len];omega))) [rdT,rdS,mks_len,mks_get,mks_len,mks_get];done)));cbv)
  |(refine ⟨fun _ h_s=>?_,fun _ h_s=>?_⟩<;>(cbv;(try simp only [nc] at *);try simp (disch:=(first|omega|(simp only [lnS,mks_len,mks_len];omega))) only [rdT,rdS,mks_len,mks_get,mks_len,mks_get,reduceCtorEq,trT] at h_s))
  |(refine hF ?_;intro _;clear hF)
  |(refine hF ?_;cbv;clear hF)
  |(refine ⟨fun _=>?_,?_⟩;(· ((try simp only [nc] at *);first|done|omega|exact ⟨by omega,rfl⟩|(simp (disch:=(first|omega|(simp only [lnS,mks_len,mks_len];omega))) only [rdT,rdS,mks_len,mks_get,mks_len,mks_get];first|done|omega|rfl|exact ⟨by omega,rfl⟩|(simp;done)|(simp;omega))|(intros;trivial)|exact ⟨by first|trivial|rfl,by first|trivial|rfl|simp,by first|trivial|(simp [f2];done)|(simp;omega),by simp;omega,by simp;omega,by simp [AV.flat,AV.cells,AV.one]⟩));(try (simp only [nc] at *));(try simp (disch:=(first|omega|(simp only [lnS,mks_len,mks_len];omega))) only [rdT,rdS,mks_len,mks_get,mks_len,mks_get]);(try cbv))
  | fail
 )
 ·simp [hG, f1 (by ((try simp only [nc] at *); omega)), evss, setAll, AV.nrm, nrms, nrm1]
 ·have e : i = l.length := by ((try simp only [nc] at *); omega)
  subst e
  have q2 : List.take l.length (evss l).l = (evss l).l := List.take_of_length_le (by simp)
  simp [hTe, q2]
theorem listsId_ok (l : List (List EId)) (hl : l.length * 24 ≤ 140737488351232) (he : ∀ x ∈ l, x.length * 16 ≤ 140737488351232) : Pure Tryz.prog γ false 37 [.vs 1 fun _ => idss l] (.vs 1 fun _ => idss l) := by
 have he2 : ∀ k, (l.getD k []).length * 16 ≤ 140737488351232 := fun k => by
  rcases Nat.lt_or_ge k l.length with h1 | h1
  ·exact he _ (getD_mem h1)
  ·simp [List.getElem?_eq_none h1]
 clear he
 obtain ⟨T, hT⟩ : ∃ T : Nat → List (List EId), ∀ i, T i = l.take i := ⟨_, fun _ => rfl⟩
 have hT0 : T 0 = [] := by rw [hT]; rfl
 have hTS : ∀ i, i < l.length → T (i + 1) = T i ++ [l.getD i []] := fun i hi => by rw [hT, hT, take_succ' _ i [] hi]
 have hTl : ∀ i, i ≤ l.length → (T i).length = i := fun i hi => by rw [hT]; simp; omega
 have hTe : T l.length = l := by rw [hT, List.take_length]
 obtain ⟨G, hG⟩ : ∃ G : Nat → Nat, ∀ x, G x = x := ⟨_, fun _ => rfl⟩
 have hG0 : G 0 = 0 := hG 0
 clear hT
 refine Pure.go (ty := ty) ty_eq mo Tryz.func37 rfl Tryz.ntmps37 Tryz.results37 Tryz.call37 (by simp) fun P C CQ D W F E hF => ?_
 cbv
 repeat' (first
  |(refine ⟨fun _ h_s=>?_,fun _ h_s=>?_⟩<;>(cbv;(try simp only [nc] at *);try simp (disch:=(first|omega|(simp only [lnS,mks_len,mks_len];omega))) only [rdT,rdS,mks_len,mks_get,mks_len,mks_get,reduceCtorEq,trT] at h_s))
  |(refine hF ?_;intro _;clear hF)
  |(refine hF ?_;cbv;clear hF)
  |(refine ⟨fun _=>?_,?_⟩;(· ((try simp only [nc] at *);first|done|omega|exact ⟨by omega,rfl⟩|(simp (disch:=(first|omega|(simp only [lnS,mks_len,mks_len];omega))) only [rdT,rdS,mks_len,mks_get,mks_len,mks_get];first|done|omega|rfl|exact ⟨by omega,rfl⟩|(simp;done)|(simp;omega))|(intros;trivial)|exact ⟨by first|trivial|rfl,by first|trivial|rfl|simp,by first|trivial|(simp [f2];done)|(simp;omega),by simp;omega,by simp;omega,by simp [AV.flat,AV.cells,AV.one]⟩));(try (simp only [nc] at *));(try simp (disch:=(first|omega|(simp only [lnS,mks_len,mks_len];omega))) only [rdT,rdS,mks_len,mks_get,mks_len,mks_get]);(try cbv))
  | fail
 )
 refine E.w (AWP.ghostSlot 3 1 rfl (by omega) (E.loopSA (ι := Nat) (fun i => i ≤ l.length) (fun i => l.length - i) (fun i => [(8, .i fun _ => ((i : Nat) : Int)), (3, .sl 0 (G i) 1 (fun _ => 0) fun _ => i)]) (fun i h => h.set 0 (.run (G i) 1 fun _ => idss (T i))) 0 (fun _ => by first | rfl | simp) (Nat.zero_le _) ?_ fun i hi I hI => ?_))
 ·cbv; simp [hT0, hG0, idss, LV.of]
 cbv
 have f1 := hTS i
 have f2 := hTl i hi
 have kc := cloneId_ok (γ := γ) (l.getD i []) (he2 i)
 repeat' (first
  |(refine hI (i + 1) ?_ ?_ ?_;rotate_left 1;(· ((try simp only [nc] at *);omega));(cbv;clear hI;(try clear hF);(try simp only [nc] at *);(try simp (disch:=(first|omega|(simp only [lnS,mks_len,mks_len];omega))) only [rdT,rdS,mks_len,mks_get,mks_len,mks_get,anT]));rotate_left 1;(try ((try simp only [nc] at *);omega)))
  |(refine E.c (SCalls.of_le (kc) ?_ ?_);(· (cbv;(try simp only [nc] at *);first|done|(simp;done)|(simp (disch:=(first|omega|(simp only [lnS,mks_len,mks_len];omega))) only [rdT,rdS,mks_len,mks_get,mks_len,mks_get,anT];first|done|omega|(refine ⟨?_,?_⟩<;>omega))|(simp (disch:=(first|omega|(simp only [lnS,mks_len,mks_len];omega))) [rdT,rdS,mks_len,mks_get,mks_len,mks_get];done)));cbv)
  |(refine ⟨fun _ h_s=>?_,fun _ h_s=>?_⟩<;>(cbv;(try simp only [nc] at *);try simp (disch:=(first|omega|(simp only [lnS,mks_len,mks_len];omega))) only [rdT,rdS,mks_len,mks_get,mks_len,mks_get,reduceCtorEq,trT] at h_s))
  |(refine hF ?_;intro _;clear hF)
  |(refine hF ?_;cbv;clear hF)
  |(refine ⟨fun _=>?_,?_⟩;(· ((try simp only [nc] at *);first|done|omega|exact ⟨by omega,rfl⟩|(simp (disch:=(first|omega|(simp only [lnS,mks_len,mks_len];omega))) only [rdT,rdS,mks_len,mks_get,mks_len,mks_get];first|done|omega|rfl|exact ⟨by omega,rfl⟩|(simp;done)|(simp;omega))|(intros;trivial)|exact ⟨by first|trivial|rfl,by first|trivial|rfl|simp,by first|trivial|(simp [f2];done)|(simp;omega),by simp;omega,by simp;omega,by simp [AV.flat,AV.cells,AV.one]⟩));(try (simp only [nc] at *));(try simp (disch:=(first|omega|(simp only [lnS,mks_len,mks_len];omega))) only [rdT,rdS,mks_len,mks_get,mks_len,mks_get]);(try cbv))
  | fail
 )
 ·simp [hG, f1 (by ((try simp only [nc] at *); omega)), idss, setAll, AV.nrm, nrms, nrm1]
 ·have e : i = l.length := by ((try simp only [nc] at *); omega)
  subst e
  have q2 : List.take l.length (idss l).l = (idss l).l := List.take_of_length_le (by simp)
  simp [hTe, q2]
/-- what a graph's lists weigh -/
structure RdB (g : Gr) : Prop where
 init : g.init.length * 8 ≤ 140737488351232
 th : g.th.length * 24 ≤ 140737488351232
 fr : g.fr.length * 24 ≤ 140737488351232
 ord : g.ord.length * 24 ≤ 140737488351232
 ths : ∀ l ∈ g.th, l.length * 40 ≤ 140737488351232
 frs : ∀ l ∈ g.fr, l.length * 16 ≤ 140737488351232
 ords : ∀ l ∈ g.ord, l.length * 16 ≤ 140737488351232
theorem pcopy_ok (s : Sta) (hb : RdB s.g) (h5 : s.ms.length * 24 ≤ 140737488351232) : Pure Tryz.prog γ false 14 [aSt s] (aSt s) := by
 have k1 := clone_ok (γ := γ) s.g.init (by have := hb.init; omega)
 have k2 := listsEv_ok (γ := γ) s.g.th hb.th hb.ths
 have k3 := listsId_ok (γ := γ) s.g.fr hb.fr hb.frs
 have k4 := listsId_ok (γ := γ) s.g.ord hb.ord hb.ords
 have k5 := cloneMk_ok (γ := γ) s.ms h5
 clear hb
 refine Pure.go (ty := ty) ty_eq mo Tryz.func14 rfl Tryz.ntmps14 Tryz.results14 Tryz.call14 (by simp) fun P C CQ D W F E hF => ?_
 cbv
 repeat' (first
  |((first|refine E.c (SCalls.of_le (k5) ?_ ?_)|refine E.q (QCalls.of_le (k5) ?_ ?_));(· (cbv;(try simp only [nc] at *);first|done|(simp;done)|(simp (disch:=(first|omega|(simp only [lnS,mks_len,mks_len];omega))) only [rdT,rdS,mks_len,mks_get,mks_len,mks_get,anT];first|done|omega|(refine ⟨?_,?_⟩<;>omega))|(simp (disch:=(first|omega|(simp only [lnS,mks_len,mks_len];omega))) [rdT,rdS,mks_len,mks_get,mks_len,mks_get];done)));cbv)
  |((first|refine E.c (SCalls.of_le (k4) ?_ ?_)|refine E.q (QCalls.of_le (k4) ?_ ?_));(· (cbv;(try simp only [nc] at *);first|done|(simp;done)|(simp (disch:=(first|omega|(simp only [lnS,mks_len,mks_len];omega))) only [rdT,rdS,mks_len,mks_get,mks_len,mks_get,anT];first|done|omega|(refine ⟨?_,?_⟩<;>omega))|(simp (disch:=(first|omega|(simp only [lnS,mks_len,mks_len];omega))) [rdT,rdS,mks_len,mks_get,mks_len,mks_get];done)));cbv)
  |((first|refine E.c (SCalls.of_le (k3) ?_ ?_)|refine E.q (QCalls.of_le (k3) ?_ ?_));(· (cbv;(try simp only [nc] at *);first|done|(simp;done)|(simp (disch:=(first|omega|(simp only [lnS,mks_len,mks_len];omega))) only [rdT,rdS,mks_len,mks_get,mks_len,mks_get,anT];first|done|omega|(refine ⟨?_,?_⟩<;>omega))|(simp (disch:=(first|omega|(simp only [lnS,mks_len,mks_len];omega))) [rdT,rdS,mks_len,mks_get,mks_len,mks_get];done)));cbv)
  |((first|refine E.c (SCalls.of_le (k2) ?_ ?_)|refine E.q (QCalls.of_le (k2) ?_ ?_));(· (cbv;(try simp only [nc] at *);first|done|(simp;done)|(simp (disch:=(first|omega|(simp only [lnS,mks_len,mks_len];omega))) only [rdT,rdS,mks_len,mks_get,mks_len,mks_get,anT];first|done|omega|(refine ⟨?_,?_⟩<;>omega))|(simp (disch:=(first|omega|(simp only [lnS,mks_len,mks_len];omega))) [rdT,rdS,mks_len,mks_get,mks_len,mks_get];done)));cbv)
  |((first|refine E.c (SCalls.of_le (k1) ?_ ?_)|refine E.q (QCalls.of_le (k1) ?_ ?_));(· (cbv;(try simp only [nc] at *);first|done|(simp;done)|(simp (disch:=(first|omega|(simp only [lnS,mks_len,mks_len];omega))) only [rdT,rdS,mks_len,mks_get,mks_len,mks_get,anT];first|done|omega|(refine ⟨?_,?_⟩<;>omega))|(simp (disch:=(first|omega|(simp only [lnS,mks_len,mks_len];omega))) [rdT,rdS,mks_len,mks_get,mks_len,mks_get];done)));cbv)
  |(refine ⟨fun _ h_s=>?_,fun _ h_s=>?_⟩<;>(cbv;(try simp only [nc] at *);try simp (disch:=(first|omega|(simp only [lnS,mks_len,mks_len];omega))) only [rdT,rdS,mks_len,mks_get,mks_len,mks_get,reduceCtorEq,trT] at h_s))
  |(refine hF ?_;intro _;clear hF)
  |(refine hF ?_;cbv;clear hF)
  |(refine ⟨fun _=>?_,?_⟩;(· ((try simp only [nc] at *);first|done|omega|exact ⟨by omega,rfl⟩|(simp (disch:=(first|omega|(simp only [lnS,mks_len,mks_len];omega))) only [rdT,rdS,mks_len,mks_get,mks_len,mks_get];first|done|omega|rfl|exact ⟨by omega,rfl⟩|(simp;done)|(simp;omega))|(intros;trivial)|exact ⟨by first|trivial|rfl,by first|trivial|rfl|simp,by first|trivial|(simp [f2];done)|(simp;omega),by simp;omega,by simp;omega,by simp [AV.flat,AV.cells,AV.one]⟩));(try (simp only [nc] at *));(try simp (disch:=(first|omega|(simp only [lnS,mks_len,mks_len];omega))) only [rdT,rdS,mks_len,mks_get,mks_len,mks_get]);(try cbv))
  |(refine E.d 18 (by decide +kernel) ?_;cbv;(fail_if_success guard_target =~ False))
  | fail
 )
theorem psame_ok (a b : Sta) (ha : Rd a.g) (hm : (a.ms.length : Int) ≤ 9223372036854775807) : Pure Tryz.prog γ false 13 [aSt a, aSt b] (.b fun _ => sameG a.g b.g && decide (a.ms = b.ms) && decide (a.half = b.half)) := by
 have k1 := eqMk_ok (γ := γ) a.ms b.ms hm
 have k2 := eqI_ok (γ := γ) a.g.init b.g.init ha.init
 have k3 := eqfEv_ok (γ := γ) a.g.th b.g.th ha.th ha.ths
 have k4 := eqfId_ok (γ := γ) a.g.fr b.g.fr ha.fr ha.frs
 have k5 := eqfId_ok (γ := γ) a.g.ord b.g.ord ha.ord ha.ords
 have hz : (sameG a.g b.g && decide (a.ms = b.ms) && decide (a.half = b.half)) = (decide (a.half = b.half) && (decide (a.ms = b.ms) && (decide (a.g.init = b.g.init) && (decide (a.g.th = b.g.th) && (decide (a.g.fr = b.g.fr) && decide (a.g.ord = b.g.ord)))))) := by
  unfold sameG
  generalize decide (a.ms = b.ms) = x1
  generalize decide (a.half = b.half) = x2
  generalize decide (a.g.init = b.g.init) = x3
  generalize decide (a.g.th = b.g.th) = x4
  generalize decide (a.g.fr = b.g.fr) = x5
  generalize decide (a.g.ord = b.g.ord) = x6
  revert x1 x2 x3 x4 x5 x6
  decide
 rw [hz]
 clear hz
 generalize decide (a.ms = b.ms) = x1 at *
 generalize decide (a.g.init = b.g.init) = x3 at *
 generalize decide (a.g.th = b.g.th) = x4 at *
 generalize decide (a.g.fr = b.g.fr) = x5 at *
 generalize decide (a.g.ord = b.g.ord) = x6 at *
 refine Pure.go (ty := ty) ty_eq mo Tryz.func13 rfl Tryz.ntmps13 Tryz.results13 Tryz.call13 (by simp) fun P C CQ D W F E hF => ?_
 cbv
 repeat' (first
  |(refine E.c (SCalls.of_le (k5) ?_ ?_);(· (cbv;(try simp only [nc] at *);first|done|(simp;done)|(simp (disch:=(first|omega|(simp only [lnS,mks_len,mks_len];omega))) only [rdT,rdS,mks_len,mks_get,mks_len,mks_get,anT];first|done|omega|(refine ⟨?_,?_⟩<;>omega))|(simp (disch:=(first|omega|(simp only [lnS,mks_len,mks_len];omega))) [rdT,rdS,mks_len,mks_get,mks_len,mks_get];done)));cbv)
  |(refine E.c (SCalls.of_le (k4) ?_ ?_);(· (cbv;(try simp only [nc] at *);first|done|(simp;done)|(simp (disch:=(first|omega|(simp only [lnS,mks_len,mks_len];omega))) only [rdT,rdS,mks_len,mks_get,mks_len,mks_get,anT];first|done|omega|(refine ⟨?_,?_⟩<;>omega))|(simp (disch:=(first|omega|(simp only [lnS,mks_len,mks_len];omega))) [rdT,rdS,mks_len,mks_get,mks_len,mks_get];done)));cbv)
  |(refine E.c (SCalls.of_le (k3) ?_ ?_);(· (cbv;(try simp only [nc] at *);first|done|(simp;done)|(simp (disch:=(first|omega|(simp only [lnS,mks_len,mks_len];omega))) only [rdT,rdS,mks_len,mks_get,mks_len,mks_get,anT];first|done|omega|(refine ⟨?_,?_⟩<;>omega))|(simp (disch:=(first|omega|(simp only [lnS,mks_len,mks_len];omega))) [rdT,rdS,mks_len,mks_get,mks_len,mks_get];done)));cbv)
  |(refine E.c (SCalls.of_le (k2) ?_ ?_);(· (cbv;(try simp only [nc] at *);first|done|(simp;done)|(simp (disch:=(first|omega|(simp only [lnS,mks_len,mks_len];omega))) only [rdT,rdS,mks_len,mks_get,mks_len,mks_get,anT];first|done|omega|(refine ⟨?_,?_⟩<;>omega))|(simp (disch:=(first|omega|(simp only [lnS,mks_len,mks_len];omega))) [rdT,rdS,mks_len,mks_get,mks_len,mks_get];done)));cbv)
  |(refine E.c (SCalls.of_le (k1) ?_ ?_);(· (cbv;(try simp only [nc] at *);first|done|(simp;done)|(simp (disch:=(first|omega|(simp only [lnS,mks_len,mks_len];omega))) only [rdT,rdS,mks_len,mks_get,mks_len,mks_get,anT];first|done|omega|(refine ⟨?_,?_⟩<;>omega))|(simp (disch:=(first|omega|(simp only [lnS,mks_len,mks_len];omega))) [rdT,rdS,mks_len,mks_get,mks_len,mks_get];done)));cbv)
  |(refine E.de 8 [] [none,none] (by decide +kernel) ?_;cbv;(fail_if_success guard_target =~ False))
  |(refine ⟨fun _ h_s=>?_,fun _ h_s=>?_⟩<;>(cbv;(try simp only [nc] at *);try simp (disch:=(first|omega|(simp only [lnS,mks_len,mks_len];omega))) only [rdT,rdS,mks_len,mks_get,mks_len,mks_get,reduceCtorEq,trT] at h_s))
  |(refine hF ?_;intro _;clear hF)
  |(refine hF ?_;cbv;clear hF)
  |(refine ⟨fun _=>?_,?_⟩;(· ((try simp only [nc] at *);first|done|omega|exact ⟨by omega,rfl⟩|(simp (disch:=(first|omega|(simp only [lnS,mks_len,mks_len];omega))) only [rdT,rdS,mks_len,mks_get,mks_len,mks_get];first|done|omega|rfl|exact ⟨by omega,rfl⟩|(simp;done)|(simp;omega))|(intros;trivial)|exact ⟨by first|trivial|rfl,by first|trivial|rfl|simp,by first|trivial|(simp [f2];done)|(simp;omega),by simp;omega,by simp;omega,by simp [AV.flat,AV.cells,AV.one]⟩));(try (simp only [nc] at *));(try simp (disch:=(first|omega|(simp only [lnS,mks_len,mks_len];omega))) only [rdT,rdS,mks_len,mks_get,mks_len,mks_get]);(try cbv))
  | fail
 )
 all_goals (try (simp_all; done))
end Go.AL.Rl

namespace Go.AL.Rl
open Go Go.AL Go.Proofs
set_option maxRecDepth 100000
set_option maxHeartbeats 3200000
variable {γ : Nat → Option AV}

theorem rd_cut (s : Sta) (l : List EId) : Rd (if SOk s ∧ closedG s.g l = true then cutM s l else sz).g := by
 by_cases h : SOk s ∧ closedG s.g l = true
 ·rw [if_pos h]
  exact rd_ok (cut_ok h.1 ((closedG_iff s.g l).1 h.2).2).1
 ·rw [if_neg h]
  refine ⟨by simp, by simp, by simp, by simp, ?_, ?_, ?_⟩ <;> simp
theorem ms_cut (s : Sta) (l : List EId) : (if SOk s ∧ closedG s.g l = true then cutM s l else sz).ms.length ≤ s.ms.length := by
 by_cases h : SOk s ∧ closedG s.g l = true
 ·rw [if_pos h]; exact List.length_filter_le _ _
 ·rw [if_neg h]; simp
theorem prefixStates_ok (hγ : γ 0 = some tabAV) (s t : Sta) (hg : Rd s.g) (hm : (s.ms.length : Int) ≤ 9223372036854775807) (ht : Rd t.g) (hmt : (t.ms.length : Int) ≤ 9223372036854775807) (hb : RdB s.g) (hbm : s.ms.length * 24 ≤ 140737488351232) (l : List EId) (m : Mk) : Pure Tryz.prog γ false 3 [aSt s, aSt t, .vs 2 fun _ => ids l, aMk m] (.b fun _ => true) := by
 have kv := lives18_ok (γ := γ) hγ
 have ki := klight_ok (γ := γ) s hg hm
 have kj := klight_ok (γ := γ) t ht hmt
 by_cases hli : lightS 60 s = true
 ·rw [hli] at ki
  have hml : (s.ms.length : Int) ≤ 180 := by
   unfold lightS at hli
   rw [Bool.and_eq_true, decide_eq_true_eq] at hli
   omega
  by_cases hlj : lightS 60 t = true
  ·rw [hlj] at kj
   by_cases hll : l.length ≤ 60
   ·have k1 := pcut_ok (γ := γ) hγ s hg (by omega) l (by omega)
    have k2 := r18cut_ok (γ := γ) s hg (by omega) l (by omega)
    have r1 := rd_cut s l
    have r2 := ms_cut s l
    generalize (if SOk s ∧ closedG s.g l = true then cutM s l else sz) = c at *
    generalize (if SOk s ∧ closedG s.g l = true then (0 : Int) else 2) = e at *
    have k3 := pcheck_ok (γ := γ) s hg (by omega)
    have k4 := r18check_ok (γ := γ) s hg (by omega)
    generalize pcheckM s = pc at *
    have k5 := kstate_ok (γ := γ) c c r1 r1 (by omega)
    rw [sameG_self, decide_eq_true rfl, decide_eq_true rfl] at k5
    have k6 := when_ok (γ := γ) s m hm
    have k7 := rwhen_ok (γ := γ) s m hm
    generalize numK s.ms m = wn at *
    have k8 := psame_ok (γ := γ) s t hg hm
    have k9 := kstate_ok (γ := γ) s t hg ht hm
    generalize (sameG s.g t.g && decide (s.ms = t.ms) && decide (s.half = t.half)) = q at *
    have k10 := psame_ok (γ := γ) s s hg hm
    have k12 := kstate_ok (γ := γ) s s hg hg hm
    rw [sameG_self, decide_eq_true rfl, decide_eq_true rfl] at k10 k12
    have k11 := pcopy_ok (γ := γ) s hb hbm
    refine Pure.go (ty := ty) ty_eq mo Tryz.func3 rfl Tryz.ntmps3 Tryz.results3 Tryz.call3 (by simp) fun P C CQ D W F E hF => ?_
    cbv
    repeat' (first
     |((first|refine E.c (SCalls.of_le (k12) ?_ ?_)|refine E.q (QCalls.of_le (k12) ?_ ?_));(· (cbv;(try simp only [nc] at *);first|done|(simp;done)|(simp (disch:=(first|omega|(simp only [lnS];omega))) only [rdT,rdS,anT];first|done|omega|(refine ⟨?_,?_⟩<;>omega))|(simp (disch:=(first|omega|(simp only [lnS];omega))) [rdT,rdS];done)));cbv)
     |((first|refine E.c (SCalls.of_le (k11) ?_ ?_)|refine E.q (QCalls.of_le (k11) ?_ ?_));(· (cbv;(try simp only [nc] at *);first|done|(simp;done)|(simp (disch:=(first|omega|(simp only [lnS];omega))) only [rdT,rdS,anT];first|done|omega|(refine ⟨?_,?_⟩<;>omega))|(simp (disch:=(first|omega|(simp only [lnS];omega))) [rdT,rdS];done)));cbv)
     |((first|refine E.c (SCalls.of_le (k10) ?_ ?_)|refine E.q (QCalls.of_le (k10) ?_ ?_));(· (cbv;(try simp only [nc] at *);first|done|(simp;done)|(simp (disch:=(first|omega|(simp only [lnS];omega))) only [rdT,rdS,anT];first|done|omega|(refine ⟨?_,?_⟩<;>omega))|(simp (disch:=(first|omega|(simp only [lnS];omega))) [rdT,rdS];done)));cbv)
     |((first|refine E.c (SCalls.of_le (k9) ?_ ?_)|refine E.q (QCalls.of_le (k9) ?_ ?_));(· (cbv;(try simp only [nc] at *);first|done|(simp;done)|(simp (disch:=(first|omega|(simp only [lnS];omega))) only [rdT,rdS,anT];first|done|omega|(refine ⟨?_,?_⟩<;>omega))|(simp (disch:=(first|omega|(simp only [lnS];omega))) [rdT,rdS];done)));cbv)
     |((first|refine E.c (SCalls.of_le (k8) ?_ ?_)|refine E.q (QCalls.of_le (k8) ?_ ?_));(· (cbv;(try simp only [nc] at *);first|done|(simp;done)|(simp (disch:=(first|omega|(simp only [lnS];omega))) only [rdT,rdS,anT];first|done|omega|(refine ⟨?_,?_⟩<;>omega))|(simp (disch:=(first|omega|(simp only [lnS];omega))) [rdT,rdS];done)));cbv)
     |((first|refine E.c (SCalls.of_le (k7) ?_ ?_)|refine E.q (QCalls.of_le (k7) ?_ ?_));(· (cbv;(try simp only [nc] at *);first|done|(simp;done)|(simp (disch:=(first|omega|(simp only [lnS];omega))) only [rdT,rdS,anT];first|done|omega|(refine ⟨?_,?_⟩<;>omega))|(simp (disch:=(first|omega|(simp only [lnS];omega))) [rdT,rdS];done)));cbv)
     |((first|refine E.c (SCalls.of_le (k6) ?_ ?_)|refine E.q (QCalls.of_le (k6) ?_ ?_));(· (cbv;(try simp only [nc] at *);first|done|(simp;done)|(simp (disch:=(first|omega|(simp only [lnS];omega))) only [rdT,rdS,anT];first|done|omega|(refine ⟨?_,?_⟩<;>omega))|(simp (disch:=(first|omega|(simp only [lnS];omega))) [rdT,rdS];done)));cbv)
     |((first|refine E.c (SCalls.of_le (k5) ?_ ?_)|refine E.q (QCalls.of_le (k5) ?_ ?_));(· (cbv;(try simp only [nc] at *);first|done|(simp;done)|(simp (disch:=(first|omega|(simp only [lnS];omega))) only [rdT,rdS,anT];first|done|omega|(refine ⟨?_,?_⟩<;>omega))|(simp (disch:=(first|omega|(simp only [lnS];omega))) [rdT,rdS];done)));cbv)
     |((first|refine E.c (SCalls.of_le (k4) ?_ ?_)|refine E.q (QCalls.of_le (k4) ?_ ?_));(· (cbv;(try simp only [nc] at *);first|done|(simp;done)|(simp (disch:=(first|omega|(simp only [lnS];omega))) only [rdT,rdS,anT];first|done|omega|(refine ⟨?_,?_⟩<;>omega))|(simp (disch:=(first|omega|(simp only [lnS];omega))) [rdT,rdS];done)));cbv)
     |((first|refine E.c (SCalls.of_le (k3) ?_ ?_)|refine E.q (QCalls.of_le (k3) ?_ ?_));(· (cbv;(try simp only [nc] at *);first|done|(simp;done)|(simp (disch:=(first|omega|(simp only [lnS];omega))) only [rdT,rdS,anT];first|done|omega|(refine ⟨?_,?_⟩<;>omega))|(simp (disch:=(first|omega|(simp only [lnS];omega))) [rdT,rdS];done)));cbv)
     |(refine E.c (SCalls.of_le (k2) ?_ ?_);(· (cbv;(try simp only [nc] at *);first|done|(simp;done)|(simp (disch:=(first|omega|(simp only [lnS];omega))) only [rdT,rdS,anT];first|done|omega|(refine ⟨?_,?_⟩<;>omega))|(simp (disch:=(first|omega|(simp only [lnS];omega))) [rdT,rdS];done)));cbv)
     |(refine E.c (SCalls.of_le (k1) ?_ ?_);(· (cbv;(try simp only [nc] at *);first|done|(simp;done)|(simp (disch:=(first|omega|(simp only [lnS];omega))) only [rdT,rdS,anT];first|done|omega|(refine ⟨?_,?_⟩<;>omega))|(simp (disch:=(first|omega|(simp only [lnS];omega))) [rdT,rdS];done)));cbv)
     |(refine E.c (SCalls.of_le (kj) ?_ ?_);(· (cbv;(try simp only [nc] at *);first|done|(simp;done)|(simp (disch:=(first|omega|(simp only [lnS];omega))) only [rdT,rdS,anT];first|done|omega|(refine ⟨?_,?_⟩<;>omega))|(simp (disch:=(first|omega|(simp only [lnS];omega))) [rdT,rdS];done)));cbv)
     |(refine E.c (SCalls.of_le (ki) ?_ ?_);(· (cbv;(try simp only [nc] at *);first|done|(simp;done)|(simp (disch:=(first|omega|(simp only [lnS];omega))) only [rdT,rdS,anT];first|done|omega|(refine ⟨?_,?_⟩<;>omega))|(simp (disch:=(first|omega|(simp only [lnS];omega))) [rdT,rdS];done)));cbv)
     |(refine E.c (SCalls.of_le (kv) ?_ ?_);(· (cbv;(try simp only [nc] at *);first|done|(simp;done)|(simp (disch:=(first|omega|(simp only [lnS];omega))) only [rdT,rdS,anT];first|done|omega|(refine ⟨?_,?_⟩<;>omega))|(simp (disch:=(first|omega|(simp only [lnS];omega))) [rdT,rdS];done)));cbv)
     |(refine ⟨fun _ h_s=>?_,fun _ h_s=>?_⟩<;>(cbv;(try simp only [nc] at *);try simp (disch:=(first|omega|(simp only [lnS];omega))) only [rdT,rdS,reduceCtorEq,trT] at h_s))
     |(refine hF ?_;intro _;clear hF)
     |(refine hF ?_;cbv;clear hF)
     |(refine ⟨fun _=>?_,?_⟩;(· ((try simp only [nc] at *);first|done|omega|exact ⟨by omega,rfl⟩|(simp (disch:=(first|omega|(simp only [lnS];omega))) only [rdT,rdS];first|done|omega|rfl|exact ⟨by omega,rfl⟩|(simp;done)|(simp;omega))|(intros;trivial)));(try (simp only [nc] at *));(try simp (disch:=(first|omega|(simp only [lnS];omega))) only [rdT,rdS]);(try cbv))
     |(refine E.d 42 (by decide +kernel) ?_;cbv;(fail_if_success guard_target =~ False))
     | fail
    )
    all_goals first
     | rfl
     | (exfalso; ((try simp only [nc] at *); omega))
     | (exfalso; revert h_s; simp; done)
     | trace_state
   ·refine Pure.go (ty := ty) ty_eq mo Tryz.func3 rfl Tryz.ntmps3 Tryz.results3 Tryz.call3 (by simp) fun P C CQ D W F E hF => ?_
    cbv
    repeat' (first
     |(refine E.c (SCalls.of_le (kj) ?_ ?_);(· (cbv;(try simp only [nc] at *);first|done|(simp;done)|(simp (disch:=(first|omega|(simp only [lnS];omega))) only [rdT,rdS,anT];first|done|omega|(refine ⟨?_,?_⟩<;>omega))|(simp (disch:=(first|omega|(simp only [lnS];omega))) [rdT,rdS];done)));cbv)
     |(refine E.c (SCalls.of_le (ki) ?_ ?_);(· (cbv;(try simp only [nc] at *);first|done|(simp;done)|(simp (disch:=(first|omega|(simp only [lnS];omega))) only [rdT,rdS,anT];first|done|omega|(refine ⟨?_,?_⟩<;>omega))|(simp (disch:=(first|omega|(simp only [lnS];omega))) [rdT,rdS];done)));cbv)
     |(refine E.c (SCalls.of_le (kv) ?_ ?_);(· (cbv;(try simp only [nc] at *);first|done|(simp;done)|(simp (disch:=(first|omega|(simp only [lnS];omega))) only [rdT,rdS,anT];first|done|omega|(refine ⟨?_,?_⟩<;>omega))|(simp (disch:=(first|omega|(simp only [lnS];omega))) [rdT,rdS];done)));cbv)
     |(refine ⟨fun _ h_s=>?_,fun _ h_s=>?_⟩<;>(cbv;(try simp only [nc] at *);try simp (disch:=(first|omega|(simp only [lnS];omega))) only [rdT,rdS,reduceCtorEq,trT] at h_s))
     |(refine hF ?_;intro _;clear hF)
     |(refine hF ?_;cbv;clear hF)
     |(refine ⟨fun _=>?_,?_⟩;(· ((try simp only [nc] at *);first|done|omega|exact ⟨by omega,rfl⟩|(simp (disch:=(first|omega|(simp only [lnS];omega))) only [rdT,rdS];first|done|omega|rfl|exact ⟨by omega,rfl⟩|(simp;done)|(simp;omega))|(intros;trivial)));(try (simp only [nc] at *));(try simp (disch:=(first|omega|(simp only [lnS];omega))) only [rdT,rdS]);(try cbv))
     |(refine E.d 42 (by decide +kernel) ?_;cbv;(fail_if_success guard_target =~ False))
     | fail
    )
    all_goals first
     | rfl
     | (exfalso; ((try simp only [nc] at *); omega))
  ·rw [show lightS 60 t = false by simpa using hlj] at kj
   refine Pure.go (ty := ty) ty_eq mo Tryz.func3 rfl Tryz.ntmps3 Tryz.results3 Tryz.call3 (by simp) fun P C CQ D W F E hF => ?_
   cbv
   repeat' (first
    |(refine E.c (SCalls.of_le (kj) ?_ ?_);(· (cbv;(try simp only [nc] at *);first|done|(simp;done)|(simp (disch:=(first|omega|(simp only [lnS];omega))) only [rdT,rdS,anT];first|done|omega|(refine ⟨?_,?_⟩<;>omega))|(simp (disch:=(first|omega|(simp only [lnS];omega))) [rdT,rdS];done)));cbv)
    |(refine E.c (SCalls.of_le (ki) ?_ ?_);(· (cbv;(try simp only [nc] at *);first|done|(simp;done)|(simp (disch:=(first|omega|(simp only [lnS];omega))) only [rdT,rdS,anT];first|done|omega|(refine ⟨?_,?_⟩<;>omega))|(simp (disch:=(first|omega|(simp only [lnS];omega))) [rdT,rdS];done)));cbv)
    |(refine E.c (SCalls.of_le (kv) ?_ ?_);(· (cbv;(try simp only [nc] at *);first|done|(simp;done)|(simp (disch:=(first|omega|(simp only [lnS];omega))) only [rdT,rdS,anT];first|done|omega|(refine ⟨?_,?_⟩<;>omega))|(simp (disch:=(first|omega|(simp only [lnS];omega))) [rdT,rdS];done)));cbv)
    |(refine ⟨fun _ h_s=>?_,fun _ h_s=>?_⟩<;>(cbv;(try simp only [nc] at *);try simp (disch:=(first|omega|(simp only [lnS];omega))) only [rdT,rdS,reduceCtorEq,trT] at h_s))
    |(refine hF ?_;intro _;clear hF)
    |(refine hF ?_;cbv;clear hF)
    |(refine ⟨fun _=>?_,?_⟩;(· ((try simp only [nc] at *);first|done|omega|exact ⟨by omega,rfl⟩|(simp (disch:=(first|omega|(simp only [lnS];omega))) only [rdT,rdS];first|done|omega|rfl|exact ⟨by omega,rfl⟩|(simp;done)|(simp;omega))|(intros;trivial)));(try (simp only [nc] at *));(try simp (disch:=(first|omega|(simp only [lnS];omega))) only [rdT,rdS]);(try cbv))
    |(refine E.d 42 (by decide +kernel) ?_;cbv;(fail_if_success guard_target =~ False))
    | fail
   )
   all_goals first
    | rfl
    | (exfalso; ((try simp only [nc] at *); omega))
 ·rw [show lightS 60 s = false by simpa using hli] at ki
  refine Pure.go (ty := ty) ty_eq mo Tryz.func3 rfl Tryz.ntmps3 Tryz.results3 Tryz.call3 (by simp) fun P C CQ D W F E hF => ?_
  cbv
  repeat' (first
   |(refine E.c (SCalls.of_le (ki) ?_ ?_);(· (cbv;(try simp only [nc] at *);first|done|(simp;done)|(simp (disch:=(first|omega|(simp only [lnS];omega))) only [rdT,rdS,anT];first|done|omega|(refine ⟨?_,?_⟩<;>omega))|(simp (disch:=(first|omega|(simp only [lnS];omega))) [rdT,rdS];done)));cbv)
   |(refine E.c (SCalls.of_le (kv) ?_ ?_);(· (cbv;(try simp only [nc] at *);first|done|(simp;done)|(simp (disch:=(first|omega|(simp only [lnS];omega))) only [rdT,rdS,anT];first|done|omega|(refine ⟨?_,?_⟩<;>omega))|(simp (disch:=(first|omega|(simp only [lnS];omega))) [rdT,rdS];done)));cbv)
   |(refine ⟨fun _ h_s=>?_,fun _ h_s=>?_⟩<;>(cbv;(try simp only [nc] at *);try simp (disch:=(first|omega|(simp only [lnS];omega))) only [rdT,rdS,reduceCtorEq,trT] at h_s))
   |(refine hF ?_;intro _;clear hF)
   |(refine hF ?_;cbv;clear hF)
   |(refine ⟨fun _=>?_,?_⟩;(· ((try simp only [nc] at *);first|done|omega|exact ⟨by omega,rfl⟩|(simp (disch:=(first|omega|(simp only [lnS];omega))) only [rdT,rdS];first|done|omega|rfl|exact ⟨by omega,rfl⟩|(simp;done)|(simp;omega))|(intros;trivial)));(try (simp only [nc] at *));(try simp (disch:=(first|omega|(simp only [lnS];omega))) only [rdT,rdS]);(try cbv))
   |(refine E.d 42 (by decide +kernel) ?_;cbv;(fail_if_success guard_target =~ False))
   | fail
  )
  all_goals first
   | rfl
   | (exfalso; ((try simp only [nc] at *); omega))
end Go.AL.Rl

namespace Go.AL
open Go Go.RowKit Go.ChangeShapes Go.WideShapes

section
variable {H : Type} {enc : TypeId × Value → H} {P : Program} {w : World} {spare : Nat → Bool} {held : Bool}

abbrev Old (w : World) : Nat → Prop := fun k => k < w.heap.size

/-- Whatever reads by the type 't' is told by an 'a'. -/
def Dec (P : Program) (t : TypeId) (α : Type) (en : α → List AV) (ok : α → Prop) : Prop :=
 ∀ {H : Type} (enc : TypeId × Value → H) (w : World) (spare : Nat → Bool) (held : Bool) (fuel : Nat) (cs : List Value) (x : DataW H × List MemPlace),
  DataW.trod enc P w 0 spare held fuel t cs = some x → ∃ a, ok a ∧ Rs (Old w) w none (en a) cs

theorem Dec.int {t : TypeId} (ht : P.underlying t = some (.int .i64)) : Dec P t Int (fun n => [.i fun _ => n]) fun n => -9223372036854775808 ≤ n ∧ n ≤ 9223372036854775807 := by
 intro H enc w spare held fuel cs x h
 obtain ⟨n, rfl, _, h2⟩ := DataW.trod_int ht h
 exact ⟨n, bounds_i64 h2, _, _, rfl, rfl, rfl⟩
theorem Dec.u64 {t : TypeId} (ht : P.underlying t = some (.int .u64)) : Dec P t (BitVec 64) (fun n => [.u fun _ => n]) fun _ => True := by
 intro H enc w spare held fuel cs x h
 obtain ⟨n, rfl, _, h2⟩ := DataW.trod_int ht h
 have := bounds_u64 h2
 refine ⟨BitVec.ofInt 64 n, trivial, _, _, rfl, ?_, rfl⟩
 simp only [R]
 congr 1
 simp only [BitVec.toNat_ofInt]
 omega
theorem Dec.bool {t : TypeId} (ht : P.underlying t = some .bool) : Dec P t Bool (fun b => [.b fun _ => b]) fun _ => True := by
 intro H enc w spare held fuel cs x h
 obtain ⟨b, rfl, _⟩ := DataW.trod_bool ht h
 exact ⟨b, trivial, _, _, rfl, rfl, rfl⟩

theorem cells?_get {w : World} {a : Addr} {n : Nat} {cs : List Value} (h : w.cells? 0 a n = some cs) : cs.length = n ∧ ∀ (i : Nat) (c : Value), cs[i]? = some c → w.cell? (a.add i) = some c := by
 simp only [World.cells?, Nat.zero_le, if_true] at h
 have hl : cs.length = n := by have := mapM_some_length h; simpa using this
 refine ⟨hl, fun i c hc => ?_⟩
 have hi : i < n := by have := (List.getElem?_eq_some_iff.1 hc).1; omega
 rw [mapM_some_get h i i (by simp [hi])]; exact hc

theorem list_of_all {α β : Type} {R' : α → β → Prop} : ∀ (l : List β), (∀ b ∈ l, ∃ a, R' a b) → ∃ r : List α, r.length = l.length ∧ ∀ (i : Nat) (a : α) (b : β), r[i]? = some a → l[i]? = some b → R' a b
 | [], _ => ⟨[], rfl, fun i a b h => by simp at h⟩
 | b :: l, h => by
  obtain ⟨a, ha⟩ := h b (by simp)
  obtain ⟨r, h1, h2⟩ := list_of_all l fun b hb => h b (by simp [hb])
  refine ⟨a :: r, by simp [h1], fun i a' b' ha' hb' => ?_⟩
  cases i with
  | zero => simp at ha' hb'; subst ha'; subst hb'; exact ha
  | succ i => exact h2 i a' b' (by simpa using ha') (by simpa using hb')

/-- the elements' values: 'mk' is '.agg' or the one cell -/
structure Elem (mk : List AV → AV) (k : Nat) : Prop where
 val : ∀ {S : Nat → Prop} {w : World} {l : List AV} {cs : List Value}, cs.length = k → l.all AV.one = true → Rs S w none l cs → ∃ v, v.cells.toList = cs ∧ R S w none (mk l) v
theorem Elem.agg (k : Nat) : Elem .agg k := ⟨fun {S w l cs} _ _ h => ⟨.agg cs.toArray, by simp [Value.cells], cs, rfl, h⟩⟩
theorem Elem.one : Elem (fun l => l.headD .any) 1 := ⟨fun {S w l cs} hl h1 h => by
 match cs, hl with
 | [c], _ =>
  match l, h with
  | x :: _, ⟨v, _, e, hx, hr⟩ =>
   cases e
   simp only [List.all_cons, Bool.and_eq_true] at h1
   exact ⟨c, by rw [cells_of_one (R_one hx h1.1)], hx⟩⟩

theorem Dec.slice {t e : TypeId} (ht : P.underlying t = some (.slice e)) {k : Nat} (hk : P.cellsOf e = k) (hk0 : 0 < k) {α : Type} {en : α → List AV} {ok : α → Prop} {mk : List AV → AV} (he : Dec P e α en ok) (hone : ∀ a, (en a).all AV.one = true) (hm : Elem mk k) :
  Dec P t (List α) (fun l => [.vs k fun _ => LV.of (l.map fun a => mk (en a))]) fun l => l.length ≤ maxLen ∧ ∀ a ∈ l, ok a := by
 subst hk
 intro H enc w spare held fuel cs x h
 rcases DataW.trod_slice ht h with ⟨rfl, _⟩ | ⟨a, len, cap, elems, rest, n, rfl, rfl, rfl, _, h2, h3, h4, h5, _⟩
 ·exact ⟨[], ⟨by simp, by simp⟩, _, _, rfl, ⟨none, 0, [], rfl, Nat.le_refl _, rfl, .inl rfl⟩, rfl⟩
 ·have key : ∀ i : Nat, i < len → ∃ (c : List Value) (a' : α), w.cells? 0 (a.add (i * P.cellsOf e)) (P.cellsOf e) = some c ∧ ok a' ∧ Rs (Old w) w none (en a') c := by
   intro i hi
   have := h5 i hi
   rw [List.getElem?_eq_getElem (by omega)] at this
   simp only [Option.bind_eq_some_iff] at this
   obtain ⟨c, hc, hd⟩ := this
   obtain ⟨a', ha, hr⟩ := he _ _ _ _ _ _ _ hd
   exact ⟨c, a', hc, ha, hr⟩
  have hlist := list_of_all (R' := fun (q : α × Value) (i : Nat) => ok q.1 ∧ q.2.cells.size = P.cellsOf e ∧ (∀ (j : Nat) (c : Value), q.2.cells[j]? = some c → w.cell? ((a.add (i * P.cellsOf e)).add j) = some c) ∧ R (Old w) w none (mk (en q.1)) q.2) (List.range len) fun i hi => by
   obtain ⟨c, a', hc, ha, hr⟩ := key i (by simpa using hi)
   obtain ⟨hl, hg⟩ := cells?_get hc
   obtain ⟨v, hv, hr'⟩ := hm.val hl (hone a') hr
   refine ⟨(a', v), ha, by rw [← Array.length_toList, hv]; exact hl, fun j c' hj => hg j c' ?_, hr'⟩
   rw [← hv]; simpa using hj
  obtain ⟨qs, hq1, hq2⟩ := hlist
  rw [List.length_range] at hq1
  have hq : ∀ (i : Nat) (q : α × Value), qs[i]? = some q → ok q.1 ∧ q.2.cells.size = P.cellsOf e ∧ (∀ (j : Nat) (c : Value), q.2.cells[j]? = some c → w.cell? ((a.add (i * P.cellsOf e)).add j) = some c) ∧ R (Old w) w none (mk (en q.1)) q.2 := fun i q hi =>
   hq2 i q i hi (by
    have := (List.getElem?_eq_some_iff.1 hi).1
    rw [List.getElem?_range (by omega)])
  refine ⟨qs.map (·.1), ⟨by simp; omega, fun a' ha' => ?_⟩, _, _, rfl, ⟨some a, cap, qs.map (·.2), by simp [hq1], by simp; omega, ?_, ?_⟩, rfl⟩
  ·obtain ⟨q, hqm, rfl⟩ := List.mem_map.1 ha'
   obtain ⟨i, hi, rfl⟩ := List.mem_iff_getElem.1 hqm
   exact (hq i _ (List.getElem?_eq_getElem hi)).1
  ·rw [RL_iff, LV.l_of, Rs_iff]
   refine ⟨by simp, fun i c v hc hv => ?_⟩
   simp only [List.map_map, List.getElem?_map, Option.map_eq_some_iff] at hc hv
   obtain ⟨q, hq', rfl⟩ := hc
   obtain ⟨q', hq'', rfl⟩ := hv
   rw [hq'] at hq''; cases hq''
   exact (hq i q hq').2.2.2
  ·cases hqs : qs with
   | nil => exact .inl rfl
   | cons q0 qr =>
    right
    have hlen : 0 < len := by rw [← hq1, hqs]; simp
    obtain ⟨_, hsz, hcell, _⟩ := hq 0 q0 (by rw [hqs]; rfl)
    have hc0 : ∃ c, q0.2.cells[0]? = some c := ⟨_, Array.getElem?_eq_getElem (by omega)⟩
    obtain ⟨c, hc⟩ := hc0
    have hw := hcell 0 c hc
    have ha0 : a.spot = none ∧ a.block < w.heap.size := by
     simp only [Nat.zero_mul, Addr.add, if_true] at hw
     unfold World.cell? at hw
     split at hw
     ·rename_i hb
      split at hw
      ·cases hw
      ·rename_i hs
       exact ⟨by simpa using hs, (Array.getElem?_eq_some_iff.1 hb).1⟩
     ·cases hw
    refine ⟨a, rfl, ha0.1, ha0.2, fun i ev hi => ?_⟩
    rw [← hqs] at hi
    simp only [List.getElem?_map, Option.map_eq_some_iff] at hi
    obtain ⟨q, hq', rfl⟩ := hi
    obtain ⟨_, h1, h2, _⟩ := hq i q hq'
    refine ⟨h1, fun j c hj => ?_⟩
    have := h2 j c hj
    have ea : (a.add (i * P.cellsOf e)).add j = ⟨a.block, a.off + (i * P.cellsOf e + j), none⟩ := by
     obtain ⟨b, o, s⟩ := a
     simp only at ha0
     obtain ⟨rfl, _⟩ := ha0
     simp only [Addr.add]
     by_cases h0 : i * P.cellsOf e = 0 <;> by_cases h1 : j = 0 <;> simp [h0, h1] <;> omega
    rw [← ea]; exact this

/-- fields, one behind the other -/
theorem Dec.fields {t : TypeId} {fs : List Field} {a : Array Field} (ht : P.underlying t = some (.struct a)) (hfs : a.toList = fs) {α : Type} {en : α → List AV} {ok : α → Prop}
  (h : ∀ {H : Type} (enc : TypeId × Value → H) (w : World) (spare : Nat → Bool) (held : Bool) (n : Nat) (cs : List Value), cs.length = P.cellsOf t →
   (∀ f ∈ fs, ∃ x, DataW.trod enc P w 0 spare held n f.type ((cs.drop f.offset).take (P.cellsOf f.type)) = some x) → ∃ a, ok a ∧ Rs (Old w) w none (en a) cs) : Dec P t α en ok := by
 intro H enc w spare held fuel cs x hx
 obtain ⟨xs, n, rfl, rfl, h1, h2, h3⟩ := DataW.trod_struct ht hx
 refine h enc w spare held n cs h1 fun f hf => ?_
 rw [← hfs] at hf
 obtain ⟨i, hi, rfl⟩ := List.mem_iff_getElem.1 hf
 have hi' : i < a.size := by simpa using hi
 have := h3 i a[i] (Array.getElem?_eq_getElem hi')
 rw [List.getElem?_eq_getElem (by omega)] at this
 exact ⟨_, by simpa using this⟩
theorem cut3 (cs : List Value) (o s n : Nat) (h : cs.length = n) (ho : o + s = n) : cs = cs.take o ++ (cs.drop o).take s := by
 have : (cs.drop o).take s = cs.drop o := List.take_of_length_le (by simp; omega)
 rw [this, List.take_append_drop]

theorem Dec.struct2 {t : TypeId} {a : Array Field} (ht : P.underlying t = some (.struct a)) {t0 t1 : TypeId} {s0 s1 : Nat} (hfs : a.toList.map (fun f => (f.type, f.offset)) = [(t0, 0), (t1, s0)]) (h0 : P.cellsOf t0 = s0) (h1 : P.cellsOf t1 = s1) (hs : P.cellsOf t = s0 + s1)
  {α β : Type} {e0 : α → List AV} {e1 : β → List AV} {k0 : α → Prop} {k1 : β → Prop} (d0 : Dec P t0 α e0 k0) (d1 : Dec P t1 β e1 k1) : Dec P t (α × β) (fun p => e0 p.1 ++ e1 p.2) fun p => k0 p.1 ∧ k1 p.2 := by
 refine Dec.fields ht rfl fun {H} enc w spare held n cs hl hf => ?_
 have get : ∀ t o, (t, o) ∈ a.toList.map (fun f => (f.type, f.offset)) → ∃ x, DataW.trod enc P w 0 spare held n t ((cs.drop o).take (P.cellsOf t)) = some x := fun t o hm => by
  obtain ⟨f, hf1, hf2⟩ := List.mem_map.1 hm
  cases hf2
  exact hf f hf1
 rw [hfs] at get
 obtain ⟨x0, g0⟩ := get t0 0 (by simp)
 obtain ⟨x1, g1⟩ := get t1 s0 (by simp)
 obtain ⟨a0, o0, r0⟩ := d0 _ _ _ _ _ _ _ g0
 obtain ⟨a1, o1, r1⟩ := d1 _ _ _ _ _ _ _ g1
 refine ⟨(a0, a1), ⟨o0, o1⟩, ?_⟩
 rw [cut3 cs s0 s1 _ (hl.trans hs) rfl]
 rw [h0] at r0; rw [h1] at r1
 exact Rs_append (by simpa using r0) r1

theorem trodAll_len {W : World} {b : Nat} : ∀ {ts : List TypeId} {vs : List Value} {ds : List (DataW H)} {p : List MemPlace}, DataW.TrodAll enc P W b spare held ts vs ds p → ds.length = ts.length
 | [], [], [], _, _ => rfl
 | _ :: _, _ :: _, _ :: _, _, ⟨_, _, _, h, _⟩ => by simp [trodAll_len h]
 | [], [], _ :: _, _, h => h.elim
 | [], _ :: _, _, _, h => h.elim
 | _ :: _, [], _, _, h => h.elim
 | _ :: _, _ :: _, [], _, h => h.elim
theorem trodAll_carry {W W' : World} (hq : ∀ k, k < W.heap.size → W'.heap[k]? = W.heap[k]?) : ∀ {ts : List TypeId} {vs : List Value} {ds : List (DataW H)} {p : List MemPlace},
  DataW.TrodAll enc P W 0 spare held ts vs ds p → (∀ p' ∈ p, p'.block < W.heap.size) → DataW.TrodAll enc P W' 0 spare held ts vs ds p
 | [], [], [], _, h, _ => h
 | _ :: _, _ :: _, _ :: _, _, ⟨p0, q0, ⟨n, h1⟩, h2, e⟩, lt => by
  subst e
  refine ⟨p0, q0, ⟨n, DataW.trod_carry _ _ _ _ h1 fun pl hpl => ?_⟩, trodAll_carry hq h2 fun p' hp => lt p' (List.mem_append_right _ hp), rfl⟩
  have hlt := lt pl (List.mem_append_left _ hpl)
  cases pl with
  | cell b off => exact World.cell?_of_block (hq b hlt)
  | map b => exact hq b hlt
 | [], [], _ :: _, _, h, _ => h.elim
 | [], _ :: _, _, _, h, _ => h.elim
 | _ :: _, [], _, _, h, _ => h.elim
 | _ :: _, _ :: _, [], _, h, _ => h.elim
theorem post_true {H : Type} {enc : TypeId × Value → H} {f : Func} {s : ChangeSpec} {W W' : World} {args : Array Value} {ds gs : List (DataW H)} {before : List MemPlace} {tb : TypeId}
  (hW : DataW.Whole enc P f.params.toList s.vars false W args.toList ds gs before) (hv : s.vars = []) (hres : f.resultTypes = #[tb]) (htb : P.underlying tb = some .bool)
  (hs : ∀ ds' : List (DataW H), ds'.length = f.params.size → s.fn H ds' = { results := [.lit (.bool true)], args := ds' })
  (hl : laidOutB P = true) (hm : mapsRowed P = true) (hz : ((List.range P.types.size).all fun t => match P.underlying t with | some (.slice e) => decide (0 < P.cellsOf e) | _ => true) = true) (hT : ∀ t ∈ f.params.toList, t < P.types.size)
  (hq : ∀ k, k < W.heap.size → W'.heap[k]? = W.heap[k]?) (fr : Fr W W') : s.post enc P f false true false false W args (.bool true) W' := by
 have hW' := hW
 obtain ⟨p, q, hA, hV, rfl, hfz, hnd⟩ := hW
 rw [hv] at hV
 obtain ⟨rfl, rfl⟩ := trodVars_none hV
 have hlen : ds.length = f.params.size := by have := trodAll_len hA; simpa using this
 have hsd := hs (ds ++ []) (by simpa using hlen)
 have hall : ∀ (b : Nat) (sp : Nat → Bool) (hd : Bool), DataW.TrodAll enc P W' b sp hd [tb] [.bool true] [.lit (.bool true)] [] := fun b sp hd => ⟨[], [], ⟨1, by simp [DataW.trod, htb, Value.cells]⟩, rfl, rfl⟩
 refine post_of_same (pa := p) (pv := []) hW' (fun b sp hd => ?_) (fun sp hsp => ?_) (fun sp _ => ?_) (by simp) ?_ fr.frozen ?_
 ·rw [hsd, hres]; exact hall b sp hd
 ·rw [hsd]
  simp only [List.append_nil]
  have carry : DataW.TrodAll enc P W' 0 (fun _ => true) true f.params.toList args.toList ds p := trodAll_carry hq hA fun p' hp => hW'.lt p' (by simpa using hp)
  exact carry.respare (kids_rows hl hm) (fun t e ht hu => slices_full_of P hz t e ht hu) hT fun p' hp => hsp p' (by simpa using hp)
 ·rw [hsd, hv]; rfl
 ·refine ⟨fr.os, fr.output, fun i hi => ?_⟩
  rw [hq i hi]
  cases h : W.heap[i]? with
  | none => trivial
  | some o => cases o <;> simp
 ·exact ok_one hres rfl (okWide_bool_mk htb _)

def Arg (P : Program) (t : TypeId) (α : Type) (en : α → AV) (ok : α → Prop) : Prop :=
 ∀ {H : Type} (enc : TypeId × Value → H) (W : World) (base : Nat) (v : Value) (d : DataW H) (p : List MemPlace), Value.okWide P W .any base t v → DataW.Trod enc P W 0 (fun _ => true) true t v d p → ∃ a, ok a ∧ R (Old W) W none (en a) v
theorem Arg.agg {t : TypeId} {a : Array Field} (ht : P.underlying t = some (.struct a)) {α : Type} {en : α → List AV} {ok : α → Prop} (h : Dec P t α en ok) : Arg P t α (fun a => .agg (en a)) ok := by
 intro H enc W base v d p hok ⟨n, hn⟩
 simp only [Value.okWide, ht] at hok
 obtain ⟨cs, rfl, _⟩ := hok
 obtain ⟨x, h1, h2⟩ := h _ _ _ _ _ _ _ hn
 exact ⟨x, h1, cs.toList, by simp, by simpa [Value.cells] using h2⟩
theorem Arg.one {t : TypeId} {k : TypeDesc} (ht : P.underlying t = some k) (hk : match k with | .int _ | .bool | .slice _ => True | _ => False) {α : Type} {en : α → AV} {ok : α → Prop} (h : Dec P t α (fun a => [en a]) ok) : Arg P t α en ok := by
 intro H enc W base v d p hok ⟨n, hn⟩
 obtain ⟨x, h1, y, ys, h2, h3, h4⟩ := h _ _ _ _ _ _ _ hn
 have h4 : ys = [] := h4
 subst h4
 have hv : v = y := by
  cases v
  case agg cs => cases k <;> first | exact hk.elim | simp [Value.okWide, ht, Cell.okWide, Cell.ok] at hok
  all_goals (simp [Value.cells] at h2; exact h2)
 subst hv
 exact ⟨x, h1, h3⟩

/-- A LAW, from its contract. -/
theorem law_true {γ : Nat → Option AV} {f : FuncId} {fn : Func} {s : ChangeSpec} {W : World} {args : Array Value} {ds gs : List (DataW H)} {before : List MemPlace} {tb : TypeId} {avs : List AV} (hp : Pure P γ false f avs (.b fun _ => true)) (hr : Rs (Old W) W none avs args.toList)
  (hγ : ∀ g x, γ g = some x → R (Old W) W none (.vp (fun _ => x) 0) (.pointer (some ⟨g, 0, none⟩)))
  (hW : DataW.Whole enc P fn.params.toList s.vars false W args.toList ds gs before) (hv : s.vars = []) (hres : fn.resultTypes = #[tb]) (htb : P.underlying tb = some .bool)
  (hs : ∀ ds' : List (DataW H), ds'.length = fn.params.size → s.fn H ds' = { results := [.lit (.bool true)], args := ds' })
  (hl : laidOutB P = true) (hm : mapsRowed P = true) (hz : ((List.range P.types.size).all fun t => match P.underlying t with | some (.slice e) => decide (0 < P.cellsOf e) | _ => true) = true) (hT : ∀ t ∈ fn.params.toList, t < P.types.size) :
  Calls P f args W fun e W' => ∃ v, e = .returned v ∧ s.post enc P fn false true false false W args v W' := by
 have := hp.2 (Old W) W args.toList (fun k hk => hk) hγ hr
 refine (this.mono fun e w' ⟨v', S', h1, h2, h3⟩ => ?_)
 have h2 : v' = .bool true := h2
 subst h2
 exact ⟨_, h1, post_true hW hv hres htb hs hl hm hz hT h3.same h3.fr⟩
end
end Go.AL

namespace Go.AL
open Go Go.RowKit Go.ChangeShapes Go.WideShapes
section
variable {P : Program}
theorem Dec.imap {t : TypeId} {α β : Type} {en : α → List AV} {ok : α → Prop} {en' : β → List AV} {ok' : β → Prop} (d : Dec P t α en ok) (f : α → β) (he : ∀ a, en a = en' (f a)) (hk : ∀ a, ok a → ok' (f a)) : Dec P t β en' ok' := by
 intro H enc w spare held fuel cs x h
 obtain ⟨a, h1, h2⟩ := d _ _ _ _ _ _ _ h
 exact ⟨f a, hk a h1, by rw [← he]; exact h2⟩
theorem Dec.struct4 {t : TypeId} {a : Array Field} (ht : P.underlying t = some (.struct a)) {t0 t1 t2 t3 : TypeId} (hfs : a.toList.map (fun f => (f.type, f.offset)) = [(t0, 0), (t1, 1), (t2, 2), (t3, 3)])
  (h0 : P.cellsOf t0 = 1) (h1 : P.cellsOf t1 = 1) (h2 : P.cellsOf t2 = 1) (h3 : P.cellsOf t3 = 1) (hs : P.cellsOf t = 4)
  {A0 A1 A2 A3 : Type} {e0 : A0 → List AV} {e1 : A1 → List AV} {e2 : A2 → List AV} {e3 : A3 → List AV} {k0 : A0 → Prop} {k1 : A1 → Prop} {k2 : A2 → Prop} {k3 : A3 → Prop}
  (d0 : Dec P t0 A0 e0 k0) (d1 : Dec P t1 A1 e1 k1) (d2 : Dec P t2 A2 e2 k2) (d3 : Dec P t3 A3 e3 k3) :
  Dec P t (A0 × A1 × A2 × A3) (fun p => e0 p.1 ++ (e1 p.2.1 ++ (e2 p.2.2.1 ++ e3 p.2.2.2))) fun p => k0 p.1 ∧ k1 p.2.1 ∧ k2 p.2.2.1 ∧ k3 p.2.2.2 := by
 refine Dec.fields ht rfl fun {H} enc w spare held n cs hl hf => ?_
 have get : ∀ t o, (t, o) ∈ a.toList.map (fun f => (f.type, f.offset)) → ∃ x, DataW.trod enc P w 0 spare held n t ((cs.drop o).take (P.cellsOf t)) = some x := fun t o hm => by
  obtain ⟨f, hf1, hf2⟩ := List.mem_map.1 hm
  cases hf2
  exact hf f hf1
 rw [hfs] at get
 rw [hs] at hl
 match cs, hl with
 | [c0, c1, c2, c3], _ =>
  obtain ⟨x0, g0⟩ := get t0 0 (by simp)
  obtain ⟨x1, g1⟩ := get t1 1 (by simp)
  obtain ⟨x2, g2⟩ := get t2 2 (by simp)
  obtain ⟨x3, g3⟩ := get t3 3 (by simp)
  obtain ⟨a0, o0, r0⟩ := d0 _ _ _ _ _ _ _ g0
  obtain ⟨a1, o1, r1⟩ := d1 _ _ _ _ _ _ _ g1
  obtain ⟨a2, o2, r2⟩ := d2 _ _ _ _ _ _ _ g2
  obtain ⟨a3, o3, r3⟩ := d3 _ _ _ _ _ _ _ g3
  rw [h0] at r0; rw [h1] at r1; rw [h2] at r2; rw [h3] at r3
  exact ⟨(a0, a1, a2, a3), ⟨o0, o1, o2, o3⟩, Rs_append (vals := [c0]) r0 (Rs_append (vals := [c1]) r1 (Rs_append (vals := [c2]) r2 r3))⟩
theorem Dec.struct5 {t : TypeId} {a : Array Field} (ht : P.underlying t = some (.struct a)) {e f : TypeId} (hfs : a.toList.map (fun f => (f.type, f.offset)) = [(e, 0), (e, 1), (e, 2), (f, 3), (f, 4)])
  (h0 : P.cellsOf e = 1) (h1 : P.cellsOf f = 1) (hs : P.cellsOf t = 5) {A0 : Type} {e0 : A0 → List AV} {k0 : A0 → Prop} (d0 : Dec P e A0 e0 k0) (d1 : Dec P f A0 e0 k0) :
  Dec P t (A0 × A0 × A0 × A0 × A0) (fun p => e0 p.1 ++ (e0 p.2.1 ++ (e0 p.2.2.1 ++ (e0 p.2.2.2.1 ++ e0 p.2.2.2.2)))) fun p => k0 p.1 ∧ k0 p.2.1 ∧ k0 p.2.2.1 ∧ k0 p.2.2.2.1 ∧ k0 p.2.2.2.2 := by
 refine Dec.fields ht rfl fun {H} enc w spare held n cs hl hf => ?_
 have get : ∀ t o, (t, o) ∈ a.toList.map (fun f => (f.type, f.offset)) → ∃ x, DataW.trod enc P w 0 spare held n t ((cs.drop o).take (P.cellsOf t)) = some x := fun t o hm => by
  obtain ⟨f, hf1, hf2⟩ := List.mem_map.1 hm
  cases hf2
  exact hf f hf1
 rw [hfs] at get
 rw [hs] at hl
 match cs, hl with
 | [c0, c1, c2, c3, c4], _ =>
  obtain ⟨x0, g0⟩ := get e 0 (by simp)
  obtain ⟨x1, g1⟩ := get e 1 (by simp)
  obtain ⟨x2, g2⟩ := get e 2 (by simp)
  obtain ⟨x3, g3⟩ := get f 3 (by simp)
  obtain ⟨x4, g4⟩ := get f 4 (by simp)
  obtain ⟨a0, o0, r0⟩ := d0 _ _ _ _ _ _ _ g0
  obtain ⟨a1, o1, r1⟩ := d0 _ _ _ _ _ _ _ g1
  obtain ⟨a2, o2, r2⟩ := d0 _ _ _ _ _ _ _ g2
  obtain ⟨a3, o3, r3⟩ := d1 _ _ _ _ _ _ _ g3
  obtain ⟨a4, o4, r4⟩ := d1 _ _ _ _ _ _ _ g4
  rw [h0] at r0 r1 r2; rw [h1] at r3 r4
  exact ⟨(a0, a1, a2, a3, a4), ⟨o0, o1, o2, o3, o4⟩, Rs_append (vals := [c0]) r0 (Rs_append (vals := [c1]) r1 (Rs_append (vals := [c2]) r2 (Rs_append (vals := [c3]) r3 r4)))⟩
end
end Go.AL

namespace Go.AL.Rl
open Go Go.AL Go.Proofs Go.RowKit Go.ChangeShapes Go.WideShapes Go.ChangeAt Go.Proofs.YtbpebafmnnofjaaGreatDoor
set_option maxRecDepth 100000

theorem laidOut : laidOutB Tryz.prog = true := by kernel_rfl
theorem mapsOk : mapsRowed Tryz.prog = true := by kernel_rfl
theorem slicesOk : ((List.range Tryz.prog.types.size).all fun t => match Tryz.prog.underlying t with | some (.slice e) => decide (0 < Tryz.prog.cellsOf e) | _ => true) = true := by kernel_rfl

theorem own : ownKnob Tryz.prog.godebug = none := by kernel_rfl
theorem gTab : Tryz.prog.globalNamed "math/bits.deBruijn64tab" = some 0 := by kernel_rfl
def γ0 : Nat → Option AV := fun g => if g = 0 then some tabAV else none
theorem table {W : World} {laid : List (String × DataW Unit)} (hl : laid = [("math/bits.deBruijn64tab", Rows.laid_math_bits_deBruijn64tab)]) (h : laidMet Tryz.prog laid W) : Lib.TabIs Tryz.prog W "math/bits.deBruijn64tab" .u8 (Lib.deBruijn64tab.map fun (n : Nat) => (n : Int)) := by
 subst hl
 exact Lib.tabIs_of_head (rest := []) gTab (t := 132) (by kernel_rfl) Tryz.underlying132 Tryz.underlying5 (by kernel_rfl) (by kernel_rfl) h
theorem gok0 {W : World} (h : Lib.TabIs Tryz.prog W "math/bits.deBruijn64tab" .u8 (Lib.deBruijn64tab.map fun (n : Nat) => (n : Int))) : ∀ g x, γ0 g = some x → R (Old W) W none (.vp (fun _ => x) 0) (.pointer (some ⟨g, 0, none⟩)) := by
 intro g x hg
 unfold γ0 at hg
 split at hg
 ·rename_i h0
  subst h0
  cases hg
  have hc := fun i hi => h.cell gTab i hi
  have hlen : Lib.deBruijn64tab.length = 64 := by decide
  have hcell : ∀ i : Nat, i < 64 → W.cell? ⟨0, i, none⟩ = some (.int .u8 (Lib.deBruijn64tab.getD i 0 : Nat)) := fun i hi => by
   have := hc i (by rw [List.length_map]; omega)
   rw [this]; congr 2
   simp [hlen, hi]
  have hlt : 0 < W.heap.size := by
   have := hcell 0 (by omega)
   unfold World.cell? at this
   split at this
   ·rename_i hb; exact (Array.getElem?_eq_some_iff.1 hb).1
   ·cases this
  refine ⟨⟨0, 0, none⟩, .agg (Lib.deBruijn64tab.map fun (n : Nat) => Value.int .u8 n).toArray, rfl, ⟨_, rfl, ?_⟩, hlt, fun j c hj => ?_⟩
  ·show Rs _ W none (Lib.deBruijn64tab.map fun (n : Nat) => .raw (.int .u8 n)) _
   generalize Lib.deBruijn64tab = l
   induction l with
   | nil => rfl
   | cons x l ih => exact ⟨_, _, rfl, rfl, ih⟩
  ·have hj' : (Lib.deBruijn64tab.map fun (n : Nat) => Value.int .u8 n)[j]? = some c := by simpa [Value.cells] using hj
   have hj2 : j < 64 := by have := (List.getElem?_eq_some_iff.1 hj').1; rw [List.length_map] at this; omega
   rw [Nat.zero_add, hcell j hj2, ← hj']
   simp [hlen, hj2]
 ·cases hg
theorem dInts : Dec Tryz.prog 22 (List Int) (fun l => [.vs 1 fun _ => is l]) fun l => l.length ≤ maxLen :=
 Dec.imap (Dec.slice Tryz.underlying22 (k := 1) (by kernel_rfl) (by omega) (Dec.int Tryz.underlying2) (fun _ => rfl) Elem.one) id (fun _ => rfl) fun _ h => h.1
theorem dEv : Dec Tryz.prog 56 Ev (fun e => [.i fun _ => e.kind, .i fun _ => e.loc, .i fun _ => e.order, .i fun _ => e.rd, .i fun _ => e.wr]) fun _ => True :=
 Dec.imap (Dec.struct5 Tryz.underlying56 (e := 3) (f := 2) (by kernel_rfl) (by kernel_rfl) (by kernel_rfl) (by kernel_rfl) (Dec.int Tryz.underlying3) (Dec.int Tryz.underlying2)) (fun p => ⟨p.1, p.2.1, p.2.2.1, p.2.2.2.1, p.2.2.2.2⟩) (fun _ => rfl) fun _ _ => trivial
theorem dId : Dec Tryz.prog 32 EId (fun e => [.i fun _ => e.t, .i fun _ => e.i]) fun _ => True :=
 Dec.imap (Dec.struct2 Tryz.underlying32 (t0 := 3) (t1 := 3) (s0 := 1) (s1 := 1) (by kernel_rfl) (by kernel_rfl) (by kernel_rfl) (by kernel_rfl) (Dec.int Tryz.underlying3) (Dec.int Tryz.underlying3)) (fun p => ⟨p.1, p.2⟩) (fun _ => rfl) fun _ _ => trivial
theorem dEvs : Dec Tryz.prog 50 (List Ev) (fun l => [.vs 5 fun _ => evs l]) fun l => l.length ≤ maxLen :=
 Dec.imap (Dec.slice Tryz.underlying50 (k := 5) (by kernel_rfl) (by omega) dEv (fun _ => rfl) (Elem.agg 5)) id (fun _ => rfl) fun _ h => h.1
theorem dIds : Dec Tryz.prog 30 (List EId) (fun l => [.vs 2 fun _ => ids l]) fun l => l.length ≤ maxLen :=
 Dec.imap (Dec.slice Tryz.underlying30 (k := 2) (by kernel_rfl) (by omega) dId (fun _ => rfl) (Elem.agg 2)) id (fun _ => rfl) fun _ h => h.1
theorem dEvss : Dec Tryz.prog 23 (List (List Ev)) (fun l => [.vs 1 fun _ => evss l]) fun l => l.length ≤ maxLen ∧ ∀ a ∈ l, a.length ≤ maxLen :=
 Dec.imap (Dec.slice Tryz.underlying23 (k := 1) (by kernel_rfl) (by omega) dEvs (fun _ => rfl) Elem.one) id (fun _ => rfl) fun _ h => h
theorem dIdss : Dec Tryz.prog 24 (List (List EId)) (fun l => [.vs 1 fun _ => idss l]) fun l => l.length ≤ maxLen ∧ ∀ a ∈ l, a.length ≤ maxLen :=
 Dec.imap (Dec.slice Tryz.underlying24 (k := 1) (by kernel_rfl) (by omega) dIds (fun _ => rfl) Elem.one) id (fun _ => rfl) fun _ h => h
theorem dGr : Dec Tryz.prog 26 Gr (fun g => [.vs 1 fun _ => is g.init, .vs 1 fun _ => evss g.th, .vs 1 fun _ => idss g.fr, .vs 1 fun _ => idss g.ord]) Rd :=
 Dec.imap (Dec.struct4 Tryz.underlying26 (t0 := 22) (t1 := 23) (t2 := 24) (t3 := 24) (by kernel_rfl) (by kernel_rfl) (by kernel_rfl) (by kernel_rfl) (by kernel_rfl) (by kernel_rfl) dInts dEvss dIdss dIdss)
  (fun p => ⟨p.1, p.2.1, p.2.2.1, p.2.2.2⟩) (fun _ => rfl) fun p h => by
   have e : maxLen = 9223372036854775807 := by decide +kernel
   obtain ⟨h0, ⟨h1, h1'⟩, ⟨h2, h2'⟩, h3, h3'⟩ := h
   rw [e] at *
   exact ⟨by dsimp only; omega, by dsimp only; omega, by dsimp only; omega, by dsimp only; omega, fun l hl => by have := h1' l hl; omega, fun l hl => by have := h2' l hl; omega, fun l hl => by have := h3' l hl; omega⟩
/-- A world for the witness: the settled one, the table holding what its initialiser lays. -/
noncomputable def laidWorld (os : Os) : World :=
 { World.holding Tryz.prog os ⟨#[], #[], []⟩ with heap := (World.holding Tryz.prog os ⟨#[], #[], []⟩).heap.modify 0 fun
   | .cells _ t frozen => .cells (Lib.deBruijn64tab.map fun (n : Nat) => Value.int .u8 n).toArray t frozen
   | o => o }

end Go.AL.Rl

namespace Go.AL
open Go Go.RowKit
section
variable {P : Program}
theorem Dec.struct3 {t : TypeId} {a : Array Field} (ht : P.underlying t = some (.struct a)) {t0 t1 t2 : TypeId} {s0 s1 s2 : Nat} (hfs : a.toList.map (fun f => (f.type, f.offset)) = [(t0, 0), (t1, s0), (t2, s0 + s1)])
  (h0 : P.cellsOf t0 = s0) (h1 : P.cellsOf t1 = s1) (h2 : P.cellsOf t2 = s2) (hs : P.cellsOf t = s0 + s1 + s2)
  {A0 A1 A2 : Type} {e0 : A0 → List AV} {e1 : A1 → List AV} {e2 : A2 → List AV} {k0 : A0 → Prop} {k1 : A1 → Prop} {k2 : A2 → Prop}
  (d0 : Dec P t0 A0 e0 k0) (d1 : Dec P t1 A1 e1 k1) (d2 : Dec P t2 A2 e2 k2) :
  Dec P t (A0 × A1 × A2) (fun p => e0 p.1 ++ (e1 p.2.1 ++ e2 p.2.2)) fun p => k0 p.1 ∧ k1 p.2.1 ∧ k2 p.2.2 := by
 refine Dec.fields ht rfl fun {H} enc w spare held n cs hl hf => ?_
 have get : ∀ t o, (t, o) ∈ a.toList.map (fun f => (f.type, f.offset)) → ∃ x, DataW.trod enc P w 0 spare held n t ((cs.drop o).take (P.cellsOf t)) = some x := fun t o hm => by
  obtain ⟨f, hf1, hf2⟩ := List.mem_map.1 hm
  cases hf2
  exact hf f hf1
 rw [hfs] at get
 obtain ⟨x0, g0⟩ := get t0 0 (by simp)
 obtain ⟨x1, g1⟩ := get t1 s0 (by simp)
 obtain ⟨x2, g2⟩ := get t2 (s0 + s1) (by simp)
 obtain ⟨a0, o0, r0⟩ := d0 _ _ _ _ _ _ _ g0
 obtain ⟨a1, o1, r1⟩ := d1 _ _ _ _ _ _ _ g1
 obtain ⟨a2, o2, r2⟩ := d2 _ _ _ _ _ _ _ g2
 refine ⟨(a0, a1, a2), ⟨o0, o1, o2⟩, ?_⟩
 rw [h0] at r0; rw [h1] at r1; rw [h2] at r2
 have hl := hl.trans hs
 have e : cs = cs.take s0 ++ ((cs.drop s0).take s1 ++ (cs.drop (s0 + s1)).take s2) := by
  have e1 : (cs.drop (s0 + s1)).take s2 = cs.drop (s0 + s1) := List.take_of_length_le (by simp; omega)
  rw [e1, ← List.drop_drop, List.take_append_drop, List.take_append_drop]
 rw [e]
 exact Rs_append (by simpa using r0) (Rs_append r1 r2)
end
end Go.AL
namespace Go.AL.Rl
open Go Go.AL Go.Proofs Go.RowKit Go.ChangeShapes Go.WideShapes Go.ChangeAt Go.Proofs.YtbpebafmnnofjaaGreatDoor
set_option maxRecDepth 100000

theorem dMk : Dec Tryz.prog 34 Mk (fun m => [.i fun _ => m.id.t, .i fun _ => m.id.i, .b fun _ => m.w]) fun _ => True :=
 Dec.imap (Dec.struct2 Tryz.underlying34 (t0 := 32) (t1 := 4) (s0 := 2) (s1 := 1) (by kernel_rfl) (by kernel_rfl) (by kernel_rfl) (by kernel_rfl) dId (Dec.bool Tryz.underlying4)) (fun p => ⟨p.1, p.2⟩) (fun _ => rfl) fun _ _ => trivial
theorem dMks : Dec Tryz.prog 27 (List Mk) (fun l => [.vs 3 fun _ => mks l]) fun l => l.length ≤ maxLen :=
 Dec.imap (Dec.slice Tryz.underlying27 (k := 3) (by kernel_rfl) (by omega) dMk (fun _ => rfl) (Elem.agg 3)) id (fun _ => rfl) fun _ h => h.1
theorem dSt : Dec Tryz.prog 29 Sta (fun s => [.vs 1 fun _ => is s.g.init, .vs 1 fun _ => evss s.g.th, .vs 1 fun _ => idss s.g.fr, .vs 1 fun _ => idss s.g.ord, .vs 3 fun _ => mks s.ms, .i fun _ => s.half]) (fun s => Rd s.g ∧ (s.ms.length : Int) ≤ 9223372036854775807) :=
 Dec.imap (Dec.struct3 Tryz.underlying29 (t0 := 26) (t1 := 27) (t2 := 3) (s0 := 4) (s1 := 1) (s2 := 1) (by kernel_rfl) (by kernel_rfl) (by kernel_rfl) (by kernel_rfl) (by kernel_rfl) dGr dMks (Dec.int Tryz.underlying3)) (fun p => ⟨p.1, p.2.1, p.2.2⟩) (fun _ => rfl) fun p h => by
  have e : maxLen = 9223372036854775807 := by decide +kernel
  obtain ⟨h0, h1, _⟩ := h
  rw [e] at h1
  exact ⟨h0, by dsimp only; omega⟩
theorem aState : Arg Tryz.prog 29 Sta aSt (fun s => Rd s.g ∧ (s.ms.length : Int) ≤ 9223372036854775807) := Arg.agg Tryz.underlying29 dSt
theorem aIds : Arg Tryz.prog 30 (List EId) (fun l => .vs 2 fun _ => ids l) (fun l => (l.length : Int) ≤ 9223372036854775807) := Arg.one Tryz.underlying30 trivial (Dec.imap dIds id (fun _ => rfl) fun l h => by
 have e : maxLen = 9223372036854775807 := by decide +kernel
 rw [e] at h
 show (l.length : Int) ≤ _
 omega)
end Go.AL.Rl

namespace Go.AL
open Go Go.RowKit Go.ChangeShapes Go.WideShapes
section
variable {P : Program}

/-- no slice that is met weighs more than an address reaches -/
def Fit {H : Type} (P : Program) (t : TypeId) (d : DataW H) : Prop := ∀ n ∈ d.weights P t, n ≤ reachBytes
theorem reachNum : reachBytes = 140737488351232 := by decide +kernel
def DecW (P : Program) (t : TypeId) (α : Type) (en : α → List AV) (ok wk : α → Prop) : Prop :=
 ∀ {H : Type} (enc : TypeId × Value → H) (w : World) (spare : Nat → Bool) (held : Bool) (fuel : Nat) (cs : List Value) (x : DataW H × List MemPlace),
  DataW.trod enc P w 0 spare held fuel t cs = some x → ∃ a, ok a ∧ (Fit P t x.1 → wk a) ∧ Rs (Old w) w none (en a) cs
theorem Dec.w {t : TypeId} {α : Type} {en : α → List AV} {ok : α → Prop} (d : Dec P t α en ok) : DecW P t α en ok fun _ => True := by
 intro H enc w spare held fuel cs x h
 obtain ⟨a, h1, h2⟩ := d _ _ _ _ _ _ _ h
 exact ⟨a, h1, fun _ => trivial, h2⟩
theorem DecW.imap {t : TypeId} {α β : Type} {en : α → List AV} {ok wk : α → Prop} {en' : β → List AV} {ok' wk' : β → Prop} (d : DecW P t α en ok wk) (f : α → β) (he : ∀ a, en a = en' (f a)) (hk : ∀ a, ok a → ok' (f a)) (hw : ∀ a, wk a → wk' (f a)) : DecW P t β en' ok' wk' := by
 intro H enc w spare held fuel cs x h
 obtain ⟨a, h1, h2, h3⟩ := d _ _ _ _ _ _ _ h
 exact ⟨f a, hk a h1, fun q => hw a (h2 q), by rw [← he]; exact h3⟩
theorem weightsAll_mem {H : Type} {e : TypeId} {d : DataW H} {n : Nat} (hn : n ∈ d.weights P e) : ∀ l : List (DataW H), d ∈ l → n ∈ DataW.weightsAll P e l
 | x :: l, h => by
  rw [DataW.weightsAll, List.mem_append]
  rcases List.mem_cons.1 h with rfl | h
  ·exact .inl hn
  ·exact .inr (weightsAll_mem hn l h)
theorem weightsEach_mem {H : Type} {d : DataW H} {t : TypeId} {n : Nat} (hn : n ∈ d.weights P t) : ∀ (i : Nat) (ts : List TypeId) (ds : List (DataW H)), ts[i]? = some t → ds[i]? = some d → n ∈ DataW.weightsEach P ts ds
 | 0, _ :: _, _ :: _, h1, h2 => by
  simp only [List.getElem?_cons_zero, Option.some.injEq] at h1 h2
  subst h1; subst h2
  rw [DataW.weightsEach, List.mem_append]
  exact .inl hn
 | i + 1, _ :: ts, _ :: ds, h1, h2 => by
  rw [DataW.weightsEach, List.mem_append]
  exact .inr (weightsEach_mem hn i ts ds (by simpa using h1) (by simpa using h2))
theorem fit_each {H : Type} {ts : List TypeId} {ds : List (DataW H)} (h : (DataW.weightsEach P ts ds).all (· ≤ reachBytes) = true) {i : Nat} {t : TypeId} {d : DataW H} (h1 : ts[i]? = some t) (h2 : ds[i]? = some d) : Fit P t d := fun n hn => by
 rw [List.all_eq_true] at h
 exact of_decide_eq_true (h n (weightsEach_mem hn i ts ds h1 h2))
theorem DecW.slice {t e : TypeId} (ht : P.underlying t = some (.slice e)) {k b : Nat} (hk : P.cellsOf e = k) (hb : P.bytesOf e = b) (hk0 : 0 < k) {α : Type} {en : α → List AV} {ok wk : α → Prop} {mk : List AV → AV} (he : DecW P e α en ok wk) (hone : ∀ a, (en a).all AV.one = true) (hm : Elem mk k) :
  DecW P t (List α) (fun l => [.vs k fun _ => LV.of (l.map fun a => mk (en a))]) (fun l => l.length ≤ maxLen ∧ ∀ a ∈ l, ok a) fun l => l.length * b ≤ reachBytes ∧ ∀ a ∈ l, wk a := by
 subst hk
 subst hb
 intro H enc w spare held fuel cs x h
 rcases DataW.trod_slice ht h with ⟨rfl, _⟩ | ⟨a, len, cap, elems, rest, n, rfl, rfl, rfl, _, h2, h3, h4, h5, _⟩
 ·exact ⟨[], ⟨by simp, by simp⟩, fun _ => ⟨by simp, by simp⟩, _, _, rfl, ⟨none, 0, [], rfl, Nat.le_refl _, rfl, .inl rfl⟩, rfl⟩
 ·have hF : Fit P t (DataW.slice (elems.map (·.1)) (rest.map (·.1))) → len * P.bytesOf e ≤ reachBytes ∧ ∀ y ∈ elems, Fit P e y.1 := fun h => by
   have key : ∀ m ∈ ((elems.map (·.1)).length + (rest.map (·.1)).length) * P.bytesOf e :: (DataW.weightsAll P e (elems.map (·.1)) ++ DataW.weightsAll P e (rest.map (·.1))), m ≤ reachBytes := by
    have := h
    unfold Fit at this
    rw [DataW.weights, ht] at this
    exact this
   refine ⟨?_, fun y hy m hm => key m (List.mem_cons_of_mem _ (List.mem_append_left _ (weightsAll_mem hm _ (List.mem_map_of_mem hy))))⟩
   have := key _ (List.mem_cons_self)
   refine Nat.le_trans (Nat.mul_le_mul_right _ ?_) this
   simp; omega
  have key : ∀ i : Nat, i < len → ∃ (c : List Value) (a' : α), w.cells? 0 (a.add (i * P.cellsOf e)) (P.cellsOf e) = some c ∧ ok a' ∧ (Fit P t (DataW.slice (elems.map (·.1)) (rest.map (·.1))) → wk a') ∧ Rs (Old w) w none (en a') c := by
   intro i hi
   have := h5 i hi
   rw [List.getElem?_eq_getElem (by omega)] at this
   simp only [Option.bind_eq_some_iff] at this
   obtain ⟨c, hc, hd⟩ := this
   obtain ⟨a', ha, hw, hr⟩ := he _ _ _ _ _ _ _ hd
   exact ⟨c, a', hc, ha, fun q => hw ((hF q).2 _ (List.getElem_mem _)), hr⟩
  have hlist := list_of_all (R' := fun (q : α × Value) (i : Nat) => (ok q.1 ∧ (Fit P t (DataW.slice (elems.map (·.1)) (rest.map (·.1))) → wk q.1)) ∧ q.2.cells.size = P.cellsOf e ∧ (∀ (j : Nat) (c : Value), q.2.cells[j]? = some c → w.cell? ((a.add (i * P.cellsOf e)).add j) = some c) ∧ R (Old w) w none (mk (en q.1)) q.2) (List.range len) fun i hi => by
   obtain ⟨c, a', hc, ha, hw, hr⟩ := key i (by simpa using hi)
   obtain ⟨hl, hg⟩ := cells?_get hc
   obtain ⟨v, hv, hr'⟩ := hm.val hl (hone a') hr
   refine ⟨(a', v), ⟨ha, hw⟩, by rw [← Array.length_toList, hv]; exact hl, fun j c' hj => hg j c' ?_, hr'⟩
   rw [← hv]; simpa using hj
  obtain ⟨qs, hq1, hq2⟩ := hlist
  rw [List.length_range] at hq1
  have hq : ∀ (i : Nat) (q : α × Value), qs[i]? = some q → (ok q.1 ∧ (Fit P t (DataW.slice (elems.map (·.1)) (rest.map (·.1))) → wk q.1)) ∧ q.2.cells.size = P.cellsOf e ∧ (∀ (j : Nat) (c : Value), q.2.cells[j]? = some c → w.cell? ((a.add (i * P.cellsOf e)).add j) = some c) ∧ R (Old w) w none (mk (en q.1)) q.2 := fun i q hi =>
   hq2 i q i hi (by
    have := (List.getElem?_eq_some_iff.1 hi).1
    rw [List.getElem?_range (by omega)])
  refine ⟨qs.map (·.1), ⟨by simp; omega, fun a' ha' => ?_⟩, fun q => ⟨by simp only [List.length_map, hq1]; exact (hF q).1, fun a' ha' => ?_⟩, _, _, rfl, ⟨some a, cap, qs.map (·.2), by simp [hq1], by simp; omega, ?_, ?_⟩, rfl⟩
  ·obtain ⟨q, hqm, rfl⟩ := List.mem_map.1 ha'
   obtain ⟨i, hi, rfl⟩ := List.mem_iff_getElem.1 hqm
   exact (hq i _ (List.getElem?_eq_getElem hi)).1.1
  ·obtain ⟨q', hqm, rfl⟩ := List.mem_map.1 ha'
   obtain ⟨i, hi, rfl⟩ := List.mem_iff_getElem.1 hqm
   exact (hq i _ (List.getElem?_eq_getElem hi)).1.2 q
  ·rw [RL_iff, LV.l_of, Rs_iff]
   refine ⟨by simp, fun i c v hc hv => ?_⟩
   simp only [List.map_map, List.getElem?_map, Option.map_eq_some_iff] at hc hv
   obtain ⟨q, hq', rfl⟩ := hc
   obtain ⟨q', hq'', rfl⟩ := hv
   rw [hq'] at hq''; cases hq''
   exact (hq i q hq').2.2.2
  ·cases hqs : qs with
   | nil => exact .inl rfl
   | cons q0 qr =>
    right
    have hlen : 0 < len := by rw [← hq1, hqs]; simp
    obtain ⟨_, hsz, hcell, _⟩ := hq 0 q0 (by rw [hqs]; rfl)
    have hc0 : ∃ c, q0.2.cells[0]? = some c := ⟨_, Array.getElem?_eq_getElem (by omega)⟩
    obtain ⟨c, hc⟩ := hc0
    have hw := hcell 0 c hc
    have ha0 : a.spot = none ∧ a.block < w.heap.size := by
     simp only [Nat.zero_mul, Addr.add, if_true] at hw
     unfold World.cell? at hw
     split at hw
     ·rename_i hb
      split at hw
      ·cases hw
      ·rename_i hs
       exact ⟨by simpa using hs, (Array.getElem?_eq_some_iff.1 hb).1⟩
     ·cases hw
    refine ⟨a, rfl, ha0.1, ha0.2, fun i ev hi => ?_⟩
    rw [← hqs] at hi
    simp only [List.getElem?_map, Option.map_eq_some_iff] at hi
    obtain ⟨q, hq', rfl⟩ := hi
    obtain ⟨_, h1, h2, _⟩ := hq i q hq'
    refine ⟨h1, fun j c hj => ?_⟩
    have := h2 j c hj
    have ea : (a.add (i * P.cellsOf e)).add j = ⟨a.block, a.off + (i * P.cellsOf e + j), none⟩ := by
     obtain ⟨b, o, s⟩ := a
     simp only at ha0
     obtain ⟨rfl, _⟩ := ha0
     simp only [Addr.add]
     by_cases h0 : i * P.cellsOf e = 0 <;> by_cases h1 : j = 0 <;> simp [h0, h1] <;> omega
    rw [← ea]; exact this
/-- fields, by their places -/
theorem DecW.fields {t : TypeId} {a : Array Field} (ht : P.underlying t = some (.struct a)) {α : Type} {en : α → List AV} {ok wk : α → Prop}
  (h : ∀ {H : Type} (enc : TypeId × Value → H) (w : World) (spare : Nat → Bool) (held : Bool) (n : Nat) (cs : List Value) (d : DataW H), cs.length = P.cellsOf t →
   (∀ t' o, (t', o) ∈ a.toList.map (fun f => (f.type, f.offset)) → ∃ x, DataW.trod enc P w 0 spare held n t' ((cs.drop o).take (P.cellsOf t')) = some x ∧ (Fit P t d → Fit P t' x.1)) → ∃ a, ok a ∧ (Fit P t d → wk a) ∧ Rs (Old w) w none (en a) cs) : DecW P t α en ok wk := by
 intro H enc w spare held fuel cs x hx
 obtain ⟨xs, n, rfl, rfl, h1, h2, h3⟩ := DataW.trod_struct ht hx
 refine h enc w spare held n cs _ h1 fun t' o hf => ?_
 obtain ⟨f, hf1, hf2⟩ := List.mem_map.1 hf
 cases hf2
 obtain ⟨i, hi, rfl⟩ := List.mem_iff_getElem.1 hf1
 have hi' : i < a.size := by simpa using hi
 have := h3 i a[i] (Array.getElem?_eq_getElem hi')
 rw [List.getElem?_eq_getElem (by omega)] at this
 refine ⟨_, by simpa using this, fun q m hm => q m ?_⟩
 rw [DataW.weights, ht]
 refine weightsEach_mem hm i _ _ ?_ ?_
 ·simp [hi']
 ·simp [show i < xs.length by omega]
theorem DecW.struct4 {t : TypeId} {a : Array Field} (ht : P.underlying t = some (.struct a)) {t0 t1 t2 t3 : TypeId} (hfs : a.toList.map (fun f => (f.type, f.offset)) = [(t0, 0), (t1, 1), (t2, 2), (t3, 3)])
  (h0 : P.cellsOf t0 = 1) (h1 : P.cellsOf t1 = 1) (h2 : P.cellsOf t2 = 1) (h3 : P.cellsOf t3 = 1) (hs : P.cellsOf t = 4)
  {A0 A1 A2 A3 : Type} {e0 : A0 → List AV} {e1 : A1 → List AV} {e2 : A2 → List AV} {e3 : A3 → List AV} {k0 w0 : A0 → Prop} {k1 w1 : A1 → Prop} {k2 w2 : A2 → Prop} {k3 w3 : A3 → Prop}
  (d0 : DecW P t0 A0 e0 k0 w0) (d1 : DecW P t1 A1 e1 k1 w1) (d2 : DecW P t2 A2 e2 k2 w2) (d3 : DecW P t3 A3 e3 k3 w3) :
  DecW P t (A0 × A1 × A2 × A3) (fun p => e0 p.1 ++ (e1 p.2.1 ++ (e2 p.2.2.1 ++ e3 p.2.2.2))) (fun p => k0 p.1 ∧ k1 p.2.1 ∧ k2 p.2.2.1 ∧ k3 p.2.2.2) fun p => w0 p.1 ∧ w1 p.2.1 ∧ w2 p.2.2.1 ∧ w3 p.2.2.2 := by
 refine DecW.fields ht fun {H} enc w spare held n cs d hl get => ?_
 rw [hfs] at get
 rw [hs] at hl
 match cs, hl with
 | [c0, c1, c2, c3], _ =>
  obtain ⟨x0, g0, f0⟩ := get t0 0 (by simp)
  obtain ⟨x1, g1, f1⟩ := get t1 1 (by simp)
  obtain ⟨x2, g2, f2⟩ := get t2 2 (by simp)
  obtain ⟨x3, g3, f3⟩ := get t3 3 (by simp)
  obtain ⟨a0, o0, p0, r0⟩ := d0 _ _ _ _ _ _ _ g0
  obtain ⟨a1, o1, p1, r1⟩ := d1 _ _ _ _ _ _ _ g1
  obtain ⟨a2, o2, p2, r2⟩ := d2 _ _ _ _ _ _ _ g2
  obtain ⟨a3, o3, p3, r3⟩ := d3 _ _ _ _ _ _ _ g3
  rw [h0] at r0; rw [h1] at r1; rw [h2] at r2; rw [h3] at r3
  exact ⟨(a0, a1, a2, a3), ⟨o0, o1, o2, o3⟩, fun q => ⟨p0 (f0 q), p1 (f1 q), p2 (f2 q), p3 (f3 q)⟩, Rs_append (vals := [c0]) r0 (Rs_append (vals := [c1]) r1 (Rs_append (vals := [c2]) r2 r3))⟩
theorem DecW.struct3 {t : TypeId} {a : Array Field} (ht : P.underlying t = some (.struct a)) {t0 t1 t2 : TypeId} {s0 s1 s2 : Nat} (hfs : a.toList.map (fun f => (f.type, f.offset)) = [(t0, 0), (t1, s0), (t2, s0 + s1)])
  (h0 : P.cellsOf t0 = s0) (h1 : P.cellsOf t1 = s1) (h2 : P.cellsOf t2 = s2) (hs : P.cellsOf t = s0 + s1 + s2)
  {A0 A1 A2 : Type} {e0 : A0 → List AV} {e1 : A1 → List AV} {e2 : A2 → List AV} {k0 w0 : A0 → Prop} {k1 w1 : A1 → Prop} {k2 w2 : A2 → Prop}
  (d0 : DecW P t0 A0 e0 k0 w0) (d1 : DecW P t1 A1 e1 k1 w1) (d2 : DecW P t2 A2 e2 k2 w2) :
  DecW P t (A0 × A1 × A2) (fun p => e0 p.1 ++ (e1 p.2.1 ++ e2 p.2.2)) (fun p => k0 p.1 ∧ k1 p.2.1 ∧ k2 p.2.2) fun p => w0 p.1 ∧ w1 p.2.1 ∧ w2 p.2.2 := by
 refine DecW.fields ht fun {H} enc w spare held n cs d hl get => ?_
 rw [hfs] at get
 obtain ⟨x0, g0, f0⟩ := get t0 0 (by simp)
 obtain ⟨x1, g1, f1⟩ := get t1 s0 (by simp)
 obtain ⟨x2, g2, f2⟩ := get t2 (s0 + s1) (by simp)
 obtain ⟨a0, o0, p0, r0⟩ := d0 _ _ _ _ _ _ _ g0
 obtain ⟨a1, o1, p1, r1⟩ := d1 _ _ _ _ _ _ _ g1
 obtain ⟨a2, o2, p2, r2⟩ := d2 _ _ _ _ _ _ _ g2
 refine ⟨(a0, a1, a2), ⟨o0, o1, o2⟩, fun q => ⟨p0 (f0 q), p1 (f1 q), p2 (f2 q)⟩, ?_⟩
 rw [h0] at r0; rw [h1] at r1; rw [h2] at r2
 have hl := hl.trans hs
 have e : cs = cs.take s0 ++ ((cs.drop s0).take s1 ++ (cs.drop (s0 + s1)).take s2) := by
  have e1 : (cs.drop (s0 + s1)).take s2 = cs.drop (s0 + s1) := List.take_of_length_le (by simp; omega)
  rw [e1, ← List.drop_drop, List.take_append_drop, List.take_append_drop]
 rw [e]
 exact Rs_append (by simpa using r0) (Rs_append r1 r2)
def ArgW (P : Program) (t : TypeId) (α : Type) (en : α → AV) (ok wk : α → Prop) : Prop :=
 ∀ {H : Type} (enc : TypeId × Value → H) (W : World) (base : Nat) (v : Value) (d : DataW H) (p : List MemPlace), Value.okWide P W .any base t v → DataW.Trod enc P W 0 (fun _ => true) true t v d p → ∃ a, ok a ∧ (Fit P t d → wk a) ∧ R (Old W) W none (en a) v
theorem ArgW.agg {t : TypeId} {a : Array Field} (ht : P.underlying t = some (.struct a)) {α : Type} {en : α → List AV} {ok wk : α → Prop} (h : DecW P t α en ok wk) : ArgW P t α (fun a => .agg (en a)) ok wk := by
 intro H enc W base v d p hok ⟨n, hn⟩
 simp only [Value.okWide, ht] at hok
 obtain ⟨cs, rfl, _⟩ := hok
 obtain ⟨x, h1, h3, h2⟩ := h _ _ _ _ _ _ _ hn
 exact ⟨x, h1, h3, cs.toList, by simp, by simpa [Value.cells] using h2⟩
end
end Go.AL

namespace Go.AL.Rl
open Go Go.AL Go.Proofs Go.RowKit Go.ChangeShapes Go.WideShapes Go.ChangeAt Go.Proofs.YtbpebafmnnofjaaGreatDoor
set_option maxRecDepth 100000

theorem wInts : DecW Tryz.prog 22 (List Int) (fun l => [.vs 1 fun _ => is l]) (fun l => l.length ≤ maxLen) fun l => l.length * 8 ≤ reachBytes :=
 DecW.imap (DecW.slice Tryz.underlying22 (k := 1) (b := 8) (by kernel_rfl) (by kernel_rfl) (by omega) (Dec.w (Dec.int Tryz.underlying2)) (fun _ => rfl) Elem.one) id (fun _ => rfl) (fun _ h => h.1) fun _ h => h.1
theorem wEvs : DecW Tryz.prog 50 (List Ev) (fun l => [.vs 5 fun _ => evs l]) (fun l => l.length ≤ maxLen) fun l => l.length * 40 ≤ reachBytes :=
 DecW.imap (DecW.slice Tryz.underlying50 (k := 5) (b := 40) (by kernel_rfl) (by kernel_rfl) (by omega) (Dec.w dEv) (fun _ => rfl) (Elem.agg 5)) id (fun _ => rfl) (fun _ h => h.1) fun _ h => h.1
theorem wIds : DecW Tryz.prog 30 (List EId) (fun l => [.vs 2 fun _ => ids l]) (fun l => l.length ≤ maxLen) fun l => l.length * 16 ≤ reachBytes :=
 DecW.imap (DecW.slice Tryz.underlying30 (k := 2) (b := 16) (by kernel_rfl) (by kernel_rfl) (by omega) (Dec.w dId) (fun _ => rfl) (Elem.agg 2)) id (fun _ => rfl) (fun _ h => h.1) fun _ h => h.1
theorem wEvss : DecW Tryz.prog 23 (List (List Ev)) (fun l => [.vs 1 fun _ => evss l]) (fun l => l.length ≤ maxLen ∧ ∀ a ∈ l, a.length ≤ maxLen) fun l => l.length * 24 ≤ reachBytes ∧ ∀ a ∈ l, a.length * 40 ≤ reachBytes :=
 DecW.imap (DecW.slice Tryz.underlying23 (k := 1) (b := 24) (by kernel_rfl) (by kernel_rfl) (by omega) wEvs (fun _ => rfl) Elem.one) id (fun _ => rfl) (fun _ h => h) fun _ h => h
theorem wIdss : DecW Tryz.prog 24 (List (List EId)) (fun l => [.vs 1 fun _ => idss l]) (fun l => l.length ≤ maxLen ∧ ∀ a ∈ l, a.length ≤ maxLen) fun l => l.length * 24 ≤ reachBytes ∧ ∀ a ∈ l, a.length * 16 ≤ reachBytes :=
 DecW.imap (DecW.slice Tryz.underlying24 (k := 1) (b := 24) (by kernel_rfl) (by kernel_rfl) (by omega) wIds (fun _ => rfl) Elem.one) id (fun _ => rfl) (fun _ h => h) fun _ h => h
theorem wGr : DecW Tryz.prog 26 Gr (fun g => [.vs 1 fun _ => is g.init, .vs 1 fun _ => evss g.th, .vs 1 fun _ => idss g.fr, .vs 1 fun _ => idss g.ord]) Rd RdB :=
 DecW.imap (DecW.struct4 Tryz.underlying26 (t0 := 22) (t1 := 23) (t2 := 24) (t3 := 24) (by kernel_rfl) (by kernel_rfl) (by kernel_rfl) (by kernel_rfl) (by kernel_rfl) (by kernel_rfl) wInts wEvss wIdss wIdss)
  (fun p => ⟨p.1, p.2.1, p.2.2.1, p.2.2.2⟩) (fun _ => rfl) (fun p h => by
   have e : maxLen = 9223372036854775807 := by decide +kernel
   obtain ⟨h0, ⟨h1, h1'⟩, ⟨h2, h2'⟩, h3, h3'⟩ := h
   rw [e] at *
   exact ⟨by dsimp only; omega, by dsimp only; omega, by dsimp only; omega, by dsimp only; omega, fun l hl => by have := h1' l hl; omega, fun l hl => by have := h2' l hl; omega, fun l hl => by have := h3' l hl; omega⟩) fun p h => by
   rw [reachNum] at h
   obtain ⟨h0, ⟨h1, h1'⟩, ⟨h2, h2'⟩, h3, h3'⟩ := h
   exact ⟨h0, h1, h2, h3, h1', h2', h3'⟩
theorem wMks : DecW Tryz.prog 27 (List Mk) (fun l => [.vs 3 fun _ => mks l]) (fun l => l.length ≤ maxLen) fun l => l.length * 24 ≤ reachBytes :=
 DecW.imap (DecW.slice Tryz.underlying27 (k := 3) (b := 24) (by kernel_rfl) (by kernel_rfl) (by omega) (Dec.w dMk) (fun _ => rfl) (Elem.agg 3)) id (fun _ => rfl) (fun _ h => h.1) fun _ h => h.1
theorem wSt : DecW Tryz.prog 29 Sta (fun s => [.vs 1 fun _ => is s.g.init, .vs 1 fun _ => evss s.g.th, .vs 1 fun _ => idss s.g.fr, .vs 1 fun _ => idss s.g.ord, .vs 3 fun _ => mks s.ms, .i fun _ => s.half]) (fun s => Rd s.g ∧ (s.ms.length : Int) ≤ 9223372036854775807) fun s => RdB s.g ∧ s.ms.length * 24 ≤ 140737488351232 :=
 DecW.imap (DecW.struct3 Tryz.underlying29 (t0 := 26) (t1 := 27) (t2 := 3) (s0 := 4) (s1 := 1) (s2 := 1) (by kernel_rfl) (by kernel_rfl) (by kernel_rfl) (by kernel_rfl) (by kernel_rfl) wGr wMks (Dec.w (Dec.int Tryz.underlying3))) (fun p => ⟨p.1, p.2.1, p.2.2⟩) (fun _ => rfl) (fun p h => by
  have e : maxLen = 9223372036854775807 := by decide +kernel
  obtain ⟨h0, h1, _⟩ := h
  rw [e] at h1
  exact ⟨h0, by dsimp only; omega⟩) fun p h => by
  obtain ⟨h0, h1, _⟩ := h
  rw [reachNum] at h1
  exact ⟨h0, h1⟩
theorem aStateW : ArgW Tryz.prog 29 Sta aSt (fun s => Rd s.g ∧ (s.ms.length : Int) ≤ 9223372036854775807) (fun s => RdB s.g ∧ s.ms.length * 24 ≤ 140737488351232) := ArgW.agg Tryz.underlying29 wSt
theorem aMark : Arg Tryz.prog 34 Mk aMk fun _ => True := Arg.agg Tryz.underlying34 dMk
end Go.AL.Rl
