import Derived.Test.YtjoggeafcdfidaaRn6
import Derived.OpenShut
import Derived.ReadAgain
import Derived.Deep.DeepHandedRow
import Derived.Lib.LaidTab
import Derived.ProofKit
import Derived.Test.YtjoggeafcdfidaaRows
set_option linter.unusedVariables false
set_option linter.unusedSimpArgs false
namespace Go.AL
open Go Go.RowKit
section
variable {P : Program} {γ : Nat → Option AV}
/-- a block that is cut within; what stands behind it is left alone -/
theorem AWPl.blockK {n id : Nat} {c : Code} {r : List Code} {Q : Exit → St → Prop} {A : St} (h : ∀ J : St → Prop, (∀ {A'}, AWPl P γ n r Q A' → J A') → AWPl P γ n (citems c) (inBlk id (thenE J Q)) A) : AWPl P γ n (.block id c :: r) Q A :=
 AWPl.block (h (fun A => AWPl P γ n r Q A) fun h => h)
end
end Go.AL
namespace Go.AL.Rl
open Go Go.AL Go.Proofs
set_option maxRecDepth 100000
set_option maxHeartbeats 3200000
variable {γ : Nat → Option AV}

def bls (l : List Bool) : LV := LV.of (l.map fun x => .b fun _ => x)
theorem bls_len (l : List Bool) : (bls l).l.length = l.length := by simp [bls]
theorem bls_get (l : List Bool) (i : Nat) (h : i < l.length) : (bls l).l.getD i .any = .b fun _ => l.getD i false := by simp [bls, h]
theorem bls_put (l : List Bool) (i : Nat) (x : Unit → Bool) (y : Bool) : LV.of ((bls l).l.set i ((AV.b x).upd 0 (.b fun _ => y))) = bls (l.set i y) := by
 unfold bls; rw [LV.l_of, List.map_set]; rfl
theorem evs_put (l : List Ev) (i : Nat) (a b c d e : Unit → Int) (f : Int) : LV.of ((evs l).l.set i ((AV.agg [.i a, .i b, .i c, .i d, .i e]).upd 2 (.i fun _ => f))) = evs (l.set i ⟨a (), b (), f, d (), e ()⟩) := by
 unfold evs; rw [LV.l_of, List.map_set]; rfl
theorem at_b (x : Unit → Bool) : ((AV.b x).at 0).asB = x () := rfl
theorem is_put' (a : List Int) (t : Nat) (x : Unit → Int) (y : Int) : LV.of ((is a).l.set t ((AV.i x).upd 0 (.i fun _ => y))) = is (a.set t y) := by
 unfold is; rw [LV.l_of, List.map_set]; rfl
theorem raceNone_main (g : Gr) (hg : GOk g) (hli : lightM 60 g = true) :
  Pure Try.prog γ false 5 [aGr g] (.b fun _ => true) := by
 have hR := rd_short hg
 have kl := lives17_ok (γ := γ)
 have ki := light_ok (γ := γ) g hR 60 (by omega) (by omega)
 rw [hli] at ki
 have kc := check14_ok (γ := γ) g hR
 rw [gcheck0 hg] at kc
 have hs := hg.short
 have hth := hs.th
 have hin := hs.init
 have hle := hs.at
 obtain ⟨n1, n2, n3, ko⟩ := rcopy_own (γ := γ) g (rdb_ok hg) hR
 refine Pure.goL (ty := ty) ty_eq mo Try.func5 rfl Try.ntmps5 Try.results5 Try.call5 (by simp) fun P C CQ D W F E hF => ?_
 refine E.cutI (ι := List Int × List Bool × List Bool) 11 (fun q => NSt g g.th.length 0 q.1 q.2.1 q.2.2) (fun q => told 171 [(1, .ptr 0 0), (3, .vp (fun _ => aGr (npG g)) 0), (5, .vs 1 fun _ => bls q.2.1), (6, .vs 1 fun _ => bls q.2.2)] [.box (aGr g)]) (by kernel_rfl) (fun _ => Nat.zero_le _) (fun I hI => ?_) (fun q hq => ?_)
 ·cbv
  repeat' (first
   |(refine E.c (SCalls.of_owns (ko) ?_ ?_);(· (cbv;(try simp only [nc] at *);first|done|(simp;done)|(simp (disch:=(first|omega|(simp only [lnS];omega))) only [rdT,rdS,anT];first|done|omega|(refine ⟨?_,?_⟩<;>omega))|(simp (disch:=(first|omega|(simp only [lnS];omega))) [rdT,rdS];done)));cbv)
   |(refine E.c (SCalls.of_le (kc) ?_ ?_);(· (cbv;(try simp only [nc] at *);first|done|(simp;done)|(simp (disch:=(first|omega|(simp only [lnS];omega))) only [rdT,rdS,anT];first|done|omega|(refine ⟨?_,?_⟩<;>omega))|(simp (disch:=(first|omega|(simp only [lnS];omega))) [rdT,rdS];done)));cbv)
   |(refine E.c (SCalls.of_le (ki) ?_ ?_);(· (cbv;(try simp only [nc] at *);first|done|(simp;done)|(simp (disch:=(first|omega|(simp only [lnS];omega))) only [rdT,rdS,anT];first|done|omega|(refine ⟨?_,?_⟩<;>omega))|(simp (disch:=(first|omega|(simp only [lnS];omega))) [rdT,rdS];done)));cbv)
   |(refine E.c (SCalls.of_le (kl) ?_ ?_);(· (cbv;(try simp only [nc] at *);first|done|(simp;done)|(simp (disch:=(first|omega|(simp only [lnS];omega))) only [rdT,rdS,anT];first|done|omega|(refine ⟨?_,?_⟩<;>omega))|(simp (disch:=(first|omega|(simp only [lnS];omega))) [rdT,rdS];done)));cbv)
   |(refine ⟨fun _ h_s=>?_,fun _ h_s=>?_⟩<;>(cbv;(try simp only [nc] at *);try simp (disch:=(first|omega|(simp only [lnS];omega))) only [rdT,rdS,reduceCtorEq,trT] at h_s))
   |(refine hF ?_;intro _;clear hF)
   |(refine hF ?_;cbv;clear hF)
   |(refine ⟨fun _=>?_,?_⟩;(· ((try simp only [nc] at *);first|done|omega|exact ⟨by omega,rfl⟩|(simp (disch:=(first|omega|(simp only [lnS];omega))) only [rdT,rdS];first|done|omega|rfl|exact ⟨by omega,rfl⟩|(simp;done)|(simp;omega))|(intros;trivial)));(try (simp only [nc] at *));(try simp (disch:=(first|omega|(simp only [lnS];omega))) only [rdT,rdS]);(try cbv))
   |(refine E.d 19 (by decide +kernel) ?_;cbv;(fail_if_success guard_target =~ False))
   |(refine E.d 34 (by decide +kernel) ?_;cbv;(fail_if_success guard_target =~ False))
   | fail
  )
  all_goals (try (exfalso; revert h_s; simp; done))
  refine E.loopC (ι := Nat × List Int × List Bool × List Bool) (fun q => q.1 ≤ g.th.length ∧ NSt g q.1 0 q.2.1 q.2.2.1 q.2.2.2) (fun q => g.th.length - q.1) (fun q => [(7, .i fun _ => ((q.1 : Nat) : Int))]) (fun q => [.box (aGr g), .any, .any, .run 0 1 fun _ => is g.init, .any, .nest n1 5 (fun _ => evL (npT g q.1 0)) none, .nest n2 2 (fun _ => idL g.fr) none, .nest n3 2 (fun _ => idL g.ord) none, .box (cpV g n1 n2 n3 3 5 6 7), .run 0 1 (fun _ => is q.2.1), .run 0 1 (fun _ => bls q.2.2.1), .run 0 1 (fun _ => bls q.2.2.2)]) (0, List.replicate g.init.length 0, List.replicate g.init.length false, List.replicate g.init.length false) rfl (fun _ => rfl) ⟨Nat.zero_le _, nst_zero g⟩ ?_ fun q hq I2 hI2 => ?_
  ·cbv; simp [npT_zero, is, bls]
  obtain ⟨t, thr, wr, sv⟩ := q
  obtain ⟨ht, S⟩ := hq
  simp only at ht S
  refine E.at 2 fun J hJ => ?_
  cbv
  repeat' (first
   |(refine ⟨fun _ h_s=>?_,fun _ h_s=>?_⟩<;>(cbv;(try simp only [nc] at *);try simp (disch:=(first|omega|(simp only [lnS];omega))) only [rdT,rdS,reduceCtorEq,trT] at h_s))
   |(refine hF ?_;intro _;clear hF)
   |(refine hF ?_;cbv;clear hF)
   |(refine ⟨fun _=>?_,?_⟩;(· ((try simp only [nc] at *);first|done|omega|exact ⟨by omega,rfl⟩|(simp (disch:=(first|omega|(simp only [lnS];omega))) only [rdT,rdS];first|done|omega|rfl|exact ⟨by omega,rfl⟩|(simp;done)|(simp;omega))|(intros;trivial)));(try (simp only [nc] at *));(try simp (disch:=(first|omega|(simp only [lnS];omega))) only [rdT,rdS]);(try cbv))
   |(refine E.d 19 (by decide +kernel) ?_;cbv;(fail_if_success guard_target =~ False))
   |(refine E.d 34 (by decide +kernel) ?_;cbv;(fail_if_success guard_target =~ False))
   | fail
  )
  ·have htt : t < g.th.length := by ((try simp only [nc] at *); omega)
   have hnl := npT_len g t
   have hget := fun i => npT_get g t i htt
   simp only [if_neg (Nat.lt_irrefl t), if_true] at hget
   have hset := fun i j => npT_set g t i htt _ rfl j
   have hfull := npT_full g t htt
   have htu := fun thr wr sv => nst_turn (g := g) (t := t) (thr := thr) (wr := wr) (sv := sv)
   have hev := (hg.events t htt).2
   have hel := hle t
   obtain ⟨l, hl⟩ : ∃ l, l = g.th.getD t [] := ⟨_, rfl⟩
   refine hJ (AWPl.blockK fun J2 hJ2 => E.bl ?_)
   clear hJ
   cbv
   repeat' (first
    |(refine ⟨fun _ h_s=>?_,fun _ h_s=>?_⟩<;>(cbv;(try simp only [nc] at *);try simp (disch:=(first|omega|(simp only [lnS];omega))) only [rdT,rdS,reduceCtorEq,trT] at h_s))
    |(refine hF ?_;intro _;clear hF)
    |(refine hF ?_;cbv;clear hF)
    |(refine ⟨fun _=>?_,?_⟩;(· ((try simp only [nc] at *);first|done|omega|exact ⟨by omega,rfl⟩|(simp (disch:=(first|omega|(simp only [lnS];omega))) only [rdT,rdS];first|done|omega|rfl|exact ⟨by omega,rfl⟩|(simp;done)|(simp;omega))|(intros;trivial)));(try (simp only [nc] at *));(try simp (disch:=(first|omega|(simp only [lnS];omega))) only [rdT,rdS]);(try cbv))
    |(refine E.d 19 (by decide +kernel) ?_;cbv;(fail_if_success guard_target =~ False))
    |(refine E.d 34 (by decide +kernel) ?_;cbv;(fail_if_success guard_target =~ False))
    | fail
   )
   obtain ⟨X, hX⟩ : ∃ X : Nat → List Ev, ∀ i, X i = (l.take i).map npE ++ l.drop i := ⟨_, fun _ => rfl⟩
   have hX0 : X 0 = l := by rw [hX]; simp
   have hXl : ∀ i, i ≤ l.length → (X i).length = l.length := fun i hi => by rw [hX]; simp; omega
   have hXe : ∀ i, i < l.length → (X i).getD i ev0 = l.getD i ev0 := fun i hi => by
    rw [hX, List.getD_eq_getElem?_getD, List.getElem?_append_right (by simp; omega)]
    simp [Nat.min_eq_left (Nat.le_of_lt hi), List.getElem?_drop]
   have hXs : ∀ i, i < l.length → (X i).set i (npE (l.getD i ev0)) = X (i + 1) := fun i hi => by
    rw [hX, hX, take_succ' l i ev0 hi, List.set_append, if_neg (by simp; omega), List.map_append, List.append_assoc]
    congr 1
    have e1 : i - (List.map npE (List.take i l)).length = 0 := by simp; omega
    have e2 : l.getD i ev0 = l[i] := gD' hi
    rw [e1, List.drop_eq_getElem_cons hi, e2]
    rfl
   have hXf : X l.length = l.map npE := by rw [hX]; simp
   rw [← hl] at hfull
   simp only [← hl, ← hX] at hget hset
   clear hX
   refine E.loopC (ι := Nat × List Int × List Bool × List Bool) (fun q => q.1 ≤ l.length ∧ NSt g t q.1 q.2.1 q.2.2.1 q.2.2.2) (fun q => l.length - q.1) (fun q => [(8, .i fun _ => ((q.1 : Nat) : Int))]) (fun q => [.box (aGr g), .any, .any, .run 0 1 fun _ => is g.init, .any, .nest n1 5 (fun _ => evL (npT g t q.1)) none, .nest n2 2 (fun _ => idL g.fr) none, .nest n3 2 (fun _ => idL g.ord) none, .box (cpV g n1 n2 n3 3 5 6 7), .run 0 1 (fun _ => is q.2.1), .run 0 1 (fun _ => bls q.2.2.1), .run 0 1 (fun _ => bls q.2.2.2)]) (0, thr, wr, sv) rfl (fun _ => rfl) ⟨Nat.zero_le _, S⟩ ?_ fun q hq I3 hI3 => ?_
   ·cbv; simp
   obtain ⟨i, th2, wr2, sv2⟩ := q
   obtain ⟨hi, S2⟩ := hq
   simp only at hi S2
   have f1 := hXl i hi
   have hel2 : l.length ≤ 14 := by rw [hl]; exact hel
   have s1 := S2.l1
   have s2 := S2.l2
   have s3 := S2.l3
   refine AWPl.step (Step.takeE 5 rfl (fun _ => t) (fun _ => evs (X i)) (fun _ => l.length) (fun _ => by rw [evL_len, hnl]; exact htt) fun _ => ⟨by rw [evL_get, hget], by rw [evs_len, f1]⟩) rfl ?_
   refine E.at 3 fun J3 hJ3 => ?_
   cbv
   skip
   skip
   skip
   skip
   skip
   rcases Nat.lt_or_ge i l.length with hil | hil
   ·have f2 := hXe i hil
    have f3 := hXs i hil
    have f4 := hev i (by rw [← hl]; exact hil)
    rw [← hl] at f4
    have f6 := hXl (i + 1) hil
    have f7 : (X (i + 1)).getD i ev0 = npE (l.getD i ev0) := by
     rw [← f3, gD' (by rw [List.length_set, f1]; exact hil), List.getElem_set_self]
    obtain ⟨e, he⟩ : ∃ e, e = l.getD i ev0 := ⟨_, rfl⟩
    rw [← he] at f2 f3 f4 f7
    by_cases hk : e.kind = 4
    ·have S3 := nst_fence S2 (by rw [← hl, ← he]; exact hk)
     by_cases ho : e.order = 1
     ·have hn : npE e = ⟨e.kind, e.loc, 2, e.rd, e.wr⟩ := if_pos ho
      rw [hn] at f3 f7
      skip
      repeat' (first
       | ((refine br_t ?_ ?_; (· (simp [hk, ho]; done)); cbv))
       |(refine ⟨fun _ h_s=>?_,fun _ h_s=>?_⟩<;>(cbv;(try simp only [nc] at *);try simp (disch:=(first|omega|(simp only [lnS,bls_len];omega))) only [rdT,rdS,bls_len,bls_get,Nat.zero_add,evs_put,bls_put,at_b,is_put',f2,f3,f7,reduceCtorEq,trT] at h_s))
       |(refine hF ?_;intro _;clear hF)
       |(refine hF ?_;cbv;clear hF)
       |(refine ⟨fun _=>?_,?_⟩;(· ((try simp only [nc] at *);first|done|omega|exact ⟨by omega,rfl⟩|(simp (disch:=(first|omega|(simp only [lnS,bls_len];omega))) only [rdT,rdS,bls_len,bls_get,Nat.zero_add,evs_put,bls_put,at_b,is_put',f2,f3,f7];first|done|omega|rfl|exact ⟨by omega,rfl⟩|(simp;done)|(simp;omega))|(intros;trivial)|exact ⟨by first|trivial|rfl,by first|rfl|trivial|omega,by rw [evL_len,hnl];exact htt⟩|exact ⟨by first|trivial|rfl,by omega⟩|exact ⟨trivial,by omega,rfl⟩|(refine ⟨trivial,by rw [evs_len];omega,?_⟩;rw [evs_get _ _ (by omega)];rfl)));(try (simp only [nc] at *));(try simp (disch:=(first|omega|(simp only [lnS,bls_len];omega))) only [rdT,rdS,bls_len,bls_get,Nat.zero_add,evs_put,bls_put,at_b,is_put',f2,f3,f7]);(try cbv))
       |(refine E.d 19 (by decide +kernel) ?_;cbv;(fail_if_success guard_target =~ False))
       |(refine E.d 34 (by decide +kernel) ?_;cbv;(fail_if_success guard_target =~ False))
       | fail
      )
      all_goals (try (exfalso; ((try simp only [nc] at *); omega)))
      all_goals
       refine hJ3 (AWPl.step (Step.putE 5 12 (fun _ => evL (npT g t (i + 1))) rfl rfl fun _ => ⟨⟨rfl, rfl, by rw [evs_len, f6]⟩, by rw [evL_set, hset]⟩) rfl (E.bl ?_))
       cbv
       repeat' (first
        |(refine ⟨fun _ h_s=>?_,fun _ h_s=>?_⟩<;>(cbv;(try simp only [nc] at *);try simp (disch:=(first|omega|(simp only [lnS,bls_len];omega))) only [rdT,rdS,bls_len,bls_get,Nat.zero_add,evs_put,bls_put,at_b,is_put',f2,f3,f7,reduceCtorEq,trT] at h_s))
        |(refine hF ?_;intro _;clear hF)
        |(refine hF ?_;cbv;clear hF)
        |(refine ⟨fun _=>?_,?_⟩;(· ((try simp only [nc] at *);first|done|omega|exact ⟨by omega,rfl⟩|(simp (disch:=(first|omega|(simp only [lnS,bls_len];omega))) only [rdT,rdS,bls_len,bls_get,Nat.zero_add,evs_put,bls_put,at_b,is_put',f2,f3,f7];first|done|omega|rfl|exact ⟨by omega,rfl⟩|(simp;done)|(simp;omega))|(intros;trivial)|exact ⟨by first|trivial|rfl,by first|rfl|trivial|omega,by rw [evL_len,hnl];exact htt⟩|exact ⟨by first|trivial|rfl,by omega⟩|exact ⟨trivial,by omega,rfl⟩|(refine ⟨trivial,by rw [evs_len];omega,?_⟩;rw [evs_get _ _ (by omega)];rfl)));(try (simp only [nc] at *));(try simp (disch:=(first|omega|(simp only [lnS,bls_len];omega))) only [rdT,rdS,bls_len,bls_get,Nat.zero_add,evs_put,bls_put,at_b,is_put',f2,f3,f7]);(try cbv))
        |(refine E.d 19 (by decide +kernel) ?_;cbv;(fail_if_success guard_target =~ False))
        |(refine E.d 34 (by decide +kernel) ?_;cbv;(fail_if_success guard_target =~ False))
        | fail
       )
       refine hI3 (i + 1, th2, wr2, sv2) ⟨hil, S3⟩ (by simp only; omega) ?_
       cbv
       simp
       exact w64_of (by ((try simp only [nc] at *); omega)) (by ((try simp only [nc] at *); omega))
     ·have hn : npE e = e := if_neg ho
      rw [hn] at f3 f7
      have f8 : X (i + 1) = X i := by
       rw [← f3]
       apply List.ext_getElem (by simp)
       intro j h1 h2
       rw [List.getElem_set]
       split
       ·rename_i e1; subst e1; rw [← f2, gD' h2]
       ·rfl
      skip
      repeat' (first
       | ((refine br_f ?_ ?_; (· (simp [hk, ho]; done)); cbv))
       | ((refine br_t ?_ ?_; (· (simp [hk, ho]; done)); cbv))
       |(refine ⟨fun _ h_s=>?_,fun _ h_s=>?_⟩<;>(cbv;(try simp only [nc] at *);try simp (disch:=(first|omega|(simp only [lnS,bls_len];omega))) only [rdT,rdS,bls_len,bls_get,Nat.zero_add,evs_put,bls_put,at_b,is_put',f2,f3,f7,f2,reduceCtorEq,trT] at h_s))
       |(refine hF ?_;intro _;clear hF)
       |(refine hF ?_;cbv;clear hF)
       |(refine ⟨fun _=>?_,?_⟩;(· ((try simp only [nc] at *);first|done|omega|exact ⟨by omega,rfl⟩|(simp (disch:=(first|omega|(simp only [lnS,bls_len];omega))) only [rdT,rdS,bls_len,bls_get,Nat.zero_add,evs_put,bls_put,at_b,is_put',f2,f3,f7,f2];first|done|omega|rfl|exact ⟨by omega,rfl⟩|(simp;done)|(simp;omega))|(intros;trivial)|exact ⟨by first|trivial|rfl,by first|rfl|trivial|omega,by rw [evL_len,hnl];exact htt⟩|exact ⟨by first|trivial|rfl,by omega⟩|exact ⟨trivial,by omega,rfl⟩|(refine ⟨trivial,by rw [evs_len];omega,?_⟩;rw [evs_get _ _ (by omega)];rfl)));(try (simp only [nc] at *));(try simp (disch:=(first|omega|(simp only [lnS,bls_len];omega))) only [rdT,rdS,bls_len,bls_get,Nat.zero_add,evs_put,bls_put,at_b,is_put',f2,f3,f7,f2]);(try cbv))
       |(refine E.d 19 (by decide +kernel) ?_;cbv;(fail_if_success guard_target =~ False))
       |(refine E.d 34 (by decide +kernel) ?_;cbv;(fail_if_success guard_target =~ False))
       | fail
      )
      all_goals (try (exfalso; ((try simp only [nc] at *); omega)))
      all_goals
       refine hJ3 (AWPl.step (Step.putE 5 12 (fun _ => evL (npT g t (i + 1))) rfl rfl fun _ => ⟨⟨rfl, rfl, by rw [evs_len, f1]⟩, by rw [← f8, evL_set, hset]⟩) rfl (E.bl ?_))
       cbv
       repeat' (first
        |(refine ⟨fun _ h_s=>?_,fun _ h_s=>?_⟩<;>(cbv;(try simp only [nc] at *);try simp (disch:=(first|omega|(simp only [lnS,bls_len];omega))) only [rdT,rdS,bls_len,bls_get,Nat.zero_add,evs_put,bls_put,at_b,is_put',f2,f3,f7,f2,reduceCtorEq,trT] at h_s))
        |(refine hF ?_;intro _;clear hF)
        |(refine hF ?_;cbv;clear hF)
        |(refine ⟨fun _=>?_,?_⟩;(· ((try simp only [nc] at *);first|done|omega|exact ⟨by omega,rfl⟩|(simp (disch:=(first|omega|(simp only [lnS,bls_len];omega))) only [rdT,rdS,bls_len,bls_get,Nat.zero_add,evs_put,bls_put,at_b,is_put',f2,f3,f7,f2];first|done|omega|rfl|exact ⟨by omega,rfl⟩|(simp;done)|(simp;omega))|(intros;trivial)|exact ⟨by first|trivial|rfl,by first|rfl|trivial|omega,by rw [evL_len,hnl];exact htt⟩|exact ⟨by first|trivial|rfl,by omega⟩|exact ⟨trivial,by omega,rfl⟩|(refine ⟨trivial,by rw [evs_len];omega,?_⟩;rw [evs_get _ _ (by omega)];rfl)));(try (simp only [nc] at *));(try simp (disch:=(first|omega|(simp only [lnS,bls_len];omega))) only [rdT,rdS,bls_len,bls_get,Nat.zero_add,evs_put,bls_put,at_b,is_put',f2,f3,f7,f2]);(try cbv))
        |(refine E.d 19 (by decide +kernel) ?_;cbv;(fail_if_success guard_target =~ False))
        |(refine E.d 34 (by decide +kernel) ?_;cbv;(fail_if_success guard_target =~ False))
        | fail
       )
       refine hI3 (i + 1, th2, wr2, sv2) ⟨hil, S3⟩ (by simp only; omega) ?_
       cbv
       simp
       exact w64_of (by ((try simp only [nc] at *); omega)) (by ((try simp only [nc] at *); omega))
    ·obtain ⟨x, hx, hxl⟩ : ∃ x : Nat, e.loc = (x : Int) ∧ x < g.init.length := by
      unfold fineM at f4
      simp only [Bool.and_eq_true] at f4
      have h4 := f4.2
      rw [if_neg hk, decide_eq_true_eq] at h4
      exact ⟨e.loc.toNat, by ((try simp only [nc] at *); omega), by ((try simp only [nc] at *); omega)⟩
     have St := fun {bw bs} => nst_step S2 (e := e) (by rw [← hl, ← he]) hx hxl (bw := bw) (bs := bs)
     obtain ⟨kd, lc, od, er, ew⟩ := e
     simp only at hx hk f2 f3 f7 St
     subst hx
     obtain ⟨bw, hbw⟩ : ∃ b, wr2.getD x false = b := ⟨_, rfl⟩
     obtain ⟨bs, hbs⟩ : ∃ b, sv2.getD x false = b := ⟨_, rfl⟩
     obtain ⟨tv, htv⟩ : ∃ b, th2.getD x 0 = b := ⟨_, rfl⟩
     rw [hbw, hbs, htv] at St
     skip
     by_cases ho : od = 1
     ·have hn : npE ⟨kd, (x : Int), od, er, ew⟩ = ⟨kd, (x : Int), 2, er, ew⟩ := if_pos ho
      rw [hn] at f3 f7
      skip
      repeat' (first
       | ((refine br_f ?_ ?_; (· (simp [hk]; done)); cbv))
       | ((refine br_t ?_ ?_; (· (simp [ho]; done)); cbv))
       |(refine ⟨fun _ h_s=>?_,fun _ h_s=>?_⟩<;>(cbv;(try simp only [nc] at *);try simp (disch:=(first|omega|(simp only [lnS,bls_len];omega))) only [rdT,rdS,bls_len,bls_get,Nat.zero_add,evs_put,bls_put,at_b,is_put',f2,f3,f7,f2,hbw,hbs,htv,f2,f3,f7,reduceCtorEq,trT] at h_s))
       |(refine hF ?_;intro _;clear hF)
       |(refine hF ?_;cbv;clear hF)
       |(refine ⟨fun _=>?_,?_⟩;(· ((try simp only [nc] at *);first|done|omega|exact ⟨by omega,rfl⟩|(simp (disch:=(first|omega|(simp only [lnS,bls_len];omega))) only [rdT,rdS,bls_len,bls_get,Nat.zero_add,evs_put,bls_put,at_b,is_put',f2,f3,f7,f2,hbw,hbs,htv,f2,f3,f7];first|done|omega|rfl|exact ⟨by omega,rfl⟩|(simp;done)|(simp;omega))|(intros;trivial)|exact ⟨by first|trivial|rfl,by first|rfl|trivial|omega,by rw [evL_len,hnl];exact htt⟩|exact ⟨by first|trivial|rfl,by omega⟩|exact ⟨trivial,by omega,rfl⟩|(refine ⟨trivial,by rw [evs_len];omega,?_⟩;rw [evs_get _ _ (by omega)];rfl)));(try (simp only [nc] at *));(try simp (disch:=(first|omega|(simp only [lnS,bls_len];omega))) only [rdT,rdS,bls_len,bls_get,Nat.zero_add,evs_put,bls_put,at_b,is_put',f2,f3,f7,f2,hbw,hbs,htv,f2,f3,f7]);(try cbv))
       |(refine E.d 19 (by decide +kernel) ?_;cbv;(fail_if_success guard_target =~ False))
       |(refine E.d 34 (by decide +kernel) ?_;cbv;(fail_if_success guard_target =~ False))
       | fail
      )
      all_goals (try (exfalso; ((try simp only [nc] at *); omega)))
      all_goals
       refine hJ3 (AWPl.step (Step.putE 5 12 (fun _ => evL (npT g t (i + 1))) rfl rfl fun _ => ⟨⟨rfl, rfl, by rw [evs_len, f6]⟩, by rw [evL_set, hset]⟩) rfl (E.bl ?_))
       cbv
       repeat' (first
        |(refine ⟨fun _ h_s=>?_,fun _ h_s=>?_⟩<;>(cbv;(try simp only [nc] at *);try simp (disch:=(first|omega|(simp only [lnS,bls_len];omega))) only [rdT,rdS,bls_len,bls_get,Nat.zero_add,evs_put,bls_put,at_b,is_put',f2,f3,f7,f2,hbw,hbs,htv,f2,f3,f7,reduceCtorEq,trT] at h_s))
        |(refine hF ?_;intro _;clear hF)
        |(refine hF ?_;cbv;clear hF)
        |(refine ⟨fun _=>?_,?_⟩;(· ((try simp only [nc] at *);first|done|omega|exact ⟨by omega,rfl⟩|(simp (disch:=(first|omega|(simp only [lnS,bls_len];omega))) only [rdT,rdS,bls_len,bls_get,Nat.zero_add,evs_put,bls_put,at_b,is_put',f2,f3,f7,f2,hbw,hbs,htv,f2,f3,f7];first|done|omega|rfl|exact ⟨by omega,rfl⟩|(simp;done)|(simp;omega))|(intros;trivial)|exact ⟨by first|trivial|rfl,by first|rfl|trivial|omega,by rw [evL_len,hnl];exact htt⟩|exact ⟨by first|trivial|rfl,by omega⟩|exact ⟨trivial,by omega,rfl⟩|(refine ⟨trivial,by rw [evs_len];omega,?_⟩;rw [evs_get _ _ (by omega)];rfl)));(try (simp only [nc] at *));(try simp (disch:=(first|omega|(simp only [lnS,bls_len];omega))) only [rdT,rdS,bls_len,bls_get,Nat.zero_add,evs_put,bls_put,at_b,is_put',f2,f3,f7,f2,hbw,hbs,htv,f2,f3,f7]);(try cbv))
        |(refine E.d 19 (by decide +kernel) ?_;cbv;(fail_if_success guard_target =~ False))
        |(refine E.d 34 (by decide +kernel) ?_;cbv;(fail_if_success guard_target =~ False))
        | fail
       )
       refine hI3 (i + 1, th2.set x ((t : Int) + 1), wr2.set x (bw || decide (kd ≠ 1)), sv2.set x (bs || (decide (tv ≠ 0) && decide (tv ≠ (t : Int) + 1)))) ⟨hil, St rfl rfl⟩ (by simp only; omega) ?_
       cbv
       have e64 : w64 ((i : Int) + 1) = (i : Int) + 1 := w64_of (by ((try simp only [nc] at *); omega)) (by ((try simp only [nc] at *); omega))
       have e65 : w64 ((t : Int) + 1) = (t : Int) + 1 := w64_of (by ((try simp only [nc] at *); omega)) (by ((try simp only [nc] at *); omega))
       simp [*, is_put']
     ·have hn : npE ⟨kd, (x : Int), od, er, ew⟩ = ⟨kd, (x : Int), od, er, ew⟩ := if_neg ho
      rw [hn] at f3 f7
      have f8 : X (i + 1) = X i := by
       rw [← f3]
       apply List.ext_getElem (by simp)
       intro j h1 h2
       rw [List.getElem_set]
       split
       ·rename_i e1; subst e1; rw [← f2, gD' h2]
       ·rfl
      skip
      repeat' (first
       | ((refine br_f ?_ ?_; (· (simp [hk]; done)); cbv))
       | ((refine br_f ?_ ?_; (· (simp [ho]; done)); cbv))
       |(refine ⟨fun _ h_s=>?_,fun _ h_s=>?_⟩<;>(cbv;(try simp only [nc] at *);try simp (disch:=(first|omega|(simp only [lnS,bls_len];omega))) only [rdT,rdS,bls_len,bls_get,Nat.zero_add,evs_put,bls_put,at_b,is_put',f2,f3,f7,f2,hbw,hbs,htv,f2,f3,f7,f2,reduceCtorEq,trT] at h_s))
       |(refine hF ?_;intro _;clear hF)
       |(refine hF ?_;cbv;clear hF)
       |(refine ⟨fun _=>?_,?_⟩;(· ((try simp only [nc] at *);first|done|omega|exact ⟨by omega,rfl⟩|(simp (disch:=(first|omega|(simp only [lnS,bls_len];omega))) only [rdT,rdS,bls_len,bls_get,Nat.zero_add,evs_put,bls_put,at_b,is_put',f2,f3,f7,f2,hbw,hbs,htv,f2,f3,f7,f2];first|done|omega|rfl|exact ⟨by omega,rfl⟩|(simp;done)|(simp;omega))|(intros;trivial)|exact ⟨by first|trivial|rfl,by first|rfl|trivial|omega,by rw [evL_len,hnl];exact htt⟩|exact ⟨by first|trivial|rfl,by omega⟩|exact ⟨trivial,by omega,rfl⟩|(refine ⟨trivial,by rw [evs_len];omega,?_⟩;rw [evs_get _ _ (by omega)];rfl)));(try (simp only [nc] at *));(try simp (disch:=(first|omega|(simp only [lnS,bls_len];omega))) only [rdT,rdS,bls_len,bls_get,Nat.zero_add,evs_put,bls_put,at_b,is_put',f2,f3,f7,f2,hbw,hbs,htv,f2,f3,f7,f2]);(try cbv))
       |(refine E.d 19 (by decide +kernel) ?_;cbv;(fail_if_success guard_target =~ False))
       |(refine E.d 34 (by decide +kernel) ?_;cbv;(fail_if_success guard_target =~ False))
       | fail
      )
      all_goals (try (exfalso; ((try simp only [nc] at *); omega)))
      all_goals
       refine hJ3 (AWPl.step (Step.putE 5 12 (fun _ => evL (npT g t (i + 1))) rfl rfl fun _ => ⟨⟨rfl, rfl, by rw [evs_len, f1]⟩, by rw [← f8, evL_set, hset]⟩) rfl (E.bl ?_))
       cbv
       repeat' (first
        |(refine ⟨fun _ h_s=>?_,fun _ h_s=>?_⟩<;>(cbv;(try simp only [nc] at *);try simp (disch:=(first|omega|(simp only [lnS,bls_len];omega))) only [rdT,rdS,bls_len,bls_get,Nat.zero_add,evs_put,bls_put,at_b,is_put',f2,f3,f7,f2,hbw,hbs,htv,f2,f3,f7,f2,reduceCtorEq,trT] at h_s))
        |(refine hF ?_;intro _;clear hF)
        |(refine hF ?_;cbv;clear hF)
        |(refine ⟨fun _=>?_,?_⟩;(· ((try simp only [nc] at *);first|done|omega|exact ⟨by omega,rfl⟩|(simp (disch:=(first|omega|(simp only [lnS,bls_len];omega))) only [rdT,rdS,bls_len,bls_get,Nat.zero_add,evs_put,bls_put,at_b,is_put',f2,f3,f7,f2,hbw,hbs,htv,f2,f3,f7,f2];first|done|omega|rfl|exact ⟨by omega,rfl⟩|(simp;done)|(simp;omega))|(intros;trivial)|exact ⟨by first|trivial|rfl,by first|rfl|trivial|omega,by rw [evL_len,hnl];exact htt⟩|exact ⟨by first|trivial|rfl,by omega⟩|exact ⟨trivial,by omega,rfl⟩|(refine ⟨trivial,by rw [evs_len];omega,?_⟩;rw [evs_get _ _ (by omega)];rfl)));(try (simp only [nc] at *));(try simp (disch:=(first|omega|(simp only [lnS,bls_len];omega))) only [rdT,rdS,bls_len,bls_get,Nat.zero_add,evs_put,bls_put,at_b,is_put',f2,f3,f7,f2,hbw,hbs,htv,f2,f3,f7,f2]);(try cbv))
        |(refine E.d 19 (by decide +kernel) ?_;cbv;(fail_if_success guard_target =~ False))
        |(refine E.d 34 (by decide +kernel) ?_;cbv;(fail_if_success guard_target =~ False))
        | fail
       )
       refine hI3 (i + 1, th2.set x ((t : Int) + 1), wr2.set x (bw || decide (kd ≠ 1)), sv2.set x (bs || (decide (tv ≠ 0) && decide (tv ≠ (t : Int) + 1)))) ⟨hil, St rfl rfl⟩ (by simp only; omega) ?_
       cbv
       have e64 : w64 ((i : Int) + 1) = (i : Int) + 1 := w64_of (by ((try simp only [nc] at *); omega)) (by ((try simp only [nc] at *); omega))
       have e65 : w64 ((t : Int) + 1) = (t : Int) + 1 := w64_of (by ((try simp only [nc] at *); omega)) (by ((try simp only [nc] at *); omega))
       simp [*, is_put']
   ·have e1 : i = l.length := by omega
    subst e1
    repeat' (first
     |(refine ⟨fun _ h_s=>?_,fun _ h_s=>?_⟩<;>(cbv;(try simp only [nc] at *);try simp (disch:=(first|omega|(simp only [lnS,bls_len];omega))) only [rdT,rdS,bls_len,bls_get,Nat.zero_add,evs_put,bls_put,at_b,is_put',f2,f3,f7,f2,hbw,hbs,htv,f2,f3,f7,f2,reduceCtorEq,trT] at h_s))
     |(refine hF ?_;intro _;clear hF)
     |(refine hF ?_;cbv;clear hF)
     |(refine ⟨fun _=>?_,?_⟩;(· ((try simp only [nc] at *);first|done|omega|exact ⟨by omega,rfl⟩|(simp (disch:=(first|omega|(simp only [lnS,bls_len];omega))) only [rdT,rdS,bls_len,bls_get,Nat.zero_add,evs_put,bls_put,at_b,is_put',f2,f3,f7,f2,hbw,hbs,htv,f2,f3,f7,f2];first|done|omega|rfl|exact ⟨by omega,rfl⟩|(simp;done)|(simp;omega))|(intros;trivial)|exact ⟨by first|trivial|rfl,by first|rfl|trivial|omega,by rw [evL_len,hnl];exact htt⟩|exact ⟨by first|trivial|rfl,by omega⟩|exact ⟨trivial,by omega,rfl⟩|(refine ⟨trivial,by rw [evs_len];omega,?_⟩;rw [evs_get _ _ (by omega)];rfl)));(try (simp only [nc] at *));(try simp (disch:=(first|omega|(simp only [lnS,bls_len];omega))) only [rdT,rdS,bls_len,bls_get,Nat.zero_add,evs_put,bls_put,at_b,is_put',f2,f3,f7,f2,hbw,hbs,htv,f2,f3,f7,f2]);(try cbv))
     |(refine E.d 19 (by decide +kernel) ?_;cbv;(fail_if_success guard_target =~ False))
     |(refine E.d 34 (by decide +kernel) ?_;cbv;(fail_if_success guard_target =~ False))
     | fail
    )
    all_goals (try (exfalso; first | ((try simp only [nc] at *); omega) | (revert h_s; simp; done) | exact Nat.lt_irrefl _ (by assumption)))
    refine hJ2 (AWPl.step (Step.putE 5 12 (fun _ => evL (npT g (t + 1) 0)) rfl rfl fun _ => ⟨⟨rfl, rfl, by rw [evs_len, f1]⟩, by rw [evL_set, hset, hfull]⟩) rfl (E.bl ?_))
    cbv
    repeat' (first
     |(refine ⟨fun _ h_s=>?_,fun _ h_s=>?_⟩<;>(cbv;(try simp only [nc] at *);try simp (disch:=(first|omega|(simp only [lnS,bls_len];omega))) only [rdT,rdS,bls_len,bls_get,Nat.zero_add,evs_put,bls_put,at_b,is_put',f2,f3,f7,f2,hbw,hbs,htv,f2,f3,f7,f2,reduceCtorEq,trT] at h_s))
     |(refine hF ?_;intro _;clear hF)
     |(refine hF ?_;cbv;clear hF)
     |(refine ⟨fun _=>?_,?_⟩;(· ((try simp only [nc] at *);first|done|omega|exact ⟨by omega,rfl⟩|(simp (disch:=(first|omega|(simp only [lnS,bls_len];omega))) only [rdT,rdS,bls_len,bls_get,Nat.zero_add,evs_put,bls_put,at_b,is_put',f2,f3,f7,f2,hbw,hbs,htv,f2,f3,f7,f2];first|done|omega|rfl|exact ⟨by omega,rfl⟩|(simp;done)|(simp;omega))|(intros;trivial)|exact ⟨by first|trivial|rfl,by first|rfl|trivial|omega,by rw [evL_len,hnl];exact htt⟩|exact ⟨by first|trivial|rfl,by omega⟩|exact ⟨trivial,by omega,rfl⟩|(refine ⟨trivial,by rw [evs_len];omega,?_⟩;rw [evs_get _ _ (by omega)];rfl)));(try (simp only [nc] at *));(try simp (disch:=(first|omega|(simp only [lnS,bls_len];omega))) only [rdT,rdS,bls_len,bls_get,Nat.zero_add,evs_put,bls_put,at_b,is_put',f2,f3,f7,f2,hbw,hbs,htv,f2,f3,f7,f2]);(try cbv))
     |(refine E.d 19 (by decide +kernel) ?_;cbv;(fail_if_success guard_target =~ False))
     |(refine E.d 34 (by decide +kernel) ?_;cbv;(fail_if_success guard_target =~ False))
     | fail
    )
    refine hI2 (t + 1, th2, wr2, sv2) ⟨htt, htu _ _ _ (by rw [← hl]; exact S2)⟩ (by simp only; omega) ?_
    cbv
    simp
    exact w64_of (by omega) (by omega)
  ·refine hI (thr, wr, sv) ?_ ?_
   ·have e : t = g.th.length := by ((try simp only [nc] at *); omega)
    rw [← e]; exact S
   ·have e : t = g.th.length := by ((try simp only [nc] at *); omega)
    have w2 := S.l2
    have w3 := S.l3
    have hS0 : npT g t 0 = (npG g).th := by rw [e]; rfl
    have hS1 : (evss (npG g).th).l = (evL (npG g).th).map fun x => .vs 5 fun _ => x := evss_L _
    have hS2 : (idss g.fr).l = (idL g.fr).map fun x => .vs 2 fun _ => x := idss_L _
    have hS3 : (idss g.ord).l = (idL g.ord).map fun x => .vs 2 fun _ => x := idss_L _
    have hS5 : (evL (npG g).th).length = g.th.length := by rw [evL_len]; exact npT_len g _ _
    have hS6 : (idL g.fr).length = g.fr.length := idL_len _
    have hS7 : (idL g.ord).length = g.ord.length := idL_len _
    have hS8 : List.take g.init.length (is g.init).l = (is g.init).l := List.take_of_length_le (by simp)
    have hHi : (npG g).init = g.init := rfl
    have hHf : (npG g).fr = g.fr := rfl
    have hHo : (npG g).ord = g.ord := rfl
    have hS9 : List.take g.init.length (bls wr).l = (bls wr).l := List.take_of_length_le (by rw [bls_len, w2]; exact Nat.le_refl _)
    have hS10 : List.take g.init.length (bls sv).l = (bls sv).l := List.take_of_length_le (by rw [bls_len, w3]; exact Nat.le_refl _)
    clear hJ hI hI2
    rw [hS0]
    generalize npG g = H at *
    cbv
    simp [hHi, hHf, hHo, hS1, hS2, hS3, hS5, hS6, hS7, hS8, hS9, hS10, bls_len, w2, w3]
 ·obtain ⟨thr, wr, sv⟩ := q
  simp only at hq
  have kL := rlocs_ok (γ := γ) g hR
  have hv : rvO g = rvG g := by unfold rvO; rw [if_pos hg]
  rw [hv] at kL
  have hno := npG_ok hg
  have kH := rhas_race_ok (γ := γ) (npG g) (rd_short hno)
  have kP := rplain_ok (γ := γ) (npG g) (rd_short hno)
  have hv2 : rvO (npG g) = rvG (npG g) := by unfold rvO; rw [if_pos hno]
  rw [hv2, npG_races] at kH
  rw [hv2, show (rvG (npG g)).ids.length = (idsT (npG g) (npG g).th.length).length from rfl, npG_plain _ (Nat.le_refl _)] at kP
  have hL := fun x hx => nst_loc hg hq (x := x) hx
  have hLl := locsV_len (rvG g) (rvG_wf hg)
  have w2 := hq.l2
  have w3 := hq.l3
  generalize locsV (rvG g) = L at *
  generalize npG g = H at *
  refine E.bl ?_
  cbv
  skip
  repeat' (first
   |(refine E.c (SCalls.of_le (kL) ?_ ?_);(· (cbv;(try simp only [nc] at *);first|done|(simp;done)|(simp (disch:=(first|omega|(simp only [lnS,bls_len];omega))) only [rdT,rdS,bls_len,bls_get,Nat.zero_add,at_b,anT];first|done|omega|(refine ⟨?_,?_⟩<;>omega))|(simp (disch:=(first|omega|(simp only [lnS,bls_len];omega))) [rdT,rdS,bls_len,bls_get,Nat.zero_add,at_b];done)));cbv)
   |(refine ⟨fun _ h_s=>?_,fun _ h_s=>?_⟩<;>(cbv;(try simp only [nc] at *);try simp (disch:=(first|omega|(simp only [lnS,bls_len];omega))) only [rdT,rdS,bls_len,bls_get,Nat.zero_add,at_b,reduceCtorEq,trT] at h_s))
   |(refine hF ?_;intro _;clear hF)
   |(refine hF ?_;cbv;clear hF)
   |(refine ⟨fun _=>?_,?_⟩;(· ((try simp only [nc] at *);first|done|omega|exact ⟨by omega,rfl⟩|(simp (disch:=(first|omega|(simp only [lnS,bls_len];omega))) only [rdT,rdS,bls_len,bls_get,Nat.zero_add,at_b];first|done|omega|rfl|exact ⟨by omega,rfl⟩|(simp;done)|(simp;omega))|(intros;trivial)));(try (simp only [nc] at *));(try simp (disch:=(first|omega|(simp only [lnS,bls_len];omega))) only [rdT,rdS,bls_len,bls_get,Nat.zero_add,at_b]);(try cbv))
   |(refine E.d 19 (by decide +kernel) ?_;cbv;(fail_if_success guard_target =~ False))
   |(refine E.d 34 (by decide +kernel) ?_;cbv;(fail_if_success guard_target =~ False))
   | fail
  )
  refine E.loopS (ι:=Nat) (fun i=>i≤L.length) (fun i=>L.length - i) (fun i=>[(11,.i fun _=>((i : Nat) : Int))]) (fun i h=>h) 0 (fun _=>by first|rfl|simp) (Nat.zero_le _) ?_ fun i hi I hI=>?_
  ·cbv; simp
  cbv
  rcases Nat.lt_or_ge i L.length with hil | hil
  ·obtain ⟨k, hk1, hk2, hk3, hk4⟩ := hL (L.getD i 0) (getD_mem hil)
   skip
   skip
   skip
   repeat' (first
    |(refine hI (i + 1) ?_ ?_ ?_;rotate_left 1;(· ((try simp only [nc] at *);omega));(cbv;clear hI;(try clear hF);(try simp only [nc] at *);(try simp (disch:=(first|omega|(simp only [lnS,bls_len];omega))) only [rdT,rdS,bls_len,bls_get,Nat.zero_add,at_b,hk1,hk3,hk4,anT]));rotate_left 1;(try ((try simp only [nc] at *);omega)))
    |(refine ⟨fun _ h_s=>?_,fun _ h_s=>?_⟩<;>(cbv;(try simp only [nc] at *);try simp (disch:=(first|omega|(simp only [lnS,bls_len];omega))) only [rdT,rdS,bls_len,bls_get,Nat.zero_add,at_b,hk1,hk3,hk4,reduceCtorEq,trT] at h_s))
    |(refine hF ?_;intro _;clear hF)
    |(refine hF ?_;cbv;clear hF)
    |(refine ⟨fun _=>?_,?_⟩;(· ((try simp only [nc] at *);first|done|omega|exact ⟨by omega,rfl⟩|(simp (disch:=(first|omega|(simp only [lnS,bls_len];omega))) only [rdT,rdS,bls_len,bls_get,Nat.zero_add,at_b,hk1,hk3,hk4];first|done|omega|rfl|exact ⟨by omega,rfl⟩|(simp;done)|(simp;omega))|(intros;trivial)|exact ⟨trivial,by omega⟩|exact ⟨by omega,by omega⟩));(try (simp only [nc] at *));(try simp (disch:=(first|omega|(simp only [lnS,bls_len];omega))) only [rdT,rdS,bls_len,bls_get,Nat.zero_add,at_b,hk1,hk3,hk4]);(try cbv))
    |(refine E.d 19 (by decide +kernel) ?_;cbv;(fail_if_success guard_target =~ False))
    |(refine E.d 34 (by decide +kernel) ?_;cbv;(fail_if_success guard_target =~ False))
    | fail
   )
   all_goals (try (exfalso; ((try simp only [nc] at *); omega)))
   push_cast; rfl
  ·have e : i = L.length := by omega
   subst e
   skip
   repeat' (first
    |(refine E.c (SCalls.of_le (kP) ?_ ?_);(· (cbv;(try simp only [nc] at *);first|done|(simp;done)|(simp (disch:=(first|omega|(simp only [lnS,bls_len];omega))) only [rdT,rdS,bls_len,bls_get,Nat.zero_add,at_b,anT];first|done|omega|(refine ⟨?_,?_⟩<;>omega))|(simp (disch:=(first|omega|(simp only [lnS,bls_len];omega))) [rdT,rdS,bls_len,bls_get,Nat.zero_add,at_b];done)));cbv)
    |(refine E.c (SCalls.of_le (kH) ?_ ?_);(· (cbv;(try simp only [nc] at *);first|done|(simp;done)|(simp (disch:=(first|omega|(simp only [lnS,bls_len];omega))) only [rdT,rdS,bls_len,bls_get,Nat.zero_add,at_b,anT];first|done|omega|(refine ⟨?_,?_⟩<;>omega))|(simp (disch:=(first|omega|(simp only [lnS,bls_len];omega))) [rdT,rdS,bls_len,bls_get,Nat.zero_add,at_b];done)));cbv)
    |(refine ⟨fun _ h_s=>?_,fun _ h_s=>?_⟩<;>(cbv;(try simp only [nc] at *);try simp (disch:=(first|omega|(simp only [lnS,bls_len];omega))) only [rdT,rdS,bls_len,bls_get,Nat.zero_add,at_b,reduceCtorEq,trT] at h_s))
    |(refine hF ?_;intro _;clear hF)
    |(refine hF ?_;cbv;clear hF)
    |(refine ⟨fun _=>?_,?_⟩;(· ((try simp only [nc] at *);first|done|omega|exact ⟨by omega,rfl⟩|(simp (disch:=(first|omega|(simp only [lnS,bls_len];omega))) only [rdT,rdS,bls_len,bls_get,Nat.zero_add,at_b];first|done|omega|rfl|exact ⟨by omega,rfl⟩|(simp;done)|(simp;omega))|(intros;trivial)));(try (simp only [nc] at *));(try simp (disch:=(first|omega|(simp only [lnS,bls_len];omega))) only [rdT,rdS,bls_len,bls_get,Nat.zero_add,at_b]);(try cbv))
    |(refine E.d 19 (by decide +kernel) ?_;cbv;(fail_if_success guard_target =~ False))
    |(refine E.d 34 (by decide +kernel) ?_;cbv;(fail_if_success guard_target =~ False))
    | fail
   )
   all_goals first
    | (exfalso; ((try simp only [nc] at *); omega))
    | (simp [ids, LV.of, LV.l]; done)
    | (exfalso; revert h_s; simp; done)
    | exact absurd (by assumption) (Nat.lt_irrefl _)
    | trace_state
theorem raceNone_ok (g : Gr) (hR : Rd g) : Pure Try.prog γ false 5 [aGr g] (.b fun _ => true) := by
 have kl := lives17_ok (γ := γ)
 have ki := light_ok (γ := γ) g hR 60 (by omega) (by omega)
 have kc := check14_ok (γ := γ) g hR
 skip
 by_cases hli : lightM 60 g = true
 ·by_cases hg : GOk g
  ·exact raceNone_main g hg hli
  ·have hc : gcheckM g ≠ 0 := by unfold gcheckM; split <;> simp [hg]
   rw [hli] at ki
   generalize gcheckM g = c0 at *
   refine Pure.go (ty := ty) ty_eq mo Try.func5 rfl Try.ntmps5 Try.results5 Try.call5 (by simp) fun P C CQ D W F E hF => ?_
   cbv
   repeat' (first
    |(refine E.c (SCalls.of_le (kc) ?_ ?_);(· (cbv;(try simp only [nc] at *);first|done|(simp;done)|(simp (disch:=(first|omega|(simp only [lnS];omega))) only [rdT,rdS,anT];first|done|omega|(refine ⟨?_,?_⟩<;>omega))|(simp (disch:=(first|omega|(simp only [lnS];omega))) [rdT,rdS];done)));cbv)
    |(refine E.c (SCalls.of_le (ki) ?_ ?_);(· (cbv;(try simp only [nc] at *);first|done|(simp;done)|(simp (disch:=(first|omega|(simp only [lnS];omega))) only [rdT,rdS,anT];first|done|omega|(refine ⟨?_,?_⟩<;>omega))|(simp (disch:=(first|omega|(simp only [lnS];omega))) [rdT,rdS];done)));cbv)
    |(refine E.c (SCalls.of_le (kl) ?_ ?_);(· (cbv;(try simp only [nc] at *);first|done|(simp;done)|(simp (disch:=(first|omega|(simp only [lnS];omega))) only [rdT,rdS,anT];first|done|omega|(refine ⟨?_,?_⟩<;>omega))|(simp (disch:=(first|omega|(simp only [lnS];omega))) [rdT,rdS];done)));cbv)
    |(refine ⟨fun _ h_s=>?_,fun _ h_s=>?_⟩<;>(cbv;(try simp only [nc] at *);try simp (disch:=(first|omega|(simp only [lnS];omega))) only [rdT,rdS,reduceCtorEq,trT] at h_s))
    |(refine hF ?_;intro _;clear hF)
    |(refine hF ?_;cbv;clear hF)
    |(refine ⟨fun _=>?_,?_⟩;(· ((try simp only [nc] at *);first|done|omega|exact ⟨by omega,rfl⟩|(simp (disch:=(first|omega|(simp only [lnS];omega))) only [rdT,rdS];first|done|omega|rfl|exact ⟨by omega,rfl⟩|(simp;done)|(simp;omega))|(intros;trivial)));(try (simp only [nc] at *));(try simp (disch:=(first|omega|(simp only [lnS];omega))) only [rdT,rdS]);(try cbv))
    |(refine E.d 19 (by decide +kernel) ?_;cbv;(fail_if_success guard_target =~ False))
    |(refine E.d 34 (by decide +kernel) ?_;cbv;(fail_if_success guard_target =~ False))
    | fail
   )
   all_goals first
    | rfl
    | (exfalso; ((try simp only [nc] at *); omega))
    | exact absurd trivial h_s
 ·rw [show lightM 60 g = false by simpa using hli] at ki
  refine Pure.go (ty := ty) ty_eq mo Try.func5 rfl Try.ntmps5 Try.results5 Try.call5 (by simp) fun P C CQ D W F E hF => ?_
  cbv
  repeat' (first
   |(refine E.c (SCalls.of_le (ki) ?_ ?_);(· (cbv;(try simp only [nc] at *);first|done|(simp;done)|(simp (disch:=(first|omega|(simp only [lnS];omega))) only [rdT,rdS,anT];first|done|omega|(refine ⟨?_,?_⟩<;>omega))|(simp (disch:=(first|omega|(simp only [lnS];omega))) [rdT,rdS];done)));cbv)
   |(refine E.c (SCalls.of_le (kl) ?_ ?_);(· (cbv;(try simp only [nc] at *);first|done|(simp;done)|(simp (disch:=(first|omega|(simp only [lnS];omega))) only [rdT,rdS,anT];first|done|omega|(refine ⟨?_,?_⟩<;>omega))|(simp (disch:=(first|omega|(simp only [lnS];omega))) [rdT,rdS];done)));cbv)
   |(refine ⟨fun _ h_s=>?_,fun _ h_s=>?_⟩<;>(cbv;(try simp only [nc] at *);try simp (disch:=(first|omega|(simp only [lnS];omega))) only [rdT,rdS,reduceCtorEq,trT] at h_s))
   |(refine hF ?_;intro _;clear hF)
   |(refine hF ?_;cbv;clear hF)
   |(refine ⟨fun _=>?_,?_⟩;(· ((try simp only [nc] at *);first|done|omega|exact ⟨by omega,rfl⟩|(simp (disch:=(first|omega|(simp only [lnS];omega))) only [rdT,rdS];first|done|omega|rfl|exact ⟨by omega,rfl⟩|(simp;done)|(simp;omega))|(intros;trivial)));(try (simp only [nc] at *));(try simp (disch:=(first|omega|(simp only [lnS];omega))) only [rdT,rdS]);(try cbv))
   |(refine E.d 19 (by decide +kernel) ?_;cbv;(fail_if_success guard_target =~ False))
   |(refine E.d 34 (by decide +kernel) ?_;cbv;(fail_if_success guard_target =~ False))
   | fail
  )
  all_goals first
   | rfl
   | (exfalso; ((try simp only [nc] at *); omega))
   | exact absurd trivial h_s
end Go.AL.Rl

namespace Go.AL
open Go Go.RowKit Go.ChangeShapes Go.WideShapes

section
variable {H : Type} {enc : TypeId × Value → H} {P : Program} {w : World} {spare : Nat → Bool} {held : Bool}

abbrev Old (w : World) : Nat → Prop := fun k => k < w.heap.size

/-- Whatever reads by the type 't' is told by an 'a'. -/
def Dec (P : Program) (t : TypeId) (α : Type) (en : α → List AV) (ok : α → Prop) : Prop :=
 ∀ {H : Type} (enc : TypeId × Value → H) (w : World) (spare : Nat → Bool) (held : Bool) (fuel : Nat) (cs : List Value) (x : DataW H × List MemPlace),
  DataW.trod enc P w 0 spare held fuel t cs = some x → ∃ a, ok a ∧ Rs (Old w) w none (en a) cs

theorem Dec.int {t : TypeId} (ht : P.underlying t = some (.int .i64)) : Dec P t Int (fun n => [.i fun _ => n]) fun n => -9223372036854775808 ≤ n ∧ n ≤ 9223372036854775807 := by
 intro H enc w spare held fuel cs x h
 obtain ⟨n, rfl, _, h2⟩ := DataW.trod_int ht h
 exact ⟨n, bounds_i64 h2, _, _, rfl, rfl, rfl⟩
theorem Dec.u64 {t : TypeId} (ht : P.underlying t = some (.int .u64)) : Dec P t (BitVec 64) (fun n => [.u fun _ => n]) fun _ => True := by
 intro H enc w spare held fuel cs x h
 obtain ⟨n, rfl, _, h2⟩ := DataW.trod_int ht h
 have := bounds_u64 h2
 refine ⟨BitVec.ofInt 64 n, trivial, _, _, rfl, ?_, rfl⟩
 simp only [R]
 congr 1
 simp only [BitVec.toNat_ofInt]
 omega
theorem Dec.bool {t : TypeId} (ht : P.underlying t = some .bool) : Dec P t Bool (fun b => [.b fun _ => b]) fun _ => True := by
 intro H enc w spare held fuel cs x h
 obtain ⟨b, rfl, _⟩ := DataW.trod_bool ht h
 exact ⟨b, trivial, _, _, rfl, rfl, rfl⟩

theorem cells?_get {w : World} {a : Addr} {n : Nat} {cs : List Value} (h : w.cells? 0 a n = some cs) : cs.length = n ∧ ∀ (i : Nat) (c : Value), cs[i]? = some c → w.cell? (a.add i) = some c := by
 simp only [World.cells?, Nat.zero_le, if_true] at h
 have hl : cs.length = n := by have := mapM_some_length h; simpa using this
 refine ⟨hl, fun i c hc => ?_⟩
 have hi : i < n := by have := (List.getElem?_eq_some_iff.1 hc).1; omega
 rw [mapM_some_get h i i (by simp [hi])]; exact hc

theorem list_of_all {α β : Type} {R' : α → β → Prop} : ∀ (l : List β), (∀ b ∈ l, ∃ a, R' a b) → ∃ r : List α, r.length = l.length ∧ ∀ (i : Nat) (a : α) (b : β), r[i]? = some a → l[i]? = some b → R' a b
 | [], _ => ⟨[], rfl, fun i a b h => by simp at h⟩
 | b :: l, h => by
  obtain ⟨a, ha⟩ := h b (by simp)
  obtain ⟨r, h1, h2⟩ := list_of_all l fun b hb => h b (by simp [hb])
  refine ⟨a :: r, by simp [h1], fun i a' b' ha' hb' => ?_⟩
  cases i with
  | zero => simp at ha' hb'; subst ha'; subst hb'; exact ha
  | succ i => exact h2 i a' b' (by simpa using ha') (by simpa using hb')

/-- the elements' values: 'mk' is '.agg' or the one cell -/
structure Elem (mk : List AV → AV) (k : Nat) : Prop where
 val : ∀ {S : Nat → Prop} {w : World} {l : List AV} {cs : List Value}, cs.length = k → l.all AV.one = true → Rs S w none l cs → ∃ v, v.cells.toList = cs ∧ R S w none (mk l) v
theorem Elem.agg (k : Nat) : Elem .agg k := ⟨fun {S w l cs} _ _ h => ⟨.agg cs.toArray, by simp [Value.cells], cs, rfl, h⟩⟩
theorem Elem.one : Elem (fun l => l.headD .any) 1 := ⟨fun {S w l cs} hl h1 h => by
 match cs, hl with
 | [c], _ =>
  match l, h with
  | x :: _, ⟨v, _, e, hx, hr⟩ =>
   cases e
   simp only [List.all_cons, Bool.and_eq_true] at h1
   exact ⟨c, by rw [cells_of_one (R_one hx h1.1)], hx⟩⟩

theorem Dec.slice {t e : TypeId} (ht : P.underlying t = some (.slice e)) {k : Nat} (hk : P.cellsOf e = k) (hk0 : 0 < k) {α : Type} {en : α → List AV} {ok : α → Prop} {mk : List AV → AV} (he : Dec P e α en ok) (hone : ∀ a, (en a).all AV.one = true) (hm : Elem mk k) :
  Dec P t (List α) (fun l => [.vs k fun _ => LV.of (l.map fun a => mk (en a))]) fun l => l.length ≤ maxLen ∧ ∀ a ∈ l, ok a := by
 subst hk
 intro H enc w spare held fuel cs x h
 rcases DataW.trod_slice ht h with ⟨rfl, _⟩ | ⟨a, len, cap, elems, rest, n, rfl, rfl, rfl, _, h2, h3, h4, h5, _⟩
 ·exact ⟨[], ⟨by simp, by simp⟩, _, _, rfl, ⟨none, 0, [], rfl, Nat.le_refl _, rfl, .inl rfl⟩, rfl⟩
 ·have key : ∀ i : Nat, i < len → ∃ (c : List Value) (a' : α), w.cells? 0 (a.add (i * P.cellsOf e)) (P.cellsOf e) = some c ∧ ok a' ∧ Rs (Old w) w none (en a') c := by
   intro i hi
   have := h5 i hi
   rw [List.getElem?_eq_getElem (by omega)] at this
   simp only [Option.bind_eq_some_iff] at this
   obtain ⟨c, hc, hd⟩ := this
   obtain ⟨a', ha, hr⟩ := he _ _ _ _ _ _ _ hd
   exact ⟨c, a', hc, ha, hr⟩
  have hlist := list_of_all (R' := fun (q : α × Value) (i : Nat) => ok q.1 ∧ q.2.cells.size = P.cellsOf e ∧ (∀ (j : Nat) (c : Value), q.2.cells[j]? = some c → w.cell? ((a.add (i * P.cellsOf e)).add j) = some c) ∧ R (Old w) w none (mk (en q.1)) q.2) (List.range len) fun i hi => by
   obtain ⟨c, a', hc, ha, hr⟩ := key i (by simpa using hi)
   obtain ⟨hl, hg⟩ := cells?_get hc
   obtain ⟨v, hv, hr'⟩ := hm.val hl (hone a') hr
   refine ⟨(a', v), ha, by rw [← Array.length_toList, hv]; exact hl, fun j c' hj => hg j c' ?_, hr'⟩
   rw [← hv]; simpa using hj
  obtain ⟨qs, hq1, hq2⟩ := hlist
  rw [List.length_range] at hq1
  have hq : ∀ (i : Nat) (q : α × Value), qs[i]? = some q → ok q.1 ∧ q.2.cells.size = P.cellsOf e ∧ (∀ (j : Nat) (c : Value), q.2.cells[j]? = some c → w.cell? ((a.add (i * P.cellsOf e)).add j) = some c) ∧ R (Old w) w none (mk (en q.1)) q.2 := fun i q hi =>
   hq2 i q i hi (by
    have := (List.getElem?_eq_some_iff.1 hi).1
    rw [List.getElem?_range (by omega)])
  refine ⟨qs.map (·.1), ⟨by simp; omega, fun a' ha' => ?_⟩, _, _, rfl, ⟨some a, cap, qs.map (·.2), by simp [hq1], by simp; omega, ?_, ?_⟩, rfl⟩
  ·obtain ⟨q, hqm, rfl⟩ := List.mem_map.1 ha'
   obtain ⟨i, hi, rfl⟩ := List.mem_iff_getElem.1 hqm
   exact (hq i _ (List.getElem?_eq_getElem hi)).1
  ·rw [RL_iff, LV.l_of, Rs_iff]
   refine ⟨by simp, fun i c v hc hv => ?_⟩
   simp only [List.map_map, List.getElem?_map, Option.map_eq_some_iff] at hc hv
   obtain ⟨q, hq', rfl⟩ := hc
   obtain ⟨q', hq'', rfl⟩ := hv
   rw [hq'] at hq''; cases hq''
   exact (hq i q hq').2.2.2
  ·cases hqs : qs with
   | nil => exact .inl rfl
   | cons q0 qr =>
    right
    have hlen : 0 < len := by rw [← hq1, hqs]; simp
    obtain ⟨_, hsz, hcell, _⟩ := hq 0 q0 (by rw [hqs]; rfl)
    have hc0 : ∃ c, q0.2.cells[0]? = some c := ⟨_, Array.getElem?_eq_getElem (by omega)⟩
    obtain ⟨c, hc⟩ := hc0
    have hw := hcell 0 c hc
    have ha0 : a.spot = none ∧ a.block < w.heap.size := by
     simp only [Nat.zero_mul, Addr.add, if_true] at hw
     unfold World.cell? at hw
     split at hw
     ·rename_i hb
      split at hw
      ·cases hw
      ·rename_i hs
       exact ⟨by simpa using hs, (Array.getElem?_eq_some_iff.1 hb).1⟩
     ·cases hw
    refine ⟨a, rfl, ha0.1, ha0.2, fun i ev hi => ?_⟩
    rw [← hqs] at hi
    simp only [List.getElem?_map, Option.map_eq_some_iff] at hi
    obtain ⟨q, hq', rfl⟩ := hi
    obtain ⟨_, h1, h2, _⟩ := hq i q hq'
    refine ⟨h1, fun j c hj => ?_⟩
    have := h2 j c hj
    have ea : (a.add (i * P.cellsOf e)).add j = ⟨a.block, a.off + (i * P.cellsOf e + j), none⟩ := by
     obtain ⟨b, o, s⟩ := a
     simp only at ha0
     obtain ⟨rfl, _⟩ := ha0
     simp only [Addr.add]
     by_cases h0 : i * P.cellsOf e = 0 <;> by_cases h1 : j = 0 <;> simp [h0, h1] <;> omega
    rw [← ea]; exact this

/-- fields, one behind the other -/
theorem Dec.fields {t : TypeId} {fs : List Field} {a : Array Field} (ht : P.underlying t = some (.struct a)) (hfs : a.toList = fs) {α : Type} {en : α → List AV} {ok : α → Prop}
  (h : ∀ {H : Type} (enc : TypeId × Value → H) (w : World) (spare : Nat → Bool) (held : Bool) (n : Nat) (cs : List Value), cs.length = P.cellsOf t →
   (∀ f ∈ fs, ∃ x, DataW.trod enc P w 0 spare held n f.type ((cs.drop f.offset).take (P.cellsOf f.type)) = some x) → ∃ a, ok a ∧ Rs (Old w) w none (en a) cs) : Dec P t α en ok := by
 intro H enc w spare held fuel cs x hx
 obtain ⟨xs, n, rfl, rfl, h1, h2, h3⟩ := DataW.trod_struct ht hx
 refine h enc w spare held n cs h1 fun f hf => ?_
 rw [← hfs] at hf
 obtain ⟨i, hi, rfl⟩ := List.mem_iff_getElem.1 hf
 have hi' : i < a.size := by simpa using hi
 have := h3 i a[i] (Array.getElem?_eq_getElem hi')
 rw [List.getElem?_eq_getElem (by omega)] at this
 exact ⟨_, by simpa using this⟩
theorem cut3 (cs : List Value) (o s n : Nat) (h : cs.length = n) (ho : o + s = n) : cs = cs.take o ++ (cs.drop o).take s := by
 have : (cs.drop o).take s = cs.drop o := List.take_of_length_le (by simp; omega)
 rw [this, List.take_append_drop]

theorem Dec.struct2 {t : TypeId} {a : Array Field} (ht : P.underlying t = some (.struct a)) {t0 t1 : TypeId} {s0 s1 : Nat} (hfs : a.toList.map (fun f => (f.type, f.offset)) = [(t0, 0), (t1, s0)]) (h0 : P.cellsOf t0 = s0) (h1 : P.cellsOf t1 = s1) (hs : P.cellsOf t = s0 + s1)
  {α β : Type} {e0 : α → List AV} {e1 : β → List AV} {k0 : α → Prop} {k1 : β → Prop} (d0 : Dec P t0 α e0 k0) (d1 : Dec P t1 β e1 k1) : Dec P t (α × β) (fun p => e0 p.1 ++ e1 p.2) fun p => k0 p.1 ∧ k1 p.2 := by
 refine Dec.fields ht rfl fun {H} enc w spare held n cs hl hf => ?_
 have get : ∀ t o, (t, o) ∈ a.toList.map (fun f => (f.type, f.offset)) → ∃ x, DataW.trod enc P w 0 spare held n t ((cs.drop o).take (P.cellsOf t)) = some x := fun t o hm => by
  obtain ⟨f, hf1, hf2⟩ := List.mem_map.1 hm
  cases hf2
  exact hf f hf1
 rw [hfs] at get
 obtain ⟨x0, g0⟩ := get t0 0 (by simp)
 obtain ⟨x1, g1⟩ := get t1 s0 (by simp)
 obtain ⟨a0, o0, r0⟩ := d0 _ _ _ _ _ _ _ g0
 obtain ⟨a1, o1, r1⟩ := d1 _ _ _ _ _ _ _ g1
 refine ⟨(a0, a1), ⟨o0, o1⟩, ?_⟩
 rw [cut3 cs s0 s1 _ (hl.trans hs) rfl]
 rw [h0] at r0; rw [h1] at r1
 exact Rs_append (by simpa using r0) r1

theorem trodAll_len {W : World} {b : Nat} : ∀ {ts : List TypeId} {vs : List Value} {ds : List (DataW H)} {p : List MemPlace}, DataW.TrodAll enc P W b spare held ts vs ds p → ds.length = ts.length
 | [], [], [], _, _ => rfl
 | _ :: _, _ :: _, _ :: _, _, ⟨_, _, _, h, _⟩ => by simp [trodAll_len h]
 | [], [], _ :: _, _, h => h.elim
 | [], _ :: _, _, _, h => h.elim
 | _ :: _, [], _, _, h => h.elim
 | _ :: _, _ :: _, [], _, h => h.elim
theorem trodAll_carry {W W' : World} (hq : ∀ k, k < W.heap.size → W'.heap[k]? = W.heap[k]?) : ∀ {ts : List TypeId} {vs : List Value} {ds : List (DataW H)} {p : List MemPlace},
  DataW.TrodAll enc P W 0 spare held ts vs ds p → (∀ p' ∈ p, p'.block < W.heap.size) → DataW.TrodAll enc P W' 0 spare held ts vs ds p
 | [], [], [], _, h, _ => h
 | _ :: _, _ :: _, _ :: _, _, ⟨p0, q0, ⟨n, h1⟩, h2, e⟩, lt => by
  subst e
  refine ⟨p0, q0, ⟨n, DataW.trod_carry _ _ _ _ h1 fun pl hpl => ?_⟩, trodAll_carry hq h2 fun p' hp => lt p' (List.mem_append_right _ hp), rfl⟩
  have hlt := lt pl (List.mem_append_left _ hpl)
  cases pl with
  | cell b off => exact World.cell?_of_block (hq b hlt)
  | map b => exact hq b hlt
 | [], [], _ :: _, _, h, _ => h.elim
 | [], _ :: _, _, _, h, _ => h.elim
 | _ :: _, [], _, _, h, _ => h.elim
 | _ :: _, _ :: _, [], _, h, _ => h.elim
theorem post_true {H : Type} {enc : TypeId × Value → H} {f : Func} {s : ChangeSpec} {W W' : World} {args : Array Value} {ds gs : List (DataW H)} {before : List MemPlace} {tb : TypeId}
  (hW : DataW.Whole enc P f.params.toList s.vars false W args.toList ds gs before) (hv : s.vars = []) (hres : f.resultTypes = #[tb]) (htb : P.underlying tb = some .bool)
  (hs : ∀ ds' : List (DataW H), ds'.length = f.params.size → s.fn H ds' = { results := [.lit (.bool true)], args := ds' })
  (hl : laidOutB P = true) (hm : mapsRowed P = true) (hz : ((List.range P.types.size).all fun t => match P.underlying t with | some (.slice e) => decide (0 < P.cellsOf e) | _ => true) = true) (hT : ∀ t ∈ f.params.toList, t < P.types.size)
  (hq : ∀ k, k < W.heap.size → W'.heap[k]? = W.heap[k]?) (fr : Fr W W') : s.post enc P f false true false false W args (.bool true) W' := by
 have hW' := hW
 obtain ⟨p, q, hA, hV, rfl, hfz, hnd⟩ := hW
 rw [hv] at hV
 obtain ⟨rfl, rfl⟩ := trodVars_none hV
 have hlen : ds.length = f.params.size := by have := trodAll_len hA; simpa using this
 have hsd := hs (ds ++ []) (by simpa using hlen)
 have hall : ∀ (b : Nat) (sp : Nat → Bool) (hd : Bool), DataW.TrodAll enc P W' b sp hd [tb] [.bool true] [.lit (.bool true)] [] := fun b sp hd => ⟨[], [], ⟨1, by simp [DataW.trod, htb, Value.cells]⟩, rfl, rfl⟩
 have carry : DataW.TrodAll enc P W' 0 (fun _ => true) true f.params.toList args.toList ds p := trodAll_carry hq hA fun p' hp => hW'.lt p' (by simpa using hp)
 have hargs : ∀ sp : Nat → Bool, (∀ x ∈ p, sp x.block = true) → DataW.TrodAll enc P W' 0 sp true f.params.toList args.toList (s.fn H (ds ++ [])).args p := fun sp hsp => by
  rw [hsd]
  simp only [List.append_nil]
  exact carry.respare (kids_rows hl hm) (fun t e ht hu => slices_full_of P hz t e ht hu) hT hsp
 have hvars : ∀ sp : Nat → Bool, DataW.TrodVars enc P W' sp s.vars (s.fn H (ds ++ [])).vars [] := fun sp => by rw [hsd, hv]; rfl
 have hlt : ∀ x ∈ p, x.block < W.heap.size := fun x hx => hW'.lt x (by simpa using hx)
 have hkept : W.keptBut W' (· ∈ p) := by
  refine ⟨fr.os, fr.output, fun i hi => ?_⟩
  rw [hq i hi]
  cases h : W.heap[i]? with
  | none => trivial
  | some o => cases o <;> simp
 have hres' : ∀ (b : Nat) (sp : Nat → Bool) (hd : Bool), DataW.TrodAll enc P W' b sp hd f.resultTypes.toList ((Value.bool true).resultList f.resultTypes.size) (s.fn H (ds ++ [])).results [] := fun b sp hd => by rw [hsd, hres]; exact hall b sp hd
 have h2 := hargs (fun _ => true) fun _ _ => rfl
 have hW3 : DataW.Whole enc P f.params.toList s.vars false W args.toList ds [] p := by simpa using hW'
 refine ⟨ds, [], p, [], p, [], hW3, hres' _ _ _, hargs (fun b => decide (b < W.heap.size)) fun x hx => decide_eq_true (hlt x hx), hvars _, World.keptBut_mono (fun x hx => ⟨hx, .inr (.inl hx)⟩) hkept, fun _ => ?_⟩
 obtain ⟨_, _, _, _, _, z, n⟩ := hW3
 refine ⟨ok_one hres rfl (okWide_bool_mk htb _), _, _, p, ⟨p, [], trodAll_append h2 (hres' _ _ _), hvars (fun _ => true), (List.append_nil p).symm, fun b off hp => (fr.frozen ⟨b, off, none⟩ (hlt _ hp)).trans (z b off hp), fun h => absurd h (by simp)⟩, fun x hx _ => by simpa using hx⟩

def Arg (P : Program) (t : TypeId) (α : Type) (en : α → AV) (ok : α → Prop) : Prop :=
 ∀ {H : Type} (enc : TypeId × Value → H) (W : World) (base : Nat) (v : Value) (d : DataW H) (p : List MemPlace), Value.okWide P W .any base t v → DataW.Trod enc P W 0 (fun _ => true) true t v d p → ∃ a, ok a ∧ R (Old W) W none (en a) v
theorem Arg.agg {t : TypeId} {a : Array Field} (ht : P.underlying t = some (.struct a)) {α : Type} {en : α → List AV} {ok : α → Prop} (h : Dec P t α en ok) : Arg P t α (fun a => .agg (en a)) ok := by
 intro H enc W base v d p hok ⟨n, hn⟩
 simp only [Value.okWide, ht] at hok
 obtain ⟨cs, rfl, _⟩ := hok
 obtain ⟨x, h1, h2⟩ := h _ _ _ _ _ _ _ hn
 exact ⟨x, h1, cs.toList, by simp, by simpa [Value.cells] using h2⟩
theorem Arg.one {t : TypeId} {k : TypeDesc} (ht : P.underlying t = some k) (hk : match k with | .int _ | .bool | .slice _ => True | _ => False) {α : Type} {en : α → AV} {ok : α → Prop} (h : Dec P t α (fun a => [en a]) ok) : Arg P t α en ok := by
 intro H enc W base v d p hok ⟨n, hn⟩
 obtain ⟨x, h1, y, ys, h2, h3, h4⟩ := h _ _ _ _ _ _ _ hn
 have h4 : ys = [] := h4
 subst h4
 have hv : v = y := by
  cases v
  case agg cs => cases k <;> first | exact hk.elim | simp [Value.okWide, ht, Cell.okWide, Cell.ok] at hok
  all_goals (simp [Value.cells] at h2; exact h2)
 subst hv
 exact ⟨x, h1, h3⟩

/-- A LAW, from its contract. -/
theorem law_true {γ : Nat → Option AV} {f : FuncId} {fn : Func} {s : ChangeSpec} {W : World} {args : Array Value} {ds gs : List (DataW H)} {before : List MemPlace} {tb : TypeId} {avs : List AV} (hp : Pure P γ false f avs (.b fun _ => true)) (hr : Rs (Old W) W none avs args.toList)
  (hγ : ∀ g x, γ g = some x → R (Old W) W none (.vp (fun _ => x) 0) (.pointer (some ⟨g, 0, none⟩)))
  (hW : DataW.Whole enc P fn.params.toList s.vars false W args.toList ds gs before) (hv : s.vars = []) (hres : fn.resultTypes = #[tb]) (htb : P.underlying tb = some .bool)
  (hs : ∀ ds' : List (DataW H), ds'.length = fn.params.size → s.fn H ds' = { results := [.lit (.bool true)], args := ds' })
  (hl : laidOutB P = true) (hm : mapsRowed P = true) (hz : ((List.range P.types.size).all fun t => match P.underlying t with | some (.slice e) => decide (0 < P.cellsOf e) | _ => true) = true) (hT : ∀ t ∈ fn.params.toList, t < P.types.size) :
  Calls P f args W fun e W' => ∃ v, e = .returned v ∧ s.post enc P fn false true false false W args v W' := by
 have := hp.2 (Old W) W args.toList (fun k hk => hk) hγ hr
 refine (this.mono fun e w' ⟨v', S', h1, h2, h3⟩ => ?_)
 have h2 : v' = .bool true := h2
 subst h2
 exact ⟨_, h1, post_true hW hv hres htb hs hl hm hz hT h3.same h3.fr⟩
end
end Go.AL

namespace Go.AL
open Go Go.RowKit Go.ChangeShapes Go.WideShapes
section
variable {P : Program}
theorem Dec.imap {t : TypeId} {α β : Type} {en : α → List AV} {ok : α → Prop} {en' : β → List AV} {ok' : β → Prop} (d : Dec P t α en ok) (f : α → β) (he : ∀ a, en a = en' (f a)) (hk : ∀ a, ok a → ok' (f a)) : Dec P t β en' ok' := by
 intro H enc w spare held fuel cs x h
 obtain ⟨a, h1, h2⟩ := d _ _ _ _ _ _ _ h
 exact ⟨f a, hk a h1, by rw [← he]; exact h2⟩
theorem Dec.struct4 {t : TypeId} {a : Array Field} (ht : P.underlying t = some (.struct a)) {t0 t1 t2 t3 : TypeId} (hfs : a.toList.map (fun f => (f.type, f.offset)) = [(t0, 0), (t1, 1), (t2, 2), (t3, 3)])
  (h0 : P.cellsOf t0 = 1) (h1 : P.cellsOf t1 = 1) (h2 : P.cellsOf t2 = 1) (h3 : P.cellsOf t3 = 1) (hs : P.cellsOf t = 4)
  {A0 A1 A2 A3 : Type} {e0 : A0 → List AV} {e1 : A1 → List AV} {e2 : A2 → List AV} {e3 : A3 → List AV} {k0 : A0 → Prop} {k1 : A1 → Prop} {k2 : A2 → Prop} {k3 : A3 → Prop}
  (d0 : Dec P t0 A0 e0 k0) (d1 : Dec P t1 A1 e1 k1) (d2 : Dec P t2 A2 e2 k2) (d3 : Dec P t3 A3 e3 k3) :
  Dec P t (A0 × A1 × A2 × A3) (fun p => e0 p.1 ++ (e1 p.2.1 ++ (e2 p.2.2.1 ++ e3 p.2.2.2))) fun p => k0 p.1 ∧ k1 p.2.1 ∧ k2 p.2.2.1 ∧ k3 p.2.2.2 := by
 refine Dec.fields ht rfl fun {H} enc w spare held n cs hl hf => ?_
 have get : ∀ t o, (t, o) ∈ a.toList.map (fun f => (f.type, f.offset)) → ∃ x, DataW.trod enc P w 0 spare held n t ((cs.drop o).take (P.cellsOf t)) = some x := fun t o hm => by
  obtain ⟨f, hf1, hf2⟩ := List.mem_map.1 hm
  cases hf2
  exact hf f hf1
 rw [hfs] at get
 rw [hs] at hl
 match cs, hl with
 | [c0, c1, c2, c3], _ =>
  obtain ⟨x0, g0⟩ := get t0 0 (by simp)
  obtain ⟨x1, g1⟩ := get t1 1 (by simp)
  obtain ⟨x2, g2⟩ := get t2 2 (by simp)
  obtain ⟨x3, g3⟩ := get t3 3 (by simp)
  obtain ⟨a0, o0, r0⟩ := d0 _ _ _ _ _ _ _ g0
  obtain ⟨a1, o1, r1⟩ := d1 _ _ _ _ _ _ _ g1
  obtain ⟨a2, o2, r2⟩ := d2 _ _ _ _ _ _ _ g2
  obtain ⟨a3, o3, r3⟩ := d3 _ _ _ _ _ _ _ g3
  rw [h0] at r0; rw [h1] at r1; rw [h2] at r2; rw [h3] at r3
  exact ⟨(a0, a1, a2, a3), ⟨o0, o1, o2, o3⟩, Rs_append (vals := [c0]) r0 (Rs_append (vals := [c1]) r1 (Rs_append (vals := [c2]) r2 r3))⟩
theorem Dec.struct5 {t : TypeId} {a : Array Field} (ht : P.underlying t = some (.struct a)) {e f : TypeId} (hfs : a.toList.map (fun f => (f.type, f.offset)) = [(e, 0), (e, 1), (e, 2), (f, 3), (f, 4)])
  (h0 : P.cellsOf e = 1) (h1 : P.cellsOf f = 1) (hs : P.cellsOf t = 5) {A0 : Type} {e0 : A0 → List AV} {k0 : A0 → Prop} (d0 : Dec P e A0 e0 k0) (d1 : Dec P f A0 e0 k0) :
  Dec P t (A0 × A0 × A0 × A0 × A0) (fun p => e0 p.1 ++ (e0 p.2.1 ++ (e0 p.2.2.1 ++ (e0 p.2.2.2.1 ++ e0 p.2.2.2.2)))) fun p => k0 p.1 ∧ k0 p.2.1 ∧ k0 p.2.2.1 ∧ k0 p.2.2.2.1 ∧ k0 p.2.2.2.2 := by
 refine Dec.fields ht rfl fun {H} enc w spare held n cs hl hf => ?_
 have get : ∀ t o, (t, o) ∈ a.toList.map (fun f => (f.type, f.offset)) → ∃ x, DataW.trod enc P w 0 spare held n t ((cs.drop o).take (P.cellsOf t)) = some x := fun t o hm => by
  obtain ⟨f, hf1, hf2⟩ := List.mem_map.1 hm
  cases hf2
  exact hf f hf1
 rw [hfs] at get
 rw [hs] at hl
 match cs, hl with
 | [c0, c1, c2, c3, c4], _ =>
  obtain ⟨x0, g0⟩ := get e 0 (by simp)
  obtain ⟨x1, g1⟩ := get e 1 (by simp)
  obtain ⟨x2, g2⟩ := get e 2 (by simp)
  obtain ⟨x3, g3⟩ := get f 3 (by simp)
  obtain ⟨x4, g4⟩ := get f 4 (by simp)
  obtain ⟨a0, o0, r0⟩ := d0 _ _ _ _ _ _ _ g0
  obtain ⟨a1, o1, r1⟩ := d0 _ _ _ _ _ _ _ g1
  obtain ⟨a2, o2, r2⟩ := d0 _ _ _ _ _ _ _ g2
  obtain ⟨a3, o3, r3⟩ := d1 _ _ _ _ _ _ _ g3
  obtain ⟨a4, o4, r4⟩ := d1 _ _ _ _ _ _ _ g4
  rw [h0] at r0 r1 r2; rw [h1] at r3 r4
  exact ⟨(a0, a1, a2, a3, a4), ⟨o0, o1, o2, o3, o4⟩, Rs_append (vals := [c0]) r0 (Rs_append (vals := [c1]) r1 (Rs_append (vals := [c2]) r2 (Rs_append (vals := [c3]) r3 r4)))⟩
end
end Go.AL

namespace Go.AL.Rl
open Go Go.AL Go.Proofs Go.RowKit Go.ChangeShapes Go.WideShapes Go.ChangeAt Go.Proofs.Ytjoggeafcdfidaa
set_option maxRecDepth 100000

theorem laidOut : laidOutB Try.prog = true := by kernel_rfl
theorem mapsOk : mapsRowed Try.prog = true := by kernel_rfl
theorem slicesOk : ((List.range Try.prog.types.size).all fun t => match Try.prog.underlying t with | some (.slice e) => decide (0 < Try.prog.cellsOf e) | _ => true) = true := by kernel_rfl
theorem own : ownKnob Try.prog.godebug = none := by kernel_rfl
def γ0 : Nat → Option AV := fun _ => none
theorem gok0 {W : World} : ∀ g x, γ0 g = some x → R (Old W) W none (.vp (fun _ => x) 0) (.pointer (some ⟨g, 0, none⟩)) := fun g x h => by cases h
theorem dInts : Dec Try.prog 22 (List Int) (fun l => [.vs 1 fun _ => is l]) fun l => l.length ≤ maxLen :=
 Dec.imap (Dec.slice Try.underlying22 (k := 1) (by kernel_rfl) (by omega) (Dec.int Try.underlying2) (fun _ => rfl) Elem.one) id (fun _ => rfl) fun _ h => h.1
theorem dEv : Dec Try.prog 28 Ev (fun e => [.i fun _ => e.kind, .i fun _ => e.loc, .i fun _ => e.order, .i fun _ => e.rd, .i fun _ => e.wr]) fun _ => True :=
 Dec.imap (Dec.struct5 Try.underlying28 (e := 3) (f := 2) (by kernel_rfl) (by kernel_rfl) (by kernel_rfl) (by kernel_rfl) (Dec.int Try.underlying3) (Dec.int Try.underlying2)) (fun p => ⟨p.1, p.2.1, p.2.2.1, p.2.2.2.1, p.2.2.2.2⟩) (fun _ => rfl) fun _ _ => trivial
theorem dId : Dec Try.prog 30 EId (fun e => [.i fun _ => e.t, .i fun _ => e.i]) fun _ => True :=
 Dec.imap (Dec.struct2 Try.underlying30 (t0 := 3) (t1 := 3) (s0 := 1) (s1 := 1) (by kernel_rfl) (by kernel_rfl) (by kernel_rfl) (by kernel_rfl) (Dec.int Try.underlying3) (Dec.int Try.underlying3)) (fun p => ⟨p.1, p.2⟩) (fun _ => rfl) fun _ _ => trivial
theorem dEvs : Dec Try.prog 47 (List Ev) (fun l => [.vs 5 fun _ => evs l]) fun l => l.length ≤ maxLen :=
 Dec.imap (Dec.slice Try.underlying47 (k := 5) (by kernel_rfl) (by omega) dEv (fun _ => rfl) (Elem.agg 5)) id (fun _ => rfl) fun _ h => h.1
theorem dIds : Dec Try.prog 55 (List EId) (fun l => [.vs 2 fun _ => ids l]) fun l => l.length ≤ maxLen :=
 Dec.imap (Dec.slice Try.underlying55 (k := 2) (by kernel_rfl) (by omega) dId (fun _ => rfl) (Elem.agg 2)) id (fun _ => rfl) fun _ h => h.1
theorem dEvss : Dec Try.prog 23 (List (List Ev)) (fun l => [.vs 1 fun _ => evss l]) fun l => l.length ≤ maxLen ∧ ∀ a ∈ l, a.length ≤ maxLen :=
 Dec.imap (Dec.slice Try.underlying23 (k := 1) (by kernel_rfl) (by omega) dEvs (fun _ => rfl) Elem.one) id (fun _ => rfl) fun _ h => h
theorem dIdss : Dec Try.prog 24 (List (List EId)) (fun l => [.vs 1 fun _ => idss l]) fun l => l.length ≤ maxLen ∧ ∀ a ∈ l, a.length ≤ maxLen :=
 Dec.imap (Dec.slice Try.underlying24 (k := 1) (by kernel_rfl) (by omega) dIds (fun _ => rfl) Elem.one) id (fun _ => rfl) fun _ h => h
theorem dGr : Dec Try.prog 26 Gr (fun g => [.vs 1 fun _ => is g.init, .vs 1 fun _ => evss g.th, .vs 1 fun _ => idss g.fr, .vs 1 fun _ => idss g.ord]) Rd :=
 Dec.imap (Dec.struct4 Try.underlying26 (t0 := 22) (t1 := 23) (t2 := 24) (t3 := 24) (by kernel_rfl) (by kernel_rfl) (by kernel_rfl) (by kernel_rfl) (by kernel_rfl) (by kernel_rfl) dInts dEvss dIdss dIdss)
  (fun p => ⟨p.1, p.2.1, p.2.2.1, p.2.2.2⟩) (fun _ => rfl) fun p h => by
   have e : maxLen = 9223372036854775807 := by decide +kernel
   obtain ⟨h0, ⟨h1, h1'⟩, ⟨h2, h2'⟩, h3, h3'⟩ := h
   rw [e] at *
   exact ⟨by dsimp only; omega, by dsimp only; omega, by dsimp only; omega, by dsimp only; omega, fun l hl => by have := h1' l hl; omega, fun l hl => by have := h2' l hl; omega, fun l hl => by have := h3' l hl; omega⟩
theorem aGraph : Arg Try.prog 26 Gr aGr Rd := Arg.agg Try.underlying26 dGr
end Go.AL.Rl

namespace Go.AL.Rl
open Go Go.AL Go.Proofs
set_option maxRecDepth 100000
open Go.RowKit Go.ChangeShapes Go.WideShapes Go.ChangeAt Go.Proofs.Ytjoggeafcdfidaa
namespace RaceNone
theorem contract (H : Type) (enc : TypeId × Value → H) (W : World) (base : Nat) (args : Array Value) (ds gs : List (DataW H)) (before : List MemPlace)
  (hval : ∀ (j : Nat) t v, Try.f5.params[j]? = some t → args[j]? = some v → Value.okWide Try.prog W .any base t v)
  (hW : DataW.Whole enc Try.prog Try.f5.params.toList Rows.raceNoneSpec.vars false W args.toList ds gs before) (hL : laidMet Try.prog Rows.raceNoneRow.laid W) :
  Calls Try.prog 5 args W fun e W' => ∃ v, e = .returned v ∧ Rows.raceNoneSpec.post enc Try.prog Try.f5 false true false false W args v W' := by
 have hW' := hW
 obtain ⟨p, q, hA, hV, rfl, hfz, hnd⟩ := hW
 rw [Try.params5] at hA hval
 obtain ⟨v0, vs0, d0, ds0, p0, q0, hargs, rfl, rfl, h0, r0⟩ := trodAll_cons hA
 obtain ⟨rfl, rfl, rfl⟩ := trodAll_nil r0
 obtain rfl : args = #[v0] := by cases args; simp_all
 obtain ⟨x0, k0, a0⟩ := aGraph enc W base v0 d0 p0 (hval 0 _ v0 rfl rfl) h0
 exact law_true (raceNone_ok (γ := γ0) x0 k0) ⟨_, _, rfl, a0, rfl⟩ gok0 hW' rfl (tb := 4) (by kernel_rfl) Try.underlying4
  (fun ds' h => by match ds', h with | [a], _ => rfl) laidOut mapsOk slicesOk (by rw [Try.params5]; decide +kernel)
theorem laid_met (os : Os) : laidMet Try.prog Rows.raceNoneRow.laid ((World.holding Try.prog os ⟨#[], #[], []⟩).forCall (fun _ _ => 0) ⟨#[], #[.agg #[.slice none 0 0, .slice none 0 0, .slice none 0 0, .slice none 0 0]], []⟩).memory :=
 laidMet_of_run' 8 (by kernel_rfl) (by kernel_rfl)
theorem reads (os : Os) {H : Type} (enc : TypeId × Value → H) : ∃ places, DataW.whole enc Try.prog ((World.holding Try.prog os ⟨#[], #[], []⟩).forCall (fun _ _ => 0) ⟨#[], #[.agg #[.slice none 0 0, .slice none 0 0, .slice none 0 0, .slice none 0 0]], []⟩).memory Try.f5.params.toList Rows.raceNoneSpec.vars false (#[.agg #[.slice none 0 0, .slice none 0 0, .slice none 0 0, .slice none 0 0]] : Array Value).toList 8 = some ([.agg [.nil, .nil, .nil, .nil]], [], places) :=
 ⟨[], by kernel_rfl⟩
theorem lifted (os : Os) (started : os.Started) (H : Type) (enc : TypeId × Value → H) (F : Stop.Interp) :
  ReturnsInHanded {} Try.checked os 5 .any ((OpenSpec.ofChange Rows.raceNoneSpec).preRow enc Try.prog Try.f5 Rows.raceNoneRow.domain false Rows.raceNoneRow.laid) (((OpenSpec.ofChange Rows.raceNoneSpec).at F).post enc Try.prog Try.f5 false true false false) := by
 obtain ⟨places, hx⟩ := reads os enc
 refine returnsInHanded_of_row (C := Try.checked) (s := OpenSpec.ofChange Rows.raceNoneSpec) own started (by kernel_rfl) Try.func5
  (witness_row_at (enc := enc) (C := Try.checked) false (World.holding Try.prog os ⟨#[], #[], []⟩) #[.agg #[.slice none 0 0, .slice none 0 0, .slice none 0 0, .slice none 0 0]] rfl (by kernel_rfl) (by kernel_rfl) (by kernel_rfl)
   (OpenSpec.preRow_of_cond 8 hx (by kernel_rfl) (fun k hk => by cases hk) (by kernel_rfl) (laid_met os))) ?_
 intro W base args ds gs before hval hW _ _ _ hL _ _
 exact contract H enc W base args ds gs before hval hW hL
theorem said : Rows.RaceNoneSaid :=
 OpenClaim.holds_of_cond 5 Try.f5 rfl rfl rfl rfl rfl rfl rfl ⟨rfl, rfl, rfl, rfl, rfl⟩ rfl rfl rfl rfl rfl (by kernel_rfl) Try.func5 (by kernel_rfl)
  (of_decide_eq_true (by kernel_rfl)) (by unfold Func.isWrapper; first | (rw [if_pos (by decide +kernel)]; kernel_rfl) | (rw [if_neg (by decide +kernel)]; exact ⟨rfl, rfl⟩))
  (fun os started H enc _ F => by rw [OpenClaim.pre_eq_preRow]; exact lifted os started H enc F)
end RaceNone
end Go.AL.Rl
