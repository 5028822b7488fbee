import Derived.Test.YtjoggeafcdfidaaGreatRc7
import Derived.OpenShut
import Derived.ReadAgain
import Derived.Deep.DeepHandedRow
import Derived.Lib.LaidTab
import Derived.ProofKit
import Derived.Test.YtjoggeafcdfidaaGreatRows
set_option linter.unusedVariables false
set_option linter.unusedSimpArgs false
namespace Go.AL.Rl
open Go Go.AL Go.Proofs
set_option maxRecDepth 100000
set_option maxHeartbeats 3200000
variable {γ : Nat → Option AV}

theorem w17Has_ok (g : Gr) (hg : Rd g) : Pure Tryz.prog γ false 10 [aGr g] (.b fun _ => decide (racesV (rvO g) ≠ [])) := by
 have ka := w17All_any (γ := γ) g hg
 have hl := racesV_len (rvO_wf g)
 generalize racesV (rvO g) = L at *
 refine Pure.go (ty := ty) ty_eq mo Tryz.func10 rfl Tryz.ntmps10 Tryz.results10 Tryz.call10 (by simp) fun P C CQ D W F E hF => ?_
 cbv
 skip
 repeat' (first
  |(refine E.c (SCalls.of_le (ka) ?_ ?_);(· (cbv;(try simp only [nc] at *);first|done|(simp;done)|(simp (disch:=(first|omega|(simp only [lnS,rcs_len];omega))) only [rdT,rdS,rcs_len,rcs_at,anT];first|done|omega|(refine ⟨?_,?_⟩<;>omega))|(simp (disch:=(first|omega|(simp only [lnS,rcs_len];omega))) [rdT,rdS,rcs_len,rcs_at];done)));cbv)
  |(refine ⟨fun _ h_s=>?_,fun _ h_s=>?_⟩<;>(cbv;(try simp only [nc] at *);try simp (disch:=(first|omega|(simp only [lnS,rcs_len];omega))) only [rdT,rdS,rcs_len,rcs_at,reduceCtorEq,trT] at h_s))
  |(refine hF ?_;intro _;clear hF)
  |(refine hF ?_;cbv;clear hF)
  |(refine ⟨fun _=>?_,?_⟩;(· ((try simp only [nc] at *);first|done|omega|exact ⟨by omega,rfl⟩|(simp (disch:=(first|omega|(simp only [lnS,rcs_len];omega))) only [rdT,rdS,rcs_len,rcs_at];first|done|omega|rfl|exact ⟨by omega,rfl⟩|(simp;done)|(simp;omega))|(intros;trivial)));(try (simp only [nc] at *));(try simp (disch:=(first|omega|(simp only [lnS,rcs_len];omega))) only [rdT,rdS,rcs_len,rcs_at]);(try cbv))
  | fail
 )
 cases L <;> simp
def eqB (d e : EId) : Bool := decide (d.t = e.t) && (decide (d.i = e.i) && true)
theorem eqB_iff (d e : EId) : eqB d e = true ↔ d = e := by unfold eqB; rw [eid_iff]; simp
def betR (r : Rc) (a b : EId) : Bool := (eqB r.a a && eqB r.b b) || (eqB r.a b && eqB r.b a)
theorem betR_iff (r : Rc) (a b : EId) : betR r a b = true ↔ (eqB r.a a = true ∧ eqB r.b b = true) ∨ (eqB r.a b = true ∧ eqB r.b a = true) := by
 unfold betR
 simp only [Bool.or_eq_true, Bool.and_eq_true]
theorem w17Bet_ok (g : Gr) (hg : Rd g) (a b : EId) : Pure Tryz.prog γ false 12 [aGr g, aId a, aId b] (.b fun _ => (racesV (rvO g)).any fun r => betR r a b) := by
 have ka := w17All_any (γ := γ) g hg
 have hl := racesV_len (rvO_wf g)
 generalize racesV (rvO g) = L at *
 obtain ⟨R, hR⟩ : ∃ R, R = L.any fun r => betR r a b := ⟨_, rfl⟩
 rw [← hR]
 refine Pure.go (ty := ty) ty_eq mo Tryz.func12 rfl Tryz.ntmps12 Tryz.results12 Tryz.call12 (by simp) fun P C CQ D W F E hF => ?_
 cbv
 skip
 repeat' (first
  |(refine E.c (SCalls.of_le (ka) ?_ ?_);(· (cbv;(try simp only [nc] at *);first|done|(simp;done)|(simp (disch:=(first|omega|(simp only [lnS,rcs_len,rcs_len];omega))) only [rdT,rdS,rcs_len,rcs_at,rcs_len,rcs_at,anT];first|done|omega|(refine ⟨?_,?_⟩<;>omega))|(simp (disch:=(first|omega|(simp only [lnS,rcs_len,rcs_len];omega))) [rdT,rdS,rcs_len,rcs_at,rcs_len,rcs_at];done)));cbv)
  |(refine ⟨fun _ h_s=>?_,fun _ h_s=>?_⟩<;>(cbv;(try simp only [nc] at *);try simp (disch:=(first|omega|(simp only [lnS,rcs_len,rcs_len];omega))) only [rdT,rdS,rcs_len,rcs_at,rcs_len,rcs_at,reduceCtorEq,trT] at h_s))
  |(refine hF ?_;intro _;clear hF)
  |(refine hF ?_;cbv;clear hF)
  |(refine ⟨fun _=>?_,?_⟩;(· ((try simp only [nc] at *);first|done|omega|exact ⟨by omega,rfl⟩|(simp (disch:=(first|omega|(simp only [lnS,rcs_len,rcs_len];omega))) only [rdT,rdS,rcs_len,rcs_at,rcs_len,rcs_at];first|done|omega|rfl|exact ⟨by omega,rfl⟩|(simp;done)|(simp;omega))|(intros;trivial)));(try (simp only [nc] at *));(try simp (disch:=(first|omega|(simp only [lnS,rcs_len,rcs_len];omega))) only [rdT,rdS,rcs_len,rcs_at,rcs_len,rcs_at]);(try cbv))
  |(refine E.d 31 (by decide +kernel) ?_;cbv;(fail_if_success guard_target =~ False))
  | fail
 )
 refine E.loopS (ι:=Nat) (fun i=>i≤L.length∧(∀ j < i,betR (L.getD j rc0) a b = false)) (fun i=>L.length - i) (fun i=>[(9,.i fun _=>((i : Nat) : Int))]) (fun i h=>h) 0 (fun _=>by first|rfl|simp) ⟨Nat.zero_le _,?_⟩ ?_ fun i hi I hI=>?_
 ·intro k hk; omega
 ·cbv; simp
 cbv
 obtain ⟨hi, hp⟩ := hi
 have hb := betR_iff (L.getD i rc0) a b
 unfold eqB at hb
 have hyes : i < L.length → betR (L.getD i rc0) a b = true → R = true := fun h1 h2 => by
  rw [hR, List.any_eq_true]; exact ⟨_, getD_mem h1, h2⟩
 have hno : i = L.length → R = false := fun h1 => by
  rw [hR, List.any_eq_false]
  intro r hr
  obtain ⟨j, hj, rfl⟩ := List.getElem_of_mem hr
  have := hp j (by omega)
  rw [gD' hj] at this
  simp [this]
 have hnx : betR (L.getD i rc0) a b = false → ∀ j < i + 1, betR (L.getD j rc0) a b = false := fun h1 j hj => by
  rcases Nat.lt_or_ge j i with h2 | h2
  ·exact hp j h2
  ·have e : j = i := by omega
   rw [e]; exact h1
 repeat' (first
  |(refine hI (i + 1) ?_ ?_ ?_;rotate_left 1;(· ((try simp only [nc] at *);omega));(cbv;clear hI;(try clear hF);(try simp only [nc] at *);(try simp (disch:=(first|omega|(simp only [lnS,rcs_len,rcs_len];omega))) only [rdT,rdS,rcs_len,rcs_at,rcs_len,rcs_at,anT]));rotate_left 1;(try ((try simp only [nc] at *);omega)))
  |(refine ⟨fun _ h_s=>?_,fun _ h_s=>?_⟩<;>(cbv;(try simp only [nc] at *);try simp (disch:=(first|omega|(simp only [lnS,rcs_len,rcs_len];omega))) only [rdT,rdS,rcs_len,rcs_at,rcs_len,rcs_at,reduceCtorEq,trT] at h_s))
  |(refine hF ?_;intro _;clear hF)
  |(refine hF ?_;cbv;clear hF)
  |(refine ⟨fun _=>?_,?_⟩;(· ((try simp only [nc] at *);first|done|omega|exact ⟨by omega,rfl⟩|(simp (disch:=(first|omega|(simp only [lnS,rcs_len,rcs_len];omega))) only [rdT,rdS,rcs_len,rcs_at,rcs_len,rcs_at];first|done|omega|rfl|exact ⟨by omega,rfl⟩|(simp;done)|(simp;omega))|(intros;trivial)));(try (simp only [nc] at *));(try simp (disch:=(first|omega|(simp only [lnS,rcs_len,rcs_len];omega))) only [rdT,rdS,rcs_len,rcs_at,rcs_len,rcs_at]);(try cbv))
  |(refine E.d 31 (by decide +kernel) ?_;cbv;(fail_if_success guard_target =~ False))
  | fail
 )
 all_goals (try clear hI)
 all_goals (try clear hF)
 all_goals clear ka E
 all_goals first
  | (push_cast; rfl)
  | (refine hno ?_; (((try simp only [nc] at *); omega)))
  | (refine hyes ?_ (hb.2 (.inl ⟨?_, ?_⟩)) <;> first | assumption | ((try simp only [nc] at *); omega))
  | (refine hyes ?_ (hb.2 (.inr ⟨?_, ?_⟩)) <;> first | assumption | ((try simp only [nc] at *); omega))
  | (refine ⟨?_, hnx (Bool.eq_false_iff.2 fun h => ?_)⟩; (((try simp only [nc] at *); omega)); rcases hb.1 h with ⟨h1, h2⟩ | ⟨h1, h2⟩ <;> first | (refine absurd h1 (Bool.eq_false_iff.1 ?_); assumption) | (refine absurd h2 (Bool.eq_false_iff.1 ?_); assumption))
/-- the locations below a bound where a race is -/
def lcTo (L : List Rc) : Nat → List Int
 | 0 => []
 | x + 1 => lcTo L x ++ if L.any (fun r => decide (r.loc = (x : Int))) = true then [(x : Int)] else []
theorem lcTo_len (L : List Rc) : ∀ x, (lcTo L x).length ≤ x
 | 0 => Nat.le_refl _
 | x + 1 => by
  have := lcTo_len L x
  rw [lcTo, List.length_append]
  split <;> simp <;> omega
theorem lcTo_mem {L : List Rc} {z : Int} : ∀ {x : Nat}, z ∈ lcTo L x ↔ 0 ≤ z ∧ z < x ∧ ∃ r ∈ L, r.loc = z
 | 0 => by simp [lcTo]; omega
 | x + 1 => by
  rw [lcTo, List.mem_append, lcTo_mem]
  constructor
  ·rintro (⟨h1, h2, h3⟩ | h)
   ·exact ⟨h1, by omega, h3⟩
   ·split at h
    ·rename_i hc
     have e : z = (x : Int) := by simpa using h
     rw [List.any_eq_true] at hc
     obtain ⟨r, hr, hl⟩ := hc
     rw [decide_eq_true_eq] at hl
     exact ⟨by omega, by omega, r, hr, by rw [hl, e]⟩
    ·cases h
  ·rintro ⟨h1, h2, r, hr, hl⟩
   by_cases e : z = (x : Int)
   ·right
    rw [if_pos (List.any_eq_true.2 ⟨r, hr, by rw [decide_eq_true_eq, hl, e]⟩)]
    simp [e]
   ·exact .inl ⟨h1, by omega, r, hr, hl⟩
theorem lcTo_lt (L : List Rc) : ∀ x, (lcTo L x).Pairwise (· < ·)
 | 0 => List.Pairwise.nil
 | x + 1 => by
  rw [lcTo, List.pairwise_append]
  refine ⟨lcTo_lt L x, by split <;> simp, fun a ha b hb => ?_⟩
  rw [lcTo_mem] at ha
  split at hb
  ·have e : b = (x : Int) := by simpa using hb
   omega
  ·cases hb
theorem w17Locs_ok (g : Gr) (hg : Rd g) : Pure Tryz.prog γ false 15 [aGr g] (.vs 1 fun _ => is (lcTo (racesV (rvO g)) g.init.length)) := by
 skip
 have ka := w17All_any (γ := γ) g hg
 have hl := racesV_len (rvO_wf g)
 have hin := hg.init
 have hsm : 0 < (racesV (rvO g)).length → g.init.length ≤ 6 := fun h => by
  by_cases hgo : GOk g
  ·exact hgo.short.init
  ·rw [show racesV (rvO g) = [] by unfold rvO; rw [if_neg hgo]; rfl] at h; exact absurd h (Nat.lt_irrefl 0)
 generalize racesV (rvO g) = L at *
 obtain ⟨T, hT⟩ : ∃ T : Nat → List Int, ∀ x, T x = lcTo L x := ⟨_, fun _ => rfl⟩
 have t0 : T 0 = [] := hT 0
 have tL : ∀ x, (T x).length ≤ x := fun x => by rw [hT]; exact lcTo_len L x
 have tY : ∀ x i : Nat, i < L.length → (L.getD i rc0).loc = (x : Int) → T (x + 1) = T x ++ [(x : Int)] := fun x i h1 h2 => by
  rw [hT, hT, lcTo, if_pos (List.any_eq_true.2 ⟨_, getD_mem h1, decide_eq_true h2⟩)]
 have tN : ∀ x : Nat, (∀ j < L.length, (L.getD j rc0).loc ≠ (x : Int)) → T (x + 1) = T x := fun x h1 => by
  rw [hT, hT, lcTo, if_neg, List.append_nil]
  intro h
  rw [List.any_eq_true] at h
  obtain ⟨r, hr, h2⟩ := h
  obtain ⟨j, hj, rfl⟩ := List.getElem_of_mem hr
  have := h1 j hj
  rw [gD' hj] at this
  exact this (of_decide_eq_true h2)
 rw [← hT]
 obtain ⟨G, hG⟩ : ∃ G : List Int → Nat, ∀ l, G l = l.length := ⟨_, fun _ => rfl⟩
 have hG0 : G [] = 0 := by rw [hG]; rfl
 refine Pure.go (ty := ty) ty_eq mo Tryz.func15 rfl Tryz.ntmps15 Tryz.results15 Tryz.call15 (by simp) fun P C CQ D W F E hF => ?_
 cbv
 repeat' (first
  |(refine E.c (SCalls.of_le (ka) ?_ ?_);(· (cbv;(try simp only [nc] at *);first|done|(simp;done)|(simp (disch:=(first|omega|(simp only [lnS,rcs_len];omega))) only [rdT,rdS,rcs_len,rcs_at,anT];first|done|omega|(refine ⟨?_,?_⟩<;>omega))|(simp (disch:=(first|omega|(simp only [lnS,rcs_len];omega))) [rdT,rdS,rcs_len,rcs_at];done)));cbv)
  |(refine ⟨fun _ h_s=>?_,fun _ h_s=>?_⟩<;>(cbv;(try simp only [nc] at *);try simp (disch:=(first|omega|(simp only [lnS,rcs_len];omega))) only [rdT,rdS,rcs_len,rcs_at,reduceCtorEq,trT] at h_s))
  |(refine hF ?_;intro _;clear hF)
  |(refine hF ?_;cbv;clear hF)
  |(refine ⟨fun _=>?_,?_⟩;(· ((try simp only [nc] at *);first|done|omega|exact ⟨by omega,rfl⟩|(simp (disch:=(first|omega|(simp only [lnS,rcs_len];omega))) only [rdT,rdS,rcs_len,rcs_at];first|done|omega|rfl|exact ⟨by omega,rfl⟩|(simp;done)|(simp;omega))|(intros;trivial)));(try (simp only [nc] at *));(try simp (disch:=(first|omega|(simp only [lnS,rcs_len];omega))) only [rdT,rdS,rcs_len,rcs_at]);(try cbv))
  | fail
 )
 refine E.w (AWP.ghostSlot 5 1 rfl (by omega) (E.loopSA (ι := Nat) (fun x => x ≤ g.init.length) (fun x => g.init.length - x) (fun x => [(6, .i fun _ => ((x : Nat) : Int)), (5, .sl 1 (G (T x)) 1 (fun _ => 0) fun _ => (T x).length)]) (fun x h => h.set 1 (.run (G (T x)) 1 fun _ => is (T x))) 0 (fun _ => by first | rfl | simp) (Nat.zero_le _) ?_ fun x hx I hI => ?_))
 ·cbv; simp [t0, hG0, is, LV.of]
 cbv
 have e2 := tL x
 skip
 repeat' (first
  |(refine ⟨fun _ h_s=>?_,fun _ h_s=>?_⟩<;>(cbv;(try simp only [nc] at *);try simp (disch:=(first|omega|(simp only [lnS,rcs_len];omega))) only [rdT,rdS,rcs_len,rcs_at,reduceCtorEq,trT] at h_s))
  |(refine hF ?_;intro _;clear hF)
  |(refine hF ?_;cbv;clear hF)
  |(refine ⟨fun _=>?_,?_⟩;(· ((try simp only [nc] at *);first|done|omega|exact ⟨by omega,rfl⟩|(simp (disch:=(first|omega|(simp only [lnS,rcs_len];omega))) only [rdT,rdS,rcs_len,rcs_at];first|done|omega|rfl|exact ⟨by omega,rfl⟩|(simp;done)|(simp;omega))|(intros;trivial)|exact ⟨by first|trivial|rfl,by first|trivial|rfl|simp,by first|trivial|simp,by simp;omega,by simp;omega,by simp [AV.flat,AV.cells,AV.one]⟩));(try (simp only [nc] at *));(try simp (disch:=(first|omega|(simp only [lnS,rcs_len];omega))) only [rdT,rdS,rcs_len,rcs_at]);(try cbv))
  | fail
 )
 ·refine E.loopS (ι:=Nat) (fun i=>i≤L.length∧∀ j < i,(L.getD j rc0).loc ≠ (x : Int)) (fun i=>L.length - i) (fun i=>[(7,.i fun _=>((i : Nat) : Int)),(5,.sl 1 (G (T x)) 1 (fun _=>0) fun _=>(T x).length)]) (fun i h=>h.set 1 (.run (G (T x)) 1 fun _=>is (T x))) 0 (fun _=>by first|rfl|simp) ⟨Nat.zero_le _,fun j hj=>absurd hj (Nat.not_lt_zero j)⟩ ?_ fun i hi I2 hI2=>?_
  ·cbv; simp
  cbv
  obtain ⟨hi, hp⟩ := hi
  have y1 := tY x i
  have y2 := tN x
  rcases Nat.lt_or_ge i L.length with hil | hil
  ·have hs6 := hsm (by omega)
   repeat' (first
    |(refine hI (x + 1) ?_ ?_ ?_;rotate_left 1;(· ((try simp only [nc] at *);omega));(cbv;clear hI;(try clear hF);(try simp only [nc] at *);(try simp (disch:=(first|omega|(simp only [lnS,rcs_len];omega))) only [rdT,rdS,rcs_len,rcs_at,anT]));rotate_left 1;(try ((try simp only [nc] at *);omega)))
    |(refine hI2 (i + 1) ?_ ?_ ?_;rotate_left 1;(· ((try simp only [nc] at *);omega));(cbv;clear hI2;(try clear hF);(try simp only [nc] at *);(try simp (disch:=(first|omega|(simp only [lnS,rcs_len];omega))) only [rdT,rdS,rcs_len,rcs_at,anT]));rotate_left 1;(try ((try simp only [nc] at *);omega)))
    |(refine ⟨fun _ h_s=>?_,fun _ h_s=>?_⟩<;>(cbv;(try simp only [nc] at *);try simp (disch:=(first|omega|(simp only [lnS,rcs_len];omega))) only [rdT,rdS,rcs_len,rcs_at,reduceCtorEq,trT] at h_s))
    |(refine hF ?_;intro _;clear hF)
    |(refine hF ?_;cbv;clear hF)
    |(refine ⟨fun _=>?_,?_⟩;(· ((try simp only [nc] at *);first|done|omega|exact ⟨by omega,rfl⟩|(simp (disch:=(first|omega|(simp only [lnS,rcs_len];omega))) only [rdT,rdS,rcs_len,rcs_at];first|done|omega|rfl|exact ⟨by omega,rfl⟩|(simp;done)|(simp;omega))|(intros;trivial)|exact ⟨by first|trivial|rfl,by first|trivial|rfl|simp,by first|trivial|simp,by simp;omega,by simp;omega,by simp [AV.flat,AV.cells,AV.one]⟩));(try (simp only [nc] at *));(try simp (disch:=(first|omega|(simp only [lnS,rcs_len];omega))) only [rdT,rdS,rcs_len,rcs_at]);(try cbv))
    | fail
   )
   ·rw [y1 hil (by ((try simp only [nc] at *); omega))]
    simp [hG, is, setAll, AV.nrm, nrms, nrm1]
   ·refine ⟨by ((try simp only [nc] at *); omega), fun j hj => ?_⟩
    rcases Nat.lt_or_ge j i with h2 | h2
    ·exact hp j h2
    ·have e : j = i := by omega
     rw [e]
     intro hh
     ((try simp only [nc] at *); omega)
   ·push_cast; rfl
   ·exfalso; ((try simp only [nc] at *); omega)
  ·have e : i = L.length := by omega
   subst e
   have y2 := y2 fun j hj => hp j hj
   repeat' (first
    |(refine hI (x + 1) ?_ ?_ ?_;rotate_left 1;(· ((try simp only [nc] at *);omega));(cbv;clear hI;(try clear hF);(try simp only [nc] at *);(try simp (disch:=(first|omega|(simp only [lnS,rcs_len];omega))) only [rdT,rdS,rcs_len,rcs_at,anT]));rotate_left 1;(try ((try simp only [nc] at *);omega)))
    |(refine ⟨fun _ h_s=>?_,fun _ h_s=>?_⟩<;>(cbv;(try simp only [nc] at *);try simp (disch:=(first|omega|(simp only [lnS,rcs_len];omega))) only [rdT,rdS,rcs_len,rcs_at,reduceCtorEq,trT] at h_s))
    |(refine hF ?_;intro _;clear hF)
    |(refine hF ?_;cbv;clear hF)
    |(refine ⟨fun _=>?_,?_⟩;(· ((try simp only [nc] at *);first|done|omega|exact ⟨by omega,rfl⟩|(simp (disch:=(first|omega|(simp only [lnS,rcs_len];omega))) only [rdT,rdS,rcs_len,rcs_at];first|done|omega|rfl|exact ⟨by omega,rfl⟩|(simp;done)|(simp;omega))|(intros;trivial)|exact ⟨by first|trivial|rfl,by first|trivial|rfl|simp,by first|trivial|simp,by simp;omega,by simp;omega,by simp [AV.flat,AV.cells,AV.one]⟩));(try (simp only [nc] at *));(try simp (disch:=(first|omega|(simp only [lnS,rcs_len];omega))) only [rdT,rdS,rcs_len,rcs_at]);(try cbv))
    | fail
   )
   all_goals first
    | (exfalso; ((try simp only [nc] at *); omega))
    | (rw [y2]; exact ⟨⟨⟨rfl, rfl⟩, by push_cast; rfl⟩, rfl, rfl⟩)
    | (exfalso; exact Nat.lt_irrefl _ (by assumption))
 ·have e : x = g.init.length := by ((try simp only [nc] at *); omega)
  subst e
  intro _
  refine ⟨rfl, by simp, ?_⟩
  rw [List.drop_zero, List.take_of_length_le (by simp)]
end Go.AL.Rl

namespace Go.AL.Rl
open Go Go.AL Go.Proofs
set_option maxRecDepth 100000
set_option maxHeartbeats 3200000
variable {γ : Nat → Option AV}

theorem oneM_symm (v : RV) (a b : Nat) : oneM v a b = oneM v b a := by
 rw [Bool.eq_iff_iff, oneM_iff, oneM_iff]
 constructor
 ·rintro ⟨h1, h2, h3, h4, h5, h6, h7, h8⟩; exact ⟨fun e => h1 e.symm, h3, h2, h4.symm, h5.symm, h6.symm, h8, h7⟩
 ·rintro ⟨h1, h2, h3, h4, h5, h6, h7, h8⟩; exact ⟨fun e => h1 e.symm, h3, h2, h4.symm, h5.symm, h6.symm, h8, h7⟩
theorem races_has {v : RV} {x y : Nat} (hxy : x < y) (hy : y < v.ids.length) (h : oneM v x y = true) : rcOf v (x, y) ∈ racesV v := by
 unfold racesV
 exact List.mem_map_of_mem (rpA_has hxy hy h v.ids.length (by omega))
theorem races_of {v : RV} {r : Rc} (h : r ∈ racesV v) : ∃ x y, x < y ∧ y < v.ids.length ∧ oneM v x y = true ∧ r = rcOf v (x, y) := by
 unfold racesV at h
 rw [List.mem_map] at h
 obtain ⟨p, hp, e⟩ := h
 obtain ⟨h1, h2, h3⟩ := rpA_mem _ hp
 exact ⟨p.1, p.2, h1, h2, h3, e.symm⟩
theorem numI_G {g : Gr} {k : Nat} (hk : k < (idsT g g.th.length).length) : numI (idsT g g.th.length) ((idsT g g.th.length).getD k id0) = (k : Nat) :=
 numI_at hk rfl fun j hj he => by
  have := getD_inj (idsT_nodup g _) (by omega) hk he
  omega
theorem numI_in {l : List EId} {d : EId} (h : 0 ≤ numI l d) : (numI l d).toNat < l.length ∧ l.getD (numI l d).toNat id0 = d := by
 by_cases hm : d ∈ l
 ·have h1 := numOf_lt hm
  have h2 := numOf_get hm
  have e : numI l d = (numOf l d : Nat) := by
   unfold numI
   rw [numOf_find hm]
  rw [e, Int.toNat_natCast]
  exact ⟨h1, h2⟩
 ·rw [numI_no fun j hj he => hm (by rw [← he]; exact getD_mem hj)] at h
  omega
theorem bet_eq (g : Gr) (a b : EId) : ((racesV (rvG g)).any fun r => betR r a b) = btM (rvG g) a b := by
 rw [Bool.eq_iff_iff, List.any_eq_true]
 unfold btM
 simp only [Bool.and_eq_true, decide_eq_true_eq]
 constructor
 ·rintro ⟨r, hr, hb⟩
  obtain ⟨x, y, hxy, hy, ho, rfl⟩ := races_of hr
  have hx : x < (rvG g).ids.length := Nat.lt_trans hxy hy
  rw [betR_iff, eqB_iff, eqB_iff, eqB_iff, eqB_iff] at hb
  have nx := numI_G (g := g) hx
  have ny := numI_G (g := g) hy
  rcases hb with ⟨h1, h2⟩ | ⟨h1, h2⟩
  ·change (idsT g g.th.length).getD x id0 = a at h1
   change (idsT g g.th.length).getD y id0 = b at h2
   rw [h1] at nx
   rw [h2] at ny
   show (0 ≤ numI (idsT g g.th.length) a ∧ 0 ≤ numI (idsT g g.th.length) b) ∧ oneM (rvG g) (numI (idsT g g.th.length) a).toNat (numI (idsT g g.th.length) b).toNat = true
   rw [nx, ny, Int.toNat_natCast, Int.toNat_natCast]
   exact ⟨⟨by omega, by omega⟩, ho⟩
  ·change (idsT g g.th.length).getD x id0 = b at h1
   change (idsT g g.th.length).getD y id0 = a at h2
   rw [h1] at nx
   rw [h2] at ny
   show (0 ≤ numI (idsT g g.th.length) a ∧ 0 ≤ numI (idsT g g.th.length) b) ∧ oneM (rvG g) (numI (idsT g g.th.length) a).toNat (numI (idsT g g.th.length) b).toNat = true
   rw [nx, ny, Int.toNat_natCast, Int.toNat_natCast]
   exact ⟨⟨by omega, by omega⟩, by rw [oneM_symm]; exact ho⟩
 ·rintro ⟨⟨h1, h2⟩, ho⟩
  obtain ⟨a1, a2⟩ := numI_in h1
  obtain ⟨b1, b2⟩ := numI_in h2
  generalize (numI (rvG g).ids a).toNat = x at *
  generalize (numI (rvG g).ids b).toNat = y at *
  rcases Nat.lt_trichotomy x y with h | h | h
  ·exact ⟨_, races_has h b1 ho, (betR_iff _ _ _).2 (.inl ⟨(eqB_iff _ _).2 a2, (eqB_iff _ _).2 b2⟩)⟩
  ·subst h; exact absurd rfl (oneM_iff.1 ho).1
  ·exact ⟨_, races_has h a1 (by rw [oneM_symm]; exact ho), (betR_iff _ _ _).2 (.inr ⟨(eqB_iff _ _).2 b2, (eqB_iff _ _).2 a2⟩)⟩
theorem bet_any (g : Gr) (a b : EId) : ((racesV (rvO g)).any fun r => betR r a b) = btM (rvO g) a b := by
 unfold rvO
 split
 ·exact bet_eq g a b
 ·rfl
theorem race_loc {g : Gr} (hg : GOk g) {r : Rc} (h : r ∈ racesV (rvG g)) : 0 ≤ r.loc ∧ r.loc < g.init.length := by
 obtain ⟨x, y, hxy, hy, ho, rfl⟩ := races_of h
 have hx : x < (rvG g).ids.length := Nat.lt_trans hxy hy
 have c2 := (oneM_iff.1 ho).2.1
 have h1 := evsT_get g g.th.length x (Nat.le_refl _) hx
 have hm : (idsT g g.th.length).getD x id0 ∈ idsT g g.th.length := getD_mem hx
 rw [idsT_mem] at hm
 obtain ⟨m1, m2, m3, m4⟩ := hm
 show 0 ≤ (rAt (rvG g) x).loc ∧ (rAt (rvG g) x).loc < g.init.length
 generalize (idsT g g.th.length).getD x id0 = d at *
 unfold eventM at h1
 rw [if_neg (by omega), if_pos ⟨by omega, m2, m3, m4⟩] at h1
 have f := (hg.events (d.t - 1).toNat (by omega)).2 d.i.toNat (by omega)
 rw [Option.some.inj h1] at f
 change fineM g.init.length (rAt (rvG g) x) = true at f
 unfold fineM at f
 simp only [Bool.and_eq_true] at f
 have h4 := f.2
 rw [if_neg c2, decide_eq_true_eq] at h4
 exact h4
theorem locs_any (g : Gr) : lcTo (racesV (rvO g)) g.init.length = locsV (rvO g) := by
 refine rising_eq (lcTo_lt _ _) (locsV_lt _) fun z => ?_
 rw [lcTo_mem, locsV_mem]
 constructor
 ·rintro ⟨_, _, h⟩; exact h
 ·rintro ⟨r, hr, rfl⟩
  by_cases hg : GOk g
  ·have e : rvO g = rvG g := by unfold rvO; rw [if_pos hg]
   have h1 := race_loc hg (e ▸ hr)
   exact ⟨h1.1, h1.2, r, hr, rfl⟩
  ·have e : rvO g = rv0 := by unfold rvO; rw [if_neg hg]
   rw [e] at hr; cases hr
theorem idsT_at17 (g : Gr) {t i : Nat} (hi : i < (g.th.getD t []).length) : ∀ n, t < n → (idsT g n).getD ((idsT g t).length + i) id0 = ⟨(t : Int) + 1, (i : Int)⟩
 | 0, h => absurd h (Nat.not_lt_zero t)
 | n + 1, h => by
  rw [idsT_succ]
  rcases Nat.eq_or_lt_of_le (Nat.lt_succ_iff.1 h) with e | e
  ·subst e
   rw [List.getD_eq_getElem?_getD, List.getElem?_append_right (by omega), Nat.add_sub_cancel_left]
   have hi' : i < (g.th[t]?.getD []).length := by simpa using hi
   simp [idsE, hi']
  ·have h2 := idsT_at17 g hi n e
   have hl : (idsT g t).length + i < (idsT g n).length := by
    have h3 : ∀ m, t < m → (idsT g t).length + (g.th.getD t []).length ≤ (idsT g m).length := fun m hm => by
     induction m with
     | zero => omega
     | succ m ih =>
      rw [idsT_succ, List.length_append, idsE_len]
      rcases Nat.eq_or_lt_of_le (Nat.lt_succ_iff.1 hm) with e | e
      ·subst e; exact Nat.le_refl _
      ·have := ih e; omega
    have := h3 n e; omega
   rw [List.getD_eq_getElem?_getD, List.getElem?_append_left hl, ← List.getD_eq_getElem?_getD, h2]
theorem idsT_lt17 (g : Gr) {t i : Nat} (hi : i < (g.th.getD t []).length) : ∀ n, t < n → (idsT g t).length + i < (idsT g n).length
 | 0, h => absurd h (Nat.not_lt_zero t)
 | n + 1, h => by
  rw [idsT_succ, List.length_append, idsE_len]
  rcases Nat.eq_or_lt_of_le (Nat.lt_succ_iff.1 h) with e | e
  ·subst e; omega
  ·have := idsT_lt17 g hi n e; omega
theorem plain_turn {g : Gr} {t i : Nat} (ht : t < g.th.length) (hi : i < (g.th.getD t []).length) : rPl (rAt (rvG g) ((idsT g t).length + i)) = decide (((g.th.getD t []).getD i ev0).order = 1) ∧ (rvG g).ids.getD ((idsT g t).length + i) id0 = ⟨(t : Int) + 1, (i : Int)⟩ := by
 have h1 := idsT_at17 g hi g.th.length ht
 have hl := idsT_lt17 g hi g.th.length ht
 refine ⟨?_, h1⟩
 have h2 := evsT_get g g.th.length _ (Nat.le_refl _) hl
 rw [h1] at h2
 unfold eventM at h2
 rw [if_neg (show ¬ ((t : Int) + 1 = 0) by omega), if_pos ⟨by show (0 : Int) < (t : Int) + 1; omega, by show (t : Int) + 1 ≤ _; omega, by show (0 : Int) ≤ (i : Int); omega, by show (i : Int) < ((g.th.getD ((t : Int) + 1 - 1).toNat []).length : Nat); rw [show ((t : Int) + 1 - 1).toNat = t by omega]; omega⟩] at h2
 have h3 := Option.some.inj h2
 rw [show ((⟨(t : Int) + 1, (i : Int)⟩ : EId).t - 1).toNat = t by show ((t : Int) + 1 - 1).toNat = t; omega] at h3
 unfold rPl rAt
 show decide (((evsT g g.th.length).getD _ ev0).order = 1) = _
 rw [← h3]
 rfl
theorem w17Plain_yes (g : Gr) (hg : GOk g) : Pure Tryz.prog γ false 18 [aGr g] (.vs 2 fun _ => ids (plTo17 (rvG g) (idsT g g.th.length).length)) := by
 skip
 have hR := rd_short hg
 have kc := check14_ok (γ := γ) g hR
 rw [gcheck0 hg] at kc
 have hs := hg.short
 have hth := hs.th
 have hle := hs.at
 obtain ⟨L, hL⟩ : ∃ L : Nat → Nat → List EId, ∀ t i, L t i = plTo17 (rvG g) ((idsT g t).length + i) := ⟨_, fun _ _ => rfl⟩
 have hx : ∀ t i, t < g.th.length → i < (g.th.getD t []).length → L t (i + 1) = if ((g.th.getD t []).getD i ev0).order = 1 then L t i ++ [⟨(t : Int) + 1, (i : Int)⟩] else L t i := fun t i ht hi => by
  obtain ⟨p1, p2⟩ := plain_turn ht hi
  rw [hL, hL, ← Nat.add_assoc]
  show (_ ++ if _ then _ else _) = _
  rw [p1, p2]
  by_cases ho : ((g.th.getD t []).getD i ev0).order = 1
  ·rw [if_pos (decide_eq_true ho), if_pos ho]
  ·rw [if_neg (by simpa using ho), if_neg ho, List.append_nil]
 have he : ∀ t, L t (g.th.getD t []).length = L (t + 1) 0 := fun t => by rw [hL, hL, idsT_succ, List.length_append, idsE_len]; rfl
 have hf : L g.th.length 0 = plTo17 (rvG g) (idsT g g.th.length).length := hL _ _
 have h0 : L 0 0 = [] := hL _ _
 have hl : ∀ t i, (L t i).length ≤ 14 * t + i := fun t i => by
  have h1 := plTo17_len (rvG g) ((idsT g t).length + i)
  have h2 := evsT_len hs t
  have h3 := idsT_len g t
  rw [hL]
  omega
 rw [← hf]
 clear hL
 obtain ⟨G, hG⟩ : ∃ G : List EId → Nat, ∀ l, G l = l.length := ⟨_, fun _ => rfl⟩
 have hG0 : G [] = 0 := by rw [hG]; rfl
 refine Pure.go (ty := ty) ty_eq mo Tryz.func18 rfl Tryz.ntmps18 Tryz.results18 Tryz.call18 (by simp) fun P C CQ D W F E hF => ?_
 cbv
 repeat' (first
  |(refine E.c (SCalls.of_le (kc) ?_ ?_);(· (cbv;(try simp only [nc] at *);first|done|(simp;done)|(simp (disch:=(first|omega|(simp only [lnS];omega))) only [rdT,rdS,anT];first|done|omega|(refine ⟨?_,?_⟩<;>omega))|(simp (disch:=(first|omega|(simp only [lnS];omega))) [rdT,rdS];done)));cbv)
  |(refine ⟨fun _ h_s=>?_,fun _ h_s=>?_⟩<;>(cbv;(try simp only [nc] at *);try simp (disch:=(first|omega|(simp only [lnS];omega))) only [rdT,rdS,reduceCtorEq,trT] at h_s))
  |(refine hF ?_;intro _;clear hF)
  |(refine hF ?_;cbv;clear hF)
  |(refine ⟨fun _=>?_,?_⟩;(· ((try simp only [nc] at *);first|done|omega|exact ⟨by omega,rfl⟩|(simp (disch:=(first|omega|(simp only [lnS];omega))) only [rdT,rdS];first|done|omega|rfl|exact ⟨by omega,rfl⟩|(simp;done)|(simp;omega))|(intros;trivial)));(try (simp only [nc] at *));(try simp (disch:=(first|omega|(simp only [lnS];omega))) only [rdT,rdS]);(try cbv))
  | fail
 )
 ·exact absurd trivial h_s
 refine E.w (AWP.ghostSlot 3 2 rfl (by omega) (E.loopSA (ι := Nat) (fun t => t ≤ g.th.length) (fun t => g.th.length - t) (fun t => [(4, .i fun _ => ((t : Nat) : Int)), (3, .sl 1 (G (L t 0)) 2 (fun _ => 0) fun _ => (L t 0).length)]) (fun t h => h.set 1 (.run (G (L t 0)) 2 fun _ => ids (L t 0))) 0 (fun _ => by first | rfl | simp) (Nat.zero_le _) ?_ fun t ht I1 hI1 => ?_))
 ·cbv; simp [h0, hG0, ids, LV.of]
 cbv
 have hgt := hle t
 have hx := fun i => hx t i
 have he := he t
 repeat' (first
  |(refine ⟨fun _ h_s=>?_,fun _ h_s=>?_⟩<;>(cbv;(try simp only [nc] at *);try simp (disch:=(first|omega|(simp only [lnS];omega))) only [rdT,rdS,reduceCtorEq,trT] at h_s))
  |(refine hF ?_;intro _;clear hF)
  |(refine hF ?_;cbv;clear hF)
  |(refine ⟨fun _=>?_,?_⟩;(· ((try simp only [nc] at *);first|done|omega|exact ⟨by omega,rfl⟩|(simp (disch:=(first|omega|(simp only [lnS];omega))) only [rdT,rdS];first|done|omega|rfl|exact ⟨by omega,rfl⟩|(simp;done)|(simp;omega))|(intros;trivial)));(try (simp only [nc] at *));(try simp (disch:=(first|omega|(simp only [lnS];omega))) only [rdT,rdS]);(try cbv))
  | fail
 )
 ·refine E.loopS (ι:=Nat) (fun i=>i≤(g.th.getD t []).length) (fun i=>(g.th.getD t []).length - i) (fun i=>[(5,.i fun _=>((i : Nat) : Int)),(3,.sl 1 (G (L t i)) 2 (fun _=>0) fun _=>(L t i).length)]) (fun i h=>h.set 1 (.run (G (L t i)) 2 fun _=>ids (L t i))) 0 (fun _=>by first|rfl|simp) (Nat.zero_le _) ?_ fun i hi I2 hI2=>?_
  ·cbv; simp
  cbv
  have f2 := hl t i
  skip
  rcases Nat.lt_or_ge i (g.th.getD t []).length with hil | hil
  ·have f1 := hx i (by ((try simp only [nc] at *); omega)) hil
   repeat' (first
    |(refine hI1 (t + 1) ?_ ?_ ?_;rotate_left 1;(· ((try simp only [nc] at *);omega));(cbv;clear hI1;(try clear hF);(try simp only [nc] at *);(try simp (disch:=(first|omega|(simp only [lnS];omega))) only [rdT,rdS,anT]));rotate_left 1;(try ((try simp only [nc] at *);omega)))
    |(refine hI2 (i + 1) ?_ ?_ ?_;rotate_left 1;(· ((try simp only [nc] at *);omega));(cbv;clear hI2;(try clear hF);(try simp only [nc] at *);(try simp (disch:=(first|omega|(simp only [lnS];omega))) only [rdT,rdS,anT]));rotate_left 1;(try ((try simp only [nc] at *);omega)))
    |(refine ⟨fun _ h_s=>?_,fun _ h_s=>?_⟩<;>(cbv;(try simp only [nc] at *);try simp (disch:=(first|omega|(simp only [lnS];omega))) only [rdT,rdS,reduceCtorEq,trT] at h_s))
    |(refine hF ?_;intro _;clear hF)
    |(refine hF ?_;cbv;clear hF)
    |(refine ⟨fun _=>?_,?_⟩;(· ((try simp only [nc] at *);first|done|omega|exact ⟨by omega,rfl⟩|(simp (disch:=(first|omega|(simp only [lnS];omega))) only [rdT,rdS];first|done|omega|rfl|exact ⟨by omega,rfl⟩|(simp;done)|(simp;omega))|(intros;trivial)|exact ⟨by first|trivial|rfl,by first|trivial|rfl|simp,by first|trivial|simp,by simp;omega,by simp;omega,by simp [AV.flat,AV.cells,AV.one]⟩));(try (simp only [nc] at *));(try simp (disch:=(first|omega|(simp only [lnS];omega))) only [rdT,rdS]);(try cbv))
    | fail
   )
   ·rw [if_pos (by assumption)] at f1
    rw [f1]
    simp [hG, ids, setAll, AV.nrm, nrms, nrm1]
   ·rw [if_neg (by assumption)] at f1
    rw [f1]
    exact ⟨⟨⟨rfl, rfl⟩, by push_cast; rfl⟩, rfl, rfl⟩
   ·exfalso; ((try simp only [nc] at *); omega)
  ·have e : i = (g.th.getD t []).length := by omega
   subst e
   repeat' (first
    |(refine hI1 (t + 1) ?_ ?_ ?_;rotate_left 1;(· ((try simp only [nc] at *);omega));(cbv;clear hI1;(try clear hF);(try simp only [nc] at *);(try simp (disch:=(first|omega|(simp only [lnS];omega))) only [rdT,rdS,anT]));rotate_left 1;(try ((try simp only [nc] at *);omega)))
    |(refine ⟨fun _ h_s=>?_,fun _ h_s=>?_⟩<;>(cbv;(try simp only [nc] at *);try simp (disch:=(first|omega|(simp only [lnS];omega))) only [rdT,rdS,reduceCtorEq,trT] at h_s))
    |(refine hF ?_;intro _;clear hF)
    |(refine hF ?_;cbv;clear hF)
    |(refine ⟨fun _=>?_,?_⟩;(· ((try simp only [nc] at *);first|done|omega|exact ⟨by omega,rfl⟩|(simp (disch:=(first|omega|(simp only [lnS];omega))) only [rdT,rdS];first|done|omega|rfl|exact ⟨by omega,rfl⟩|(simp;done)|(simp;omega))|(intros;trivial)|exact ⟨by first|trivial|rfl,by first|trivial|rfl|simp,by first|trivial|simp,by simp;omega,by simp;omega,by simp [AV.flat,AV.cells,AV.one]⟩));(try (simp only [nc] at *));(try simp (disch:=(first|omega|(simp only [lnS];omega))) only [rdT,rdS]);(try cbv))
    | fail
   )
   all_goals (try (exfalso; first | ((try simp only [nc] at *); omega) | exact Nat.lt_irrefl _ (by assumption)))
   rw [he]
   exact ⟨⟨⟨rfl, rfl⟩, by push_cast; rfl⟩, rfl, rfl⟩
 ·have et : t = g.th.length := by ((try simp only [nc] at *); omega)
  subst et
  intro _
  refine ⟨rfl, by simp, ?_⟩
  rw [List.drop_zero, List.take_of_length_le (by simp)]
theorem w17Plain_ok (g : Gr) (hR : Rd g) : Pure Tryz.prog γ false 18 [aGr g] (.vs 2 fun _ => ids (plTo17 (rvO g) (rvO g).ids.length)) := by
 skip
 by_cases hg : GOk g
 ·have := w17Plain_yes (γ := γ) g hg
  unfold rvO
  simp only [if_pos hg]
  exact this
 ·have hc : gcheckM g ≠ 0 := by unfold gcheckM; split <;> simp [hg]
  have kc := check14_ok (γ := γ) g hR
  unfold rvO
  simp only [if_neg hg]
  show Pure _ _ _ _ _ (.vs 2 fun _ => ids [])
  generalize gcheckM g = c0 at *
  refine Pure.go (ty := ty) ty_eq mo Tryz.func18 rfl Tryz.ntmps18 Tryz.results18 Tryz.call18 (by simp) fun P C CQ D W F E hF => ?_
  cbv
  repeat' (first
   |(refine E.c (SCalls.of_le (kc) ?_ ?_);(· (cbv;(try simp only [nc] at *);first|done|(simp;done)|(simp (disch:=(first|omega|(simp only [lnS];omega))) only [rdT,rdS,anT];first|done|omega|(refine ⟨?_,?_⟩<;>omega))|(simp (disch:=(first|omega|(simp only [lnS];omega))) [rdT,rdS];done)));cbv)
   |(refine ⟨fun _ h_s=>?_,fun _ h_s=>?_⟩<;>(cbv;(try simp only [nc] at *);try simp (disch:=(first|omega|(simp only [lnS];omega))) only [rdT,rdS,reduceCtorEq,trT] at h_s))
   |(refine hF ?_;intro _;clear hF)
   |(refine hF ?_;cbv;clear hF)
   |(refine ⟨fun _=>?_,?_⟩;(· ((try simp only [nc] at *);first|done|omega|exact ⟨by omega,rfl⟩|(simp (disch:=(first|omega|(simp only [lnS];omega))) only [rdT,rdS];first|done|omega|rfl|exact ⟨by omega,rfl⟩|(simp;done)|(simp;omega))|(intros;trivial)));(try (simp only [nc] at *));(try simp (disch:=(first|omega|(simp only [lnS];omega))) only [rdT,rdS]);(try cbv))
   | fail
  )
  all_goals first | (exfalso; exact hc h_s) | (simp [ids, LV.of, LV.l]; done) | (exfalso; ((try simp only [nc] at *); omega))
theorem plTo17_small {v : RV} (hv : RWf v) : ((plTo17 v v.ids.length).length : Int) ≤ 9223372036854775807 := by
 have h1 := plTo17_len v v.ids.length
 have := hv.big; have := hv.small; have := hv.sh; omega
theorem raceCalls_ok (g : Gr) (hR : Rd g) (a b : EId) : Pure Tryz.prog γ false 3 [aGr g, aId a, aId b] (.b fun _ => true) := by
 skip
 have kl := lives17_ok (γ := γ)
 have ki := light_ok (γ := γ) g hR 60 (by omega) (by omega)
 by_cases hli : lightM 60 g = true
 ·rw [hli] at ki
  have hw := rvO_wf g
  have hl := racesV_len hw
  have a1 := rall_any (γ := γ) g hR
  have a2 := w17All_any (γ := γ) g hR
  have b1 := rhas_race_ok (γ := γ) g hR
  have b2 := w17Has_ok (γ := γ) g hR
  have c1 := rbetween_ok (γ := γ) g hR a b
  have c2 := w17Bet_ok (γ := γ) g hR a b
  rw [bet_any] at c2
  have d1 := rlocs_ok (γ := γ) g hR
  have d2 := w17Locs_ok (γ := γ) g hR
  rw [locs_any] at d2
  have e1 := rplain_ok (γ := γ) g hR
  have e2 := w17Plain_ok (γ := γ) g hR
  have k1 := kraces_ok (γ := γ) (racesV (rvO g)) (racesV (rvO g)) (by omega)
  have k2 := ints_ok (γ := γ) (locsV (rvO g)) (locsV (rvO g)) (by have := locsV_len _ hw; omega)
  have k3 := kids_ok (γ := γ) (plTo17 (rvO g) (rvO g).ids.length) (plTo17 (rvO g) (rvO g).ids.length) (plTo17_small hw)
  rw [decide_eq_true rfl] at k1 k2 k3
  generalize racesV (rvO g) = L1 at *
  generalize locsV (rvO g) = L2 at *
  generalize plTo17 (rvO g) (rvO g).ids.length = L3 at *
  generalize btM (rvO g) a b = bb at *
  generalize (decide (L1 ≠ [])) = bh at *
  generalize (if GOk g then (0 : Int) else 2) = ee at *
  refine Pure.go (ty := ty) ty_eq mo Tryz.func3 rfl Tryz.ntmps3 Tryz.results3 Tryz.call3 (by simp) fun P C CQ D W F E hF => ?_
  cbv
  repeat' (first
   |((first|refine E.c (SCalls.of_le (k3) ?_ ?_)|refine E.q (QCalls.of_le (k3) ?_ ?_));(· (cbv;(try simp only [nc] at *);first|done|(simp;done)|(simp (disch:=(first|omega|(simp only [lnS];omega))) only [rdT,rdS,anT];first|done|omega|(refine ⟨?_,?_⟩<;>omega))|(simp (disch:=(first|omega|(simp only [lnS];omega))) [rdT,rdS];done)));cbv)
   |((first|refine E.c (SCalls.of_le (e2) ?_ ?_)|refine E.q (QCalls.of_le (e2) ?_ ?_));(· (cbv;(try simp only [nc] at *);first|done|(simp;done)|(simp (disch:=(first|omega|(simp only [lnS];omega))) only [rdT,rdS,anT];first|done|omega|(refine ⟨?_,?_⟩<;>omega))|(simp (disch:=(first|omega|(simp only [lnS];omega))) [rdT,rdS];done)));cbv)
   |((first|refine E.c (SCalls.of_le (e1) ?_ ?_)|refine E.q (QCalls.of_le (e1) ?_ ?_));(· (cbv;(try simp only [nc] at *);first|done|(simp;done)|(simp (disch:=(first|omega|(simp only [lnS];omega))) only [rdT,rdS,anT];first|done|omega|(refine ⟨?_,?_⟩<;>omega))|(simp (disch:=(first|omega|(simp only [lnS];omega))) [rdT,rdS];done)));cbv)
   |((first|refine E.c (SCalls.of_le (k2) ?_ ?_)|refine E.q (QCalls.of_le (k2) ?_ ?_));(· (cbv;(try simp only [nc] at *);first|done|(simp;done)|(simp (disch:=(first|omega|(simp only [lnS];omega))) only [rdT,rdS,anT];first|done|omega|(refine ⟨?_,?_⟩<;>omega))|(simp (disch:=(first|omega|(simp only [lnS];omega))) [rdT,rdS];done)));cbv)
   |((first|refine E.c (SCalls.of_le (d2) ?_ ?_)|refine E.q (QCalls.of_le (d2) ?_ ?_));(· (cbv;(try simp only [nc] at *);first|done|(simp;done)|(simp (disch:=(first|omega|(simp only [lnS];omega))) only [rdT,rdS,anT];first|done|omega|(refine ⟨?_,?_⟩<;>omega))|(simp (disch:=(first|omega|(simp only [lnS];omega))) [rdT,rdS];done)));cbv)
   |((first|refine E.c (SCalls.of_le (d1) ?_ ?_)|refine E.q (QCalls.of_le (d1) ?_ ?_));(· (cbv;(try simp only [nc] at *);first|done|(simp;done)|(simp (disch:=(first|omega|(simp only [lnS];omega))) only [rdT,rdS,anT];first|done|omega|(refine ⟨?_,?_⟩<;>omega))|(simp (disch:=(first|omega|(simp only [lnS];omega))) [rdT,rdS];done)));cbv)
   |((first|refine E.c (SCalls.of_le (c2) ?_ ?_)|refine E.q (QCalls.of_le (c2) ?_ ?_));(· (cbv;(try simp only [nc] at *);first|done|(simp;done)|(simp (disch:=(first|omega|(simp only [lnS];omega))) only [rdT,rdS,anT];first|done|omega|(refine ⟨?_,?_⟩<;>omega))|(simp (disch:=(first|omega|(simp only [lnS];omega))) [rdT,rdS];done)));cbv)
   |((first|refine E.c (SCalls.of_le (c1) ?_ ?_)|refine E.q (QCalls.of_le (c1) ?_ ?_));(· (cbv;(try simp only [nc] at *);first|done|(simp;done)|(simp (disch:=(first|omega|(simp only [lnS];omega))) only [rdT,rdS,anT];first|done|omega|(refine ⟨?_,?_⟩<;>omega))|(simp (disch:=(first|omega|(simp only [lnS];omega))) [rdT,rdS];done)));cbv)
   |((first|refine E.c (SCalls.of_le (b2) ?_ ?_)|refine E.q (QCalls.of_le (b2) ?_ ?_));(· (cbv;(try simp only [nc] at *);first|done|(simp;done)|(simp (disch:=(first|omega|(simp only [lnS];omega))) only [rdT,rdS,anT];first|done|omega|(refine ⟨?_,?_⟩<;>omega))|(simp (disch:=(first|omega|(simp only [lnS];omega))) [rdT,rdS];done)));cbv)
   |((first|refine E.c (SCalls.of_le (b1) ?_ ?_)|refine E.q (QCalls.of_le (b1) ?_ ?_));(· (cbv;(try simp only [nc] at *);first|done|(simp;done)|(simp (disch:=(first|omega|(simp only [lnS];omega))) only [rdT,rdS,anT];first|done|omega|(refine ⟨?_,?_⟩<;>omega))|(simp (disch:=(first|omega|(simp only [lnS];omega))) [rdT,rdS];done)));cbv)
   |((first|refine E.c (SCalls.of_le (k1) ?_ ?_)|refine E.q (QCalls.of_le (k1) ?_ ?_));(· (cbv;(try simp only [nc] at *);first|done|(simp;done)|(simp (disch:=(first|omega|(simp only [lnS];omega))) only [rdT,rdS,anT];first|done|omega|(refine ⟨?_,?_⟩<;>omega))|(simp (disch:=(first|omega|(simp only [lnS];omega))) [rdT,rdS];done)));cbv)
   |(refine E.c (SCalls.of_le (a2) ?_ ?_);(· (cbv;(try simp only [nc] at *);first|done|(simp;done)|(simp (disch:=(first|omega|(simp only [lnS];omega))) only [rdT,rdS,anT];first|done|omega|(refine ⟨?_,?_⟩<;>omega))|(simp (disch:=(first|omega|(simp only [lnS];omega))) [rdT,rdS];done)));cbv)
   |(refine E.c (SCalls.of_le (a1) ?_ ?_);(· (cbv;(try simp only [nc] at *);first|done|(simp;done)|(simp (disch:=(first|omega|(simp only [lnS];omega))) only [rdT,rdS,anT];first|done|omega|(refine ⟨?_,?_⟩<;>omega))|(simp (disch:=(first|omega|(simp only [lnS];omega))) [rdT,rdS];done)));cbv)
   |(refine E.c (SCalls.of_le (ki) ?_ ?_);(· (cbv;(try simp only [nc] at *);first|done|(simp;done)|(simp (disch:=(first|omega|(simp only [lnS];omega))) only [rdT,rdS,anT];first|done|omega|(refine ⟨?_,?_⟩<;>omega))|(simp (disch:=(first|omega|(simp only [lnS];omega))) [rdT,rdS];done)));cbv)
   |(refine E.c (SCalls.of_le (kl) ?_ ?_);(· (cbv;(try simp only [nc] at *);first|done|(simp;done)|(simp (disch:=(first|omega|(simp only [lnS];omega))) only [rdT,rdS,anT];first|done|omega|(refine ⟨?_,?_⟩<;>omega))|(simp (disch:=(first|omega|(simp only [lnS];omega))) [rdT,rdS];done)));cbv)
   |(refine ⟨fun _ h_s=>?_,fun _ h_s=>?_⟩<;>(cbv;(try simp only [nc] at *);try simp (disch:=(first|omega|(simp only [lnS];omega))) only [rdT,rdS,reduceCtorEq,trT] at h_s))
   |(refine hF ?_;intro _;clear hF)
   |(refine hF ?_;cbv;clear hF)
   |(refine ⟨fun _=>?_,?_⟩;(· ((try simp only [nc] at *);first|done|omega|exact ⟨by omega,rfl⟩|(simp (disch:=(first|omega|(simp only [lnS];omega))) only [rdT,rdS];first|done|omega|rfl|exact ⟨by omega,rfl⟩|(simp;done)|(simp;omega))|(intros;trivial)));(try (simp only [nc] at *));(try simp (disch:=(first|omega|(simp only [lnS];omega))) only [rdT,rdS]);(try cbv))
   |(refine E.d 37 (by decide +kernel) ?_;cbv;(fail_if_success guard_target =~ False))
   | fail
  )
  all_goals first
   | rfl
   | exact absurd trivial h_s
   | (exfalso; revert h_s; simp; done)
   | (exfalso; clear E hF; simp at h_s; done)
 ·rw [show lightM 60 g = false by simpa using hli] at ki
  refine Pure.go (ty := ty) ty_eq mo Tryz.func3 rfl Tryz.ntmps3 Tryz.results3 Tryz.call3 (by simp) fun P C CQ D W F E hF => ?_
  cbv
  repeat' (first
   |(refine E.c (SCalls.of_le (ki) ?_ ?_);(· (cbv;(try simp only [nc] at *);first|done|(simp;done)|(simp (disch:=(first|omega|(simp only [lnS];omega))) only [rdT,rdS,anT];first|done|omega|(refine ⟨?_,?_⟩<;>omega))|(simp (disch:=(first|omega|(simp only [lnS];omega))) [rdT,rdS];done)));cbv)
   |(refine E.c (SCalls.of_le (kl) ?_ ?_);(· (cbv;(try simp only [nc] at *);first|done|(simp;done)|(simp (disch:=(first|omega|(simp only [lnS];omega))) only [rdT,rdS,anT];first|done|omega|(refine ⟨?_,?_⟩<;>omega))|(simp (disch:=(first|omega|(simp only [lnS];omega))) [rdT,rdS];done)));cbv)
   |(refine ⟨fun _ h_s=>?_,fun _ h_s=>?_⟩<;>(cbv;(try simp only [nc] at *);try simp (disch:=(first|omega|(simp only [lnS];omega))) only [rdT,rdS,reduceCtorEq,trT] at h_s))
   |(refine hF ?_;intro _;clear hF)
   |(refine hF ?_;cbv;clear hF)
   |(refine ⟨fun _=>?_,?_⟩;(· ((try simp only [nc] at *);first|done|omega|exact ⟨by omega,rfl⟩|(simp (disch:=(first|omega|(simp only [lnS];omega))) only [rdT,rdS];first|done|omega|rfl|exact ⟨by omega,rfl⟩|(simp;done)|(simp;omega))|(intros;trivial)));(try (simp only [nc] at *));(try simp (disch:=(first|omega|(simp only [lnS];omega))) only [rdT,rdS]);(try cbv))
   |(refine E.d 37 (by decide +kernel) ?_;cbv;(fail_if_success guard_target =~ False))
   | fail
  )
  all_goals first
   | rfl
   | (exfalso; ((try simp only [nc] at *); omega))
   | exact absurd trivial h_s
end Go.AL.Rl

namespace Go.AL
open Go Go.RowKit Go.ChangeShapes Go.WideShapes

section
variable {H : Type} {enc : TypeId × Value → H} {P : Program} {w : World} {spare : Nat → Bool} {held : Bool}

abbrev Old (w : World) : Nat → Prop := fun k => k < w.heap.size

/-- Whatever reads by the type 't' is told by an 'a'. -/
def Dec (P : Program) (t : TypeId) (α : Type) (en : α → List AV) (ok : α → Prop) : Prop :=
 ∀ {H : Type} (enc : TypeId × Value → H) (w : World) (spare : Nat → Bool) (held : Bool) (fuel : Nat) (cs : List Value) (x : DataW H × List MemPlace),
  DataW.trod enc P w 0 spare held fuel t cs = some x → ∃ a, ok a ∧ Rs (Old w) w none (en a) cs

theorem Dec.int {t : TypeId} (ht : P.underlying t = some (.int .i64)) : Dec P t Int (fun n => [.i fun _ => n]) fun n => -9223372036854775808 ≤ n ∧ n ≤ 9223372036854775807 := by
 intro H enc w spare held fuel cs x h
 obtain ⟨n, rfl, _, h2⟩ := DataW.trod_int ht h
 exact ⟨n, bounds_i64 h2, _, _, rfl, rfl, rfl⟩
theorem Dec.u64 {t : TypeId} (ht : P.underlying t = some (.int .u64)) : Dec P t (BitVec 64) (fun n => [.u fun _ => n]) fun _ => True := by
 intro H enc w spare held fuel cs x h
 obtain ⟨n, rfl, _, h2⟩ := DataW.trod_int ht h
 have := bounds_u64 h2
 refine ⟨BitVec.ofInt 64 n, trivial, _, _, rfl, ?_, rfl⟩
 simp only [R]
 congr 1
 simp only [BitVec.toNat_ofInt]
 omega
theorem Dec.bool {t : TypeId} (ht : P.underlying t = some .bool) : Dec P t Bool (fun b => [.b fun _ => b]) fun _ => True := by
 intro H enc w spare held fuel cs x h
 obtain ⟨b, rfl, _⟩ := DataW.trod_bool ht h
 exact ⟨b, trivial, _, _, rfl, rfl, rfl⟩

theorem cells?_get {w : World} {a : Addr} {n : Nat} {cs : List Value} (h : w.cells? 0 a n = some cs) : cs.length = n ∧ ∀ (i : Nat) (c : Value), cs[i]? = some c → w.cell? (a.add i) = some c := by
 simp only [World.cells?, Nat.zero_le, if_true] at h
 have hl : cs.length = n := by have := mapM_some_length h; simpa using this
 refine ⟨hl, fun i c hc => ?_⟩
 have hi : i < n := by have := (List.getElem?_eq_some_iff.1 hc).1; omega
 rw [mapM_some_get h i i (by simp [hi])]; exact hc

theorem list_of_all {α β : Type} {R' : α → β → Prop} : ∀ (l : List β), (∀ b ∈ l, ∃ a, R' a b) → ∃ r : List α, r.length = l.length ∧ ∀ (i : Nat) (a : α) (b : β), r[i]? = some a → l[i]? = some b → R' a b
 | [], _ => ⟨[], rfl, fun i a b h => by simp at h⟩
 | b :: l, h => by
  obtain ⟨a, ha⟩ := h b (by simp)
  obtain ⟨r, h1, h2⟩ := list_of_all l fun b hb => h b (by simp [hb])
  refine ⟨a :: r, by simp [h1], fun i a' b' ha' hb' => ?_⟩
  cases i with
  | zero => simp at ha' hb'; subst ha'; subst hb'; exact ha
  | succ i => exact h2 i a' b' (by simpa using ha') (by simpa using hb')

/-- the elements' values: 'mk' is '.agg' or the one cell -/
structure Elem (mk : List AV → AV) (k : Nat) : Prop where
 val : ∀ {S : Nat → Prop} {w : World} {l : List AV} {cs : List Value}, cs.length = k → l.all AV.one = true → Rs S w none l cs → ∃ v, v.cells.toList = cs ∧ R S w none (mk l) v
theorem Elem.agg (k : Nat) : Elem .agg k := ⟨fun {S w l cs} _ _ h => ⟨.agg cs.toArray, by simp [Value.cells], cs, rfl, h⟩⟩
theorem Elem.one : Elem (fun l => l.headD .any) 1 := ⟨fun {S w l cs} hl h1 h => by
 match cs, hl with
 | [c], _ =>
  match l, h with
  | x :: _, ⟨v, _, e, hx, hr⟩ =>
   cases e
   simp only [List.all_cons, Bool.and_eq_true] at h1
   exact ⟨c, by rw [cells_of_one (R_one hx h1.1)], hx⟩⟩

theorem Dec.slice {t e : TypeId} (ht : P.underlying t = some (.slice e)) {k : Nat} (hk : P.cellsOf e = k) (hk0 : 0 < k) {α : Type} {en : α → List AV} {ok : α → Prop} {mk : List AV → AV} (he : Dec P e α en ok) (hone : ∀ a, (en a).all AV.one = true) (hm : Elem mk k) :
  Dec P t (List α) (fun l => [.vs k fun _ => LV.of (l.map fun a => mk (en a))]) fun l => l.length ≤ maxLen ∧ ∀ a ∈ l, ok a := by
 subst hk
 intro H enc w spare held fuel cs x h
 rcases DataW.trod_slice ht h with ⟨rfl, _⟩ | ⟨a, len, cap, elems, rest, n, rfl, rfl, rfl, _, h2, h3, h4, h5, _⟩
 ·exact ⟨[], ⟨by simp, by simp⟩, _, _, rfl, ⟨none, 0, [], rfl, Nat.le_refl _, rfl, .inl rfl⟩, rfl⟩
 ·have key : ∀ i : Nat, i < len → ∃ (c : List Value) (a' : α), w.cells? 0 (a.add (i * P.cellsOf e)) (P.cellsOf e) = some c ∧ ok a' ∧ Rs (Old w) w none (en a') c := by
   intro i hi
   have := h5 i hi
   rw [List.getElem?_eq_getElem (by omega)] at this
   simp only [Option.bind_eq_some_iff] at this
   obtain ⟨c, hc, hd⟩ := this
   obtain ⟨a', ha, hr⟩ := he _ _ _ _ _ _ _ hd
   exact ⟨c, a', hc, ha, hr⟩
  have hlist := list_of_all (R' := fun (q : α × Value) (i : Nat) => ok q.1 ∧ q.2.cells.size = P.cellsOf e ∧ (∀ (j : Nat) (c : Value), q.2.cells[j]? = some c → w.cell? ((a.add (i * P.cellsOf e)).add j) = some c) ∧ R (Old w) w none (mk (en q.1)) q.2) (List.range len) fun i hi => by
   obtain ⟨c, a', hc, ha, hr⟩ := key i (by simpa using hi)
   obtain ⟨hl, hg⟩ := cells?_get hc
   obtain ⟨v, hv, hr'⟩ := hm.val hl (hone a') hr
   refine ⟨(a', v), ha, by rw [← Array.length_toList, hv]; exact hl, fun j c' hj => hg j c' ?_, hr'⟩
   rw [← hv]; simpa using hj
  obtain ⟨qs, hq1, hq2⟩ := hlist
  rw [List.length_range] at hq1
  have hq : ∀ (i : Nat) (q : α × Value), qs[i]? = some q → ok q.1 ∧ q.2.cells.size = P.cellsOf e ∧ (∀ (j : Nat) (c : Value), q.2.cells[j]? = some c → w.cell? ((a.add (i * P.cellsOf e)).add j) = some c) ∧ R (Old w) w none (mk (en q.1)) q.2 := fun i q hi =>
   hq2 i q i hi (by
    have := (List.getElem?_eq_some_iff.1 hi).1
    rw [List.getElem?_range (by omega)])
  refine ⟨qs.map (·.1), ⟨by simp; omega, fun a' ha' => ?_⟩, _, _, rfl, ⟨some a, cap, qs.map (·.2), by simp [hq1], by simp; omega, ?_, ?_⟩, rfl⟩
  ·obtain ⟨q, hqm, rfl⟩ := List.mem_map.1 ha'
   obtain ⟨i, hi, rfl⟩ := List.mem_iff_getElem.1 hqm
   exact (hq i _ (List.getElem?_eq_getElem hi)).1
  ·rw [RL_iff, LV.l_of, Rs_iff]
   refine ⟨by simp, fun i c v hc hv => ?_⟩
   simp only [List.map_map, List.getElem?_map, Option.map_eq_some_iff] at hc hv
   obtain ⟨q, hq', rfl⟩ := hc
   obtain ⟨q', hq'', rfl⟩ := hv
   rw [hq'] at hq''; cases hq''
   exact (hq i q hq').2.2.2
  ·cases hqs : qs with
   | nil => exact .inl rfl
   | cons q0 qr =>
    right
    have hlen : 0 < len := by rw [← hq1, hqs]; simp
    obtain ⟨_, hsz, hcell, _⟩ := hq 0 q0 (by rw [hqs]; rfl)
    have hc0 : ∃ c, q0.2.cells[0]? = some c := ⟨_, Array.getElem?_eq_getElem (by omega)⟩
    obtain ⟨c, hc⟩ := hc0
    have hw := hcell 0 c hc
    have ha0 : a.spot = none ∧ a.block < w.heap.size := by
     simp only [Nat.zero_mul, Addr.add, if_true] at hw
     unfold World.cell? at hw
     split at hw
     ·rename_i hb
      split at hw
      ·cases hw
      ·rename_i hs
       exact ⟨by simpa using hs, (Array.getElem?_eq_some_iff.1 hb).1⟩
     ·cases hw
    refine ⟨a, rfl, ha0.1, ha0.2, fun i ev hi => ?_⟩
    rw [← hqs] at hi
    simp only [List.getElem?_map, Option.map_eq_some_iff] at hi
    obtain ⟨q, hq', rfl⟩ := hi
    obtain ⟨_, h1, h2, _⟩ := hq i q hq'
    refine ⟨h1, fun j c hj => ?_⟩
    have := h2 j c hj
    have ea : (a.add (i * P.cellsOf e)).add j = ⟨a.block, a.off + (i * P.cellsOf e + j), none⟩ := by
     obtain ⟨b, o, s⟩ := a
     simp only at ha0
     obtain ⟨rfl, _⟩ := ha0
     simp only [Addr.add]
     by_cases h0 : i * P.cellsOf e = 0 <;> by_cases h1 : j = 0 <;> simp [h0, h1] <;> omega
    rw [← ea]; exact this

/-- fields, one behind the other -/
theorem Dec.fields {t : TypeId} {fs : List Field} {a : Array Field} (ht : P.underlying t = some (.struct a)) (hfs : a.toList = fs) {α : Type} {en : α → List AV} {ok : α → Prop}
  (h : ∀ {H : Type} (enc : TypeId × Value → H) (w : World) (spare : Nat → Bool) (held : Bool) (n : Nat) (cs : List Value), cs.length = P.cellsOf t →
   (∀ f ∈ fs, ∃ x, DataW.trod enc P w 0 spare held n f.type ((cs.drop f.offset).take (P.cellsOf f.type)) = some x) → ∃ a, ok a ∧ Rs (Old w) w none (en a) cs) : Dec P t α en ok := by
 intro H enc w spare held fuel cs x hx
 obtain ⟨xs, n, rfl, rfl, h1, h2, h3⟩ := DataW.trod_struct ht hx
 refine h enc w spare held n cs h1 fun f hf => ?_
 rw [← hfs] at hf
 obtain ⟨i, hi, rfl⟩ := List.mem_iff_getElem.1 hf
 have hi' : i < a.size := by simpa using hi
 have := h3 i a[i] (Array.getElem?_eq_getElem hi')
 rw [List.getElem?_eq_getElem (by omega)] at this
 exact ⟨_, by simpa using this⟩
theorem cut3 (cs : List Value) (o s n : Nat) (h : cs.length = n) (ho : o + s = n) : cs = cs.take o ++ (cs.drop o).take s := by
 have : (cs.drop o).take s = cs.drop o := List.take_of_length_le (by simp; omega)
 rw [this, List.take_append_drop]

theorem Dec.struct2 {t : TypeId} {a : Array Field} (ht : P.underlying t = some (.struct a)) {t0 t1 : TypeId} {s0 s1 : Nat} (hfs : a.toList.map (fun f => (f.type, f.offset)) = [(t0, 0), (t1, s0)]) (h0 : P.cellsOf t0 = s0) (h1 : P.cellsOf t1 = s1) (hs : P.cellsOf t = s0 + s1)
  {α β : Type} {e0 : α → List AV} {e1 : β → List AV} {k0 : α → Prop} {k1 : β → Prop} (d0 : Dec P t0 α e0 k0) (d1 : Dec P t1 β e1 k1) : Dec P t (α × β) (fun p => e0 p.1 ++ e1 p.2) fun p => k0 p.1 ∧ k1 p.2 := by
 refine Dec.fields ht rfl fun {H} enc w spare held n cs hl hf => ?_
 have get : ∀ t o, (t, o) ∈ a.toList.map (fun f => (f.type, f.offset)) → ∃ x, DataW.trod enc P w 0 spare held n t ((cs.drop o).take (P.cellsOf t)) = some x := fun t o hm => by
  obtain ⟨f, hf1, hf2⟩ := List.mem_map.1 hm
  cases hf2
  exact hf f hf1
 rw [hfs] at get
 obtain ⟨x0, g0⟩ := get t0 0 (by simp)
 obtain ⟨x1, g1⟩ := get t1 s0 (by simp)
 obtain ⟨a0, o0, r0⟩ := d0 _ _ _ _ _ _ _ g0
 obtain ⟨a1, o1, r1⟩ := d1 _ _ _ _ _ _ _ g1
 refine ⟨(a0, a1), ⟨o0, o1⟩, ?_⟩
 rw [cut3 cs s0 s1 _ (hl.trans hs) rfl]
 rw [h0] at r0; rw [h1] at r1
 exact Rs_append (by simpa using r0) r1

theorem trodAll_len {W : World} {b : Nat} : ∀ {ts : List TypeId} {vs : List Value} {ds : List (DataW H)} {p : List MemPlace}, DataW.TrodAll enc P W b spare held ts vs ds p → ds.length = ts.length
 | [], [], [], _, _ => rfl
 | _ :: _, _ :: _, _ :: _, _, ⟨_, _, _, h, _⟩ => by simp [trodAll_len h]
 | [], [], _ :: _, _, h => h.elim
 | [], _ :: _, _, _, h => h.elim
 | _ :: _, [], _, _, h => h.elim
 | _ :: _, _ :: _, [], _, h => h.elim
theorem trodAll_carry {W W' : World} (hq : ∀ k, k < W.heap.size → W'.heap[k]? = W.heap[k]?) : ∀ {ts : List TypeId} {vs : List Value} {ds : List (DataW H)} {p : List MemPlace},
  DataW.TrodAll enc P W 0 spare held ts vs ds p → (∀ p' ∈ p, p'.block < W.heap.size) → DataW.TrodAll enc P W' 0 spare held ts vs ds p
 | [], [], [], _, h, _ => h
 | _ :: _, _ :: _, _ :: _, _, ⟨p0, q0, ⟨n, h1⟩, h2, e⟩, lt => by
  subst e
  refine ⟨p0, q0, ⟨n, DataW.trod_carry _ _ _ _ h1 fun pl hpl => ?_⟩, trodAll_carry hq h2 fun p' hp => lt p' (List.mem_append_right _ hp), rfl⟩
  have hlt := lt pl (List.mem_append_left _ hpl)
  cases pl with
  | cell b off => exact World.cell?_of_block (hq b hlt)
  | map b => exact hq b hlt
 | [], [], _ :: _, _, h, _ => h.elim
 | [], _ :: _, _, _, h, _ => h.elim
 | _ :: _, [], _, _, h, _ => h.elim
 | _ :: _, _ :: _, [], _, h, _ => h.elim
theorem post_true {H : Type} {enc : TypeId × Value → H} {f : Func} {s : ChangeSpec} {W W' : World} {args : Array Value} {ds gs : List (DataW H)} {before : List MemPlace} {tb : TypeId}
  (hW : DataW.Whole enc P f.params.toList s.vars false W args.toList ds gs before) (hv : s.vars = []) (hres : f.resultTypes = #[tb]) (htb : P.underlying tb = some .bool)
  (hs : ∀ ds' : List (DataW H), ds'.length = f.params.size → s.fn H ds' = { results := [.lit (.bool true)], args := ds' })
  (hl : laidOutB P = true) (hm : mapsRowed P = true) (hz : ((List.range P.types.size).all fun t => match P.underlying t with | some (.slice e) => decide (0 < P.cellsOf e) | _ => true) = true) (hT : ∀ t ∈ f.params.toList, t < P.types.size)
  (hq : ∀ k, k < W.heap.size → W'.heap[k]? = W.heap[k]?) (fr : Fr W W') : s.post enc P f false true false false W args (.bool true) W' := by
 have hW' := hW
 obtain ⟨p, q, hA, hV, rfl, hfz, hnd⟩ := hW
 rw [hv] at hV
 obtain ⟨rfl, rfl⟩ := trodVars_none hV
 have hlen : ds.length = f.params.size := by have := trodAll_len hA; simpa using this
 have hsd := hs (ds ++ []) (by simpa using hlen)
 have hall : ∀ (b : Nat) (sp : Nat → Bool) (hd : Bool), DataW.TrodAll enc P W' b sp hd [tb] [.bool true] [.lit (.bool true)] [] := fun b sp hd => ⟨[], [], ⟨1, by simp [DataW.trod, htb, Value.cells]⟩, rfl, rfl⟩
 have carry : DataW.TrodAll enc P W' 0 (fun _ => true) true f.params.toList args.toList ds p := trodAll_carry hq hA fun p' hp => hW'.lt p' (by simpa using hp)
 have hargs : ∀ sp : Nat → Bool, (∀ x ∈ p, sp x.block = true) → DataW.TrodAll enc P W' 0 sp true f.params.toList args.toList (s.fn H (ds ++ [])).args p := fun sp hsp => by
  rw [hsd]
  simp only [List.append_nil]
  exact carry.respare (kids_rows hl hm) (fun t e ht hu => slices_full_of P hz t e ht hu) hT hsp
 have hvars : ∀ sp : Nat → Bool, DataW.TrodVars enc P W' sp s.vars (s.fn H (ds ++ [])).vars [] := fun sp => by rw [hsd, hv]; rfl
 have hlt : ∀ x ∈ p, x.block < W.heap.size := fun x hx => hW'.lt x (by simpa using hx)
 have hkept : W.keptBut W' (· ∈ p) := by
  refine ⟨fr.os, fr.output, fun i hi => ?_⟩
  rw [hq i hi]
  cases h : W.heap[i]? with
  | none => trivial
  | some o => cases o <;> simp
 have hres' : ∀ (b : Nat) (sp : Nat → Bool) (hd : Bool), DataW.TrodAll enc P W' b sp hd f.resultTypes.toList ((Value.bool true).resultList f.resultTypes.size) (s.fn H (ds ++ [])).results [] := fun b sp hd => by rw [hsd, hres]; exact hall b sp hd
 have h2 := hargs (fun _ => true) fun _ _ => rfl
 have hW3 : DataW.Whole enc P f.params.toList s.vars false W args.toList ds [] p := by simpa using hW'
 refine ⟨ds, [], p, [], p, [], hW3, hres' _ _ _, hargs (fun b => decide (b < W.heap.size)) fun x hx => decide_eq_true (hlt x hx), hvars _, World.keptBut_mono (fun x hx => ⟨hx, .inr (.inl hx)⟩) hkept, fun _ => ?_⟩
 obtain ⟨_, _, _, _, _, z, n⟩ := hW3
 refine ⟨ok_one hres rfl (okWide_bool_mk htb _), _, _, p, ⟨p, [], trodAll_append h2 (hres' _ _ _), hvars (fun _ => true), (List.append_nil p).symm, fun b off hp => (fr.frozen ⟨b, off, none⟩ (hlt _ hp)).trans (z b off hp), fun h => absurd h (by simp)⟩, fun x hx _ => by simpa using hx⟩

def Arg (P : Program) (t : TypeId) (α : Type) (en : α → AV) (ok : α → Prop) : Prop :=
 ∀ {H : Type} (enc : TypeId × Value → H) (W : World) (base : Nat) (v : Value) (d : DataW H) (p : List MemPlace), Value.okWide P W .any base t v → DataW.Trod enc P W 0 (fun _ => true) true t v d p → ∃ a, ok a ∧ R (Old W) W none (en a) v
theorem Arg.agg {t : TypeId} {a : Array Field} (ht : P.underlying t = some (.struct a)) {α : Type} {en : α → List AV} {ok : α → Prop} (h : Dec P t α en ok) : Arg P t α (fun a => .agg (en a)) ok := by
 intro H enc W base v d p hok ⟨n, hn⟩
 simp only [Value.okWide, ht] at hok
 obtain ⟨cs, rfl, _⟩ := hok
 obtain ⟨x, h1, h2⟩ := h _ _ _ _ _ _ _ hn
 exact ⟨x, h1, cs.toList, by simp, by simpa [Value.cells] using h2⟩
theorem Arg.one {t : TypeId} {k : TypeDesc} (ht : P.underlying t = some k) (hk : match k with | .int _ | .bool | .slice _ => True | _ => False) {α : Type} {en : α → AV} {ok : α → Prop} (h : Dec P t α (fun a => [en a]) ok) : Arg P t α en ok := by
 intro H enc W base v d p hok ⟨n, hn⟩
 obtain ⟨x, h1, y, ys, h2, h3, h4⟩ := h _ _ _ _ _ _ _ hn
 have h4 : ys = [] := h4
 subst h4
 have hv : v = y := by
  cases v
  case agg cs => cases k <;> first | exact hk.elim | simp [Value.okWide, ht, Cell.okWide, Cell.ok] at hok
  all_goals (simp [Value.cells] at h2; exact h2)
 subst hv
 exact ⟨x, h1, h3⟩

/-- A LAW, from its contract. -/
theorem law_true {γ : Nat → Option AV} {f : FuncId} {fn : Func} {s : ChangeSpec} {W : World} {args : Array Value} {ds gs : List (DataW H)} {before : List MemPlace} {tb : TypeId} {avs : List AV} (hp : Pure P γ false f avs (.b fun _ => true)) (hr : Rs (Old W) W none avs args.toList)
  (hγ : ∀ g x, γ g = some x → R (Old W) W none (.vp (fun _ => x) 0) (.pointer (some ⟨g, 0, none⟩)))
  (hW : DataW.Whole enc P fn.params.toList s.vars false W args.toList ds gs before) (hv : s.vars = []) (hres : fn.resultTypes = #[tb]) (htb : P.underlying tb = some .bool)
  (hs : ∀ ds' : List (DataW H), ds'.length = fn.params.size → s.fn H ds' = { results := [.lit (.bool true)], args := ds' })
  (hl : laidOutB P = true) (hm : mapsRowed P = true) (hz : ((List.range P.types.size).all fun t => match P.underlying t with | some (.slice e) => decide (0 < P.cellsOf e) | _ => true) = true) (hT : ∀ t ∈ fn.params.toList, t < P.types.size) :
  Calls P f args W fun e W' => ∃ v, e = .returned v ∧ s.post enc P fn false true false false W args v W' := by
 have := hp.2 (Old W) W args.toList (fun k hk => hk) hγ hr
 refine (this.mono fun e w' ⟨v', S', h1, h2, h3⟩ => ?_)
 have h2 : v' = .bool true := h2
 subst h2
 exact ⟨_, h1, post_true hW hv hres htb hs hl hm hz hT h3.same h3.fr⟩
end
end Go.AL

namespace Go.AL
open Go Go.RowKit Go.ChangeShapes Go.WideShapes
section
variable {P : Program}
theorem Dec.imap {t : TypeId} {α β : Type} {en : α → List AV} {ok : α → Prop} {en' : β → List AV} {ok' : β → Prop} (d : Dec P t α en ok) (f : α → β) (he : ∀ a, en a = en' (f a)) (hk : ∀ a, ok a → ok' (f a)) : Dec P t β en' ok' := by
 intro H enc w spare held fuel cs x h
 obtain ⟨a, h1, h2⟩ := d _ _ _ _ _ _ _ h
 exact ⟨f a, hk a h1, by rw [← he]; exact h2⟩
theorem Dec.struct4 {t : TypeId} {a : Array Field} (ht : P.underlying t = some (.struct a)) {t0 t1 t2 t3 : TypeId} (hfs : a.toList.map (fun f => (f.type, f.offset)) = [(t0, 0), (t1, 1), (t2, 2), (t3, 3)])
  (h0 : P.cellsOf t0 = 1) (h1 : P.cellsOf t1 = 1) (h2 : P.cellsOf t2 = 1) (h3 : P.cellsOf t3 = 1) (hs : P.cellsOf t = 4)
  {A0 A1 A2 A3 : Type} {e0 : A0 → List AV} {e1 : A1 → List AV} {e2 : A2 → List AV} {e3 : A3 → List AV} {k0 : A0 → Prop} {k1 : A1 → Prop} {k2 : A2 → Prop} {k3 : A3 → Prop}
  (d0 : Dec P t0 A0 e0 k0) (d1 : Dec P t1 A1 e1 k1) (d2 : Dec P t2 A2 e2 k2) (d3 : Dec P t3 A3 e3 k3) :
  Dec P t (A0 × A1 × A2 × A3) (fun p => e0 p.1 ++ (e1 p.2.1 ++ (e2 p.2.2.1 ++ e3 p.2.2.2))) fun p => k0 p.1 ∧ k1 p.2.1 ∧ k2 p.2.2.1 ∧ k3 p.2.2.2 := by
 refine Dec.fields ht rfl fun {H} enc w spare held n cs hl hf => ?_
 have get : ∀ t o, (t, o) ∈ a.toList.map (fun f => (f.type, f.offset)) → ∃ x, DataW.trod enc P w 0 spare held n t ((cs.drop o).take (P.cellsOf t)) = some x := fun t o hm => by
  obtain ⟨f, hf1, hf2⟩ := List.mem_map.1 hm
  cases hf2
  exact hf f hf1
 rw [hfs] at get
 rw [hs] at hl
 match cs, hl with
 | [c0, c1, c2, c3], _ =>
  obtain ⟨x0, g0⟩ := get t0 0 (by simp)
  obtain ⟨x1, g1⟩ := get t1 1 (by simp)
  obtain ⟨x2, g2⟩ := get t2 2 (by simp)
  obtain ⟨x3, g3⟩ := get t3 3 (by simp)
  obtain ⟨a0, o0, r0⟩ := d0 _ _ _ _ _ _ _ g0
  obtain ⟨a1, o1, r1⟩ := d1 _ _ _ _ _ _ _ g1
  obtain ⟨a2, o2, r2⟩ := d2 _ _ _ _ _ _ _ g2
  obtain ⟨a3, o3, r3⟩ := d3 _ _ _ _ _ _ _ g3
  rw [h0] at r0; rw [h1] at r1; rw [h2] at r2; rw [h3] at r3
  exact ⟨(a0, a1, a2, a3), ⟨o0, o1, o2, o3⟩, Rs_append (vals := [c0]) r0 (Rs_append (vals := [c1]) r1 (Rs_append (vals := [c2]) r2 r3))⟩
theorem Dec.struct5 {t : TypeId} {a : Array Field} (ht : P.underlying t = some (.struct a)) {e f : TypeId} (hfs : a.toList.map (fun f => (f.type, f.offset)) = [(e, 0), (e, 1), (e, 2), (f, 3), (f, 4)])
  (h0 : P.cellsOf e = 1) (h1 : P.cellsOf f = 1) (hs : P.cellsOf t = 5) {A0 : Type} {e0 : A0 → List AV} {k0 : A0 → Prop} (d0 : Dec P e A0 e0 k0) (d1 : Dec P f A0 e0 k0) :
  Dec P t (A0 × A0 × A0 × A0 × A0) (fun p => e0 p.1 ++ (e0 p.2.1 ++ (e0 p.2.2.1 ++ (e0 p.2.2.2.1 ++ e0 p.2.2.2.2)))) fun p => k0 p.1 ∧ k0 p.2.1 ∧ k0 p.2.2.1 ∧ k0 p.2.2.2.1 ∧ k0 p.2.2.2.2 := by
 refine Dec.fields ht rfl fun {H} enc w spare held n cs hl hf => ?_
 have get : ∀ t o, (t, o) ∈ a.toList.map (fun f => (f.type, f.offset)) → ∃ x, DataW.trod enc P w 0 spare held n t ((cs.drop o).take (P.cellsOf t)) = some x := fun t o hm => by
  obtain ⟨f, hf1, hf2⟩ := List.mem_map.1 hm
  cases hf2
  exact hf f hf1
 rw [hfs] at get
 rw [hs] at hl
 match cs, hl with
 | [c0, c1, c2, c3, c4], _ =>
  obtain ⟨x0, g0⟩ := get e 0 (by simp)
  obtain ⟨x1, g1⟩ := get e 1 (by simp)
  obtain ⟨x2, g2⟩ := get e 2 (by simp)
  obtain ⟨x3, g3⟩ := get f 3 (by simp)
  obtain ⟨x4, g4⟩ := get f 4 (by simp)
  obtain ⟨a0, o0, r0⟩ := d0 _ _ _ _ _ _ _ g0
  obtain ⟨a1, o1, r1⟩ := d0 _ _ _ _ _ _ _ g1
  obtain ⟨a2, o2, r2⟩ := d0 _ _ _ _ _ _ _ g2
  obtain ⟨a3, o3, r3⟩ := d1 _ _ _ _ _ _ _ g3
  obtain ⟨a4, o4, r4⟩ := d1 _ _ _ _ _ _ _ g4
  rw [h0] at r0 r1 r2; rw [h1] at r3 r4
  exact ⟨(a0, a1, a2, a3, a4), ⟨o0, o1, o2, o3, o4⟩, Rs_append (vals := [c0]) r0 (Rs_append (vals := [c1]) r1 (Rs_append (vals := [c2]) r2 (Rs_append (vals := [c3]) r3 r4)))⟩
end
end Go.AL

namespace Go.AL.Rl
open Go Go.AL Go.Proofs Go.RowKit Go.ChangeShapes Go.WideShapes Go.ChangeAt Go.Proofs.YtjoggeafcdfidaaGreat
set_option maxRecDepth 100000

theorem laidOut : laidOutB Tryz.prog = true := by kernel_rfl
theorem mapsOk : mapsRowed Tryz.prog = true := by kernel_rfl
theorem slicesOk : ((List.range Tryz.prog.types.size).all fun t => match Tryz.prog.underlying t with | some (.slice e) => decide (0 < Tryz.prog.cellsOf e) | _ => true) = true := by kernel_rfl
theorem own : ownKnob Tryz.prog.godebug = none := by kernel_rfl
def γ0 : Nat → Option AV := fun _ => none
theorem gok0 {W : World} : ∀ g x, γ0 g = some x → R (Old W) W none (.vp (fun _ => x) 0) (.pointer (some ⟨g, 0, none⟩)) := fun g x h => by cases h
theorem dInts : Dec Tryz.prog 22 (List Int) (fun l => [.vs 1 fun _ => is l]) fun l => l.length ≤ maxLen :=
 Dec.imap (Dec.slice Tryz.underlying22 (k := 1) (by kernel_rfl) (by omega) (Dec.int Tryz.underlying2) (fun _ => rfl) Elem.one) id (fun _ => rfl) fun _ h => h.1
theorem dEv : Dec Tryz.prog 59 Ev (fun e => [.i fun _ => e.kind, .i fun _ => e.loc, .i fun _ => e.order, .i fun _ => e.rd, .i fun _ => e.wr]) fun _ => True :=
 Dec.imap (Dec.struct5 Tryz.underlying59 (e := 3) (f := 2) (by kernel_rfl) (by kernel_rfl) (by kernel_rfl) (by kernel_rfl) (Dec.int Tryz.underlying3) (Dec.int Tryz.underlying2)) (fun p => ⟨p.1, p.2.1, p.2.2.1, p.2.2.2.1, p.2.2.2.2⟩) (fun _ => rfl) fun _ _ => trivial
theorem dId : Dec Tryz.prog 28 EId (fun e => [.i fun _ => e.t, .i fun _ => e.i]) fun _ => True :=
 Dec.imap (Dec.struct2 Tryz.underlying28 (t0 := 3) (t1 := 3) (s0 := 1) (s1 := 1) (by kernel_rfl) (by kernel_rfl) (by kernel_rfl) (by kernel_rfl) (Dec.int Tryz.underlying3) (Dec.int Tryz.underlying3)) (fun p => ⟨p.1, p.2⟩) (fun _ => rfl) fun _ _ => trivial
theorem dEvs : Dec Tryz.prog 47 (List Ev) (fun l => [.vs 5 fun _ => evs l]) fun l => l.length ≤ maxLen :=
 Dec.imap (Dec.slice Tryz.underlying47 (k := 5) (by kernel_rfl) (by omega) dEv (fun _ => rfl) (Elem.agg 5)) id (fun _ => rfl) fun _ h => h.1
theorem dIds : Dec Tryz.prog 42 (List EId) (fun l => [.vs 2 fun _ => ids l]) fun l => l.length ≤ maxLen :=
 Dec.imap (Dec.slice Tryz.underlying42 (k := 2) (by kernel_rfl) (by omega) dId (fun _ => rfl) (Elem.agg 2)) id (fun _ => rfl) fun _ h => h.1
theorem dEvss : Dec Tryz.prog 23 (List (List Ev)) (fun l => [.vs 1 fun _ => evss l]) fun l => l.length ≤ maxLen ∧ ∀ a ∈ l, a.length ≤ maxLen :=
 Dec.imap (Dec.slice Tryz.underlying23 (k := 1) (by kernel_rfl) (by omega) dEvs (fun _ => rfl) Elem.one) id (fun _ => rfl) fun _ h => h
theorem dIdss : Dec Tryz.prog 24 (List (List EId)) (fun l => [.vs 1 fun _ => idss l]) fun l => l.length ≤ maxLen ∧ ∀ a ∈ l, a.length ≤ maxLen :=
 Dec.imap (Dec.slice Tryz.underlying24 (k := 1) (by kernel_rfl) (by omega) dIds (fun _ => rfl) Elem.one) id (fun _ => rfl) fun _ h => h
theorem dGr : Dec Tryz.prog 26 Gr (fun g => [.vs 1 fun _ => is g.init, .vs 1 fun _ => evss g.th, .vs 1 fun _ => idss g.fr, .vs 1 fun _ => idss g.ord]) Rd :=
 Dec.imap (Dec.struct4 Tryz.underlying26 (t0 := 22) (t1 := 23) (t2 := 24) (t3 := 24) (by kernel_rfl) (by kernel_rfl) (by kernel_rfl) (by kernel_rfl) (by kernel_rfl) (by kernel_rfl) dInts dEvss dIdss dIdss)
  (fun p => ⟨p.1, p.2.1, p.2.2.1, p.2.2.2⟩) (fun _ => rfl) fun p h => by
   have e : maxLen = 9223372036854775807 := by decide +kernel
   obtain ⟨h0, ⟨h1, h1'⟩, ⟨h2, h2'⟩, h3, h3'⟩ := h
   rw [e] at *
   exact ⟨by dsimp only; omega, by dsimp only; omega, by dsimp only; omega, by dsimp only; omega, fun l hl => by have := h1' l hl; omega, fun l hl => by have := h2' l hl; omega, fun l hl => by have := h3' l hl; omega⟩
theorem aOne : Arg Tryz.prog 28 EId (fun e => .agg [.i fun _ => e.t, .i fun _ => e.i]) fun _ => True := Arg.agg Tryz.underlying28 dId
theorem aGraph : Arg Tryz.prog 26 Gr aGr Rd := Arg.agg Tryz.underlying26 dGr
end Go.AL.Rl

namespace Go.AL.Rl
open Go Go.AL Go.Proofs
set_option maxRecDepth 100000
open Go.RowKit Go.ChangeShapes Go.WideShapes Go.ChangeAt Go.Proofs.YtjoggeafcdfidaaGreat
namespace RaceCalls
theorem contract (H : Type) (enc : TypeId × Value → H) (W : World) (base : Nat) (args : Array Value) (ds gs : List (DataW H)) (before : List MemPlace)
  (hval : ∀ (j : Nat) t v, Tryz.f3.params[j]? = some t → args[j]? = some v → Value.okWide Tryz.prog W .any base t v)
  (hW : DataW.Whole enc Tryz.prog Tryz.f3.params.toList Rows.raceCallsSpec.vars false W args.toList ds gs before) (hL : laidMet Tryz.prog Rows.raceCallsRow.laid W) :
  Calls Tryz.prog 3 args W fun e W' => ∃ v, e = .returned v ∧ Rows.raceCallsSpec.post enc Tryz.prog Tryz.f3 false true false false W args v W' := by
 have hW' := hW
 obtain ⟨p, q, hA, hV, rfl, hfz, hnd⟩ := hW
 rw [Tryz.params3] at hA hval
 obtain ⟨v0, vs0, d0, ds0, p0, q0, hargs, rfl, rfl, h0, r0⟩ := trodAll_cons hA
 obtain ⟨v1, vs1, d1, ds1, p1, q1, rfl, rfl, rfl, h1, r1⟩ := trodAll_cons r0
 obtain ⟨v2, vs2, d2, ds2, p2, q2, rfl, rfl, rfl, h2, r2⟩ := trodAll_cons r1
 obtain ⟨rfl, rfl, rfl⟩ := trodAll_nil r2
 obtain rfl : args = #[v0, v1, v2] := by cases args; simp_all
 obtain ⟨x0, k0, a0⟩ := aGraph enc W base v0 d0 p0 (hval 0 _ v0 rfl rfl) h0
 obtain ⟨x1, k1, a1⟩ := aOne enc W base v1 d1 p1 (hval 1 _ v1 rfl rfl) h1
 obtain ⟨x2, k2, a2⟩ := aOne enc W base v2 d2 p2 (hval 2 _ v2 rfl rfl) h2
 exact law_true (raceCalls_ok (γ := γ0) x0 k0 x1 x2) ⟨_, _, rfl, a0, _, _, rfl, a1, _, _, rfl, a2, rfl⟩ gok0 hW' rfl (tb := 4) (by kernel_rfl) Tryz.underlying4
  (fun ds' h => by match ds', h with | [a, b, c], _ => rfl) laidOut mapsOk slicesOk (by rw [Tryz.params3]; decide +kernel)
theorem laid_met (os : Os) : laidMet Tryz.prog Rows.raceCallsRow.laid ((World.holding Tryz.prog os ⟨#[], #[], []⟩).forCall (fun _ _ => 0) ⟨#[], #[.agg #[.slice none 0 0, .slice none 0 0, .slice none 0 0, .slice none 0 0], .agg #[.int .i64 0, .int .i64 0], .agg #[.int .i64 0, .int .i64 0]], []⟩).memory :=
 laidMet_of_run' 8 (by kernel_rfl) (by kernel_rfl)
theorem reads (os : Os) {H : Type} (enc : TypeId × Value → H) : ∃ places, DataW.whole enc Tryz.prog ((World.holding Tryz.prog os ⟨#[], #[], []⟩).forCall (fun _ _ => 0) ⟨#[], #[.agg #[.slice none 0 0, .slice none 0 0, .slice none 0 0, .slice none 0 0], .agg #[.int .i64 0, .int .i64 0], .agg #[.int .i64 0, .int .i64 0]], []⟩).memory Tryz.f3.params.toList Rows.raceCallsSpec.vars false (#[.agg #[.slice none 0 0, .slice none 0 0, .slice none 0 0, .slice none 0 0], .agg #[.int .i64 0, .int .i64 0], .agg #[.int .i64 0, .int .i64 0]] : Array Value).toList 8 = some ([.agg [.nil, .nil, .nil, .nil], .agg [.lit (.int .i64 0), .lit (.int .i64 0)], .agg [.lit (.int .i64 0), .lit (.int .i64 0)]], [], places) :=
 ⟨[], by kernel_rfl⟩
theorem lifted (os : Os) (started : os.Started) (H : Type) (enc : TypeId × Value → H) (F : Stop.Interp) :
  ReturnsInHanded {} Tryz.checked os 3 .any ((OpenSpec.ofChange Rows.raceCallsSpec).preRow enc Tryz.prog Tryz.f3 Rows.raceCallsRow.domain false Rows.raceCallsRow.laid) (((OpenSpec.ofChange Rows.raceCallsSpec).at F).post enc Tryz.prog Tryz.f3 false true false false) := by
 obtain ⟨places, hx⟩ := reads os enc
 refine returnsInHanded_of_row (C := Tryz.checked) (s := OpenSpec.ofChange Rows.raceCallsSpec) own started (by kernel_rfl) Tryz.func3
  (witness_row_at (enc := enc) (C := Tryz.checked) false (World.holding Tryz.prog os ⟨#[], #[], []⟩) #[.agg #[.slice none 0 0, .slice none 0 0, .slice none 0 0, .slice none 0 0], .agg #[.int .i64 0, .int .i64 0], .agg #[.int .i64 0, .int .i64 0]] rfl (by kernel_rfl) (by kernel_rfl) (by kernel_rfl)
   (OpenSpec.preRow_of_cond 8 hx (by kernel_rfl) (fun k hk => by cases hk) (by kernel_rfl) (laid_met os))) ?_
 intro W base args ds gs before hval hW _ _ _ hL _ _
 exact contract H enc W base args ds gs before hval hW hL
theorem said : Rows.RaceCallsSaid :=
 OpenClaim.holds_of_cond 3 Tryz.f3 rfl rfl rfl rfl rfl rfl rfl ⟨rfl, rfl, rfl, rfl, rfl⟩ rfl rfl rfl rfl rfl (by kernel_rfl) Tryz.func3 (by kernel_rfl)
  (of_decide_eq_true (by kernel_rfl)) (by unfold Func.isWrapper; first | (rw [if_pos (by decide +kernel)]; kernel_rfl) | (rw [if_neg (by decide +kernel)]; exact ⟨rfl, rfl⟩))
  (fun os started H enc _ F => by rw [OpenClaim.pre_eq_preRow]; exact lifted os started H enc F)
end RaceCalls
end Go.AL.Rl
