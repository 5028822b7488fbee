import Derived.Test.YtjoggeafcdfidaaGreatRc5
set_option linter.unusedVariables false
set_option linter.unusedSimpArgs false
namespace Go.AL.Rl
open Go Go.AL Go.Proofs
set_option maxRecDepth 100000
set_option maxHeartbeats 1600000
variable {γ : Nat → Option AV}

def runL (mx cap : Int) : List Nat → Int → Int
 | [], s => s
 | n :: r, s => if s ≤ cap then runL mx cap r (s + min (mx + 1) n) else s
def sumL (mx : Int) (l : List Nat) (s : Int) (k : Nat) : Int := (l.take k).foldl (fun (a : Int) (n : Nat) => a + min (mx + 1) (n : Int)) s
theorem sumL_zero (mx : Int) (l : List Nat) (s : Int) : sumL mx l s 0 = s := rfl
theorem sumL_succ (mx : Int) (l : List Nat) (s : Int) (k : Nat) (h : k < l.length) : sumL mx l s (k + 1) = sumL mx l s k + min (mx + 1) (l.getD k 0) := by
 simp only [sumL]
 rw [List.take_succ_eq_append_getElem h, List.foldl_append]
 simp [h]
theorem runL_step {mx cap : Int} {l : List Nat} {s : Int} {k : Nat} (h : k < l.length) (hs : sumL mx l s k ≤ cap) (hr : runL mx cap (l.drop k) (sumL mx l s k) = runL mx cap l s) :
  runL mx cap (l.drop (k + 1)) (sumL mx l s (k + 1)) = runL mx cap l s := by
 rw [← hr, List.drop_eq_getElem_cons h, runL, if_pos hs, sumL_succ _ _ _ _ h]
 simp [h]
theorem runL_end {mx cap : Int} {l : List Nat} {s : Int} {k : Nat} (h : l.length ≤ k ∨ ¬ sumL mx l s k ≤ cap) (hr : runL mx cap (l.drop k) (sumL mx l s k) = runL mx cap l s) : sumL mx l s k = runL mx cap l s := by
 rw [← hr]
 by_cases hk : l.length ≤ k
 ·rw [List.drop_eq_nil_of_le hk, runL]
 ·rw [List.drop_eq_getElem_cons (by omega), runL, if_neg (by rcases h with h | h; omega; exact h)]
theorem runL_bd {mx cap B : Int} (h0 : 0 ≤ mx) (hB : cap + mx + 1 ≤ B) : ∀ (l : List Nat) (s : Int), 0 ≤ s → s ≤ B → 0 ≤ runL mx cap l s ∧ runL mx cap l s ≤ B
 | [], s, h1, h2 => ⟨h1, h2⟩
 | n :: r, s, h1, h2 => by
  rw [runL]
  split
  ·exact runL_bd h0 hB r _ (by omega) (by omega)
  ·exact ⟨h1, h2⟩
theorem ths_le {g : Gr} (hg : Rd g) (x : Nat) : ((g.th.getD x []).length : Int) ≤ 9223372036854775807 := by
 rcases Nat.lt_or_ge x g.th.length with h1 | h1
 ·exact hg.ths _ (getD_mem h1)
 ·simp [List.getElem?_eq_none h1]
theorem frs_le {g : Gr} (hg : Rd g) (x : Nat) : ((g.fr.getD x []).length : Int) ≤ 9223372036854775807 := by
 rcases Nat.lt_or_ge x g.fr.length with h1 | h1
 ·exact hg.frs _ (getD_mem h1)
 ·simp [List.getElem?_eq_none h1]
def lensT (g : Gr) : List Nat := g.th.map (·.length)
def lensF (g : Gr) : List Nat := g.fr.map (·.length)
def lensO (g : Gr) : List Nat := g.ord.map (·.length)
def light0 (mx : Int) (g : Gr) : Int := min (mx + 1) g.init.length + min (mx + 1) g.th.length + min (mx + 1) g.fr.length + min (mx + 1) g.ord.length
def lightM (mx : Int) (g : Gr) : Bool := decide (runL mx (3 * mx) (lensO g) (runL mx (2 * mx) (lensF g) (runL mx mx (lensT g) (light0 mx g))) ≤ 3 * mx)
theorem lensT_get (g : Gr) (k : Nat) (h : k < g.th.length) : (lensT g).getD k 0 = (g.th.getD k []).length := by simp [lensT, h]
theorem lensF_get (g : Gr) (k : Nat) (h : k < g.fr.length) : (lensF g).getD k 0 = (g.fr.getD k []).length := by simp [lensF, h]
theorem lensO_get (g : Gr) (k : Nat) (h : k < g.ord.length) : (lensO g).getD k 0 = (g.ord.getD k []).length := by simp [lensO, h]
theorem light_ok (g : Gr) (hg : Rd g) (mx : Int) (h0 : 0 ≤ mx) (h1 : mx ≤ 1000) : Pure Tryz.prog γ false 5 [aGr g, .i fun _ => mx] (.b fun _ => lightM mx g) := by
 have b1 := hg.init
 have b2 := hg.th
 have b3 := hg.fr
 have b4 := hg.ord
 have hs0 : 0 ≤ light0 mx g ∧ light0 mx g ≤ 4 * mx + 4 := by unfold light0; omega
 obtain ⟨s0, hs⟩ : ∃ s, s = light0 mx g := ⟨_, rfl⟩
 rw [← hs] at hs0
 unfold lightM
 rw [← hs]
 have hlT : (lensT g).length = g.th.length := by simp [lensT]
 have hlF : (lensF g).length = g.fr.length := by simp [lensF]
 have hlO : (lensO g).length = g.ord.length := by simp [lensO]
 obtain ⟨r1, hr1⟩ : ∃ r, r = runL mx mx (lensT g) s0 := ⟨_, rfl⟩
 obtain ⟨r2, hr2⟩ : ∃ r, r = runL mx (2 * mx) (lensF g) r1 := ⟨_, rfl⟩
 obtain ⟨r3, hr3⟩ : ∃ r, r = runL mx (3 * mx) (lensO g) r2 := ⟨_, rfl⟩
 obtain ⟨S1, hS1⟩ : ∃ S : Nat → Int, ∀ k, S k = sumL mx (lensT g) s0 k := ⟨_, fun _ => rfl⟩
 obtain ⟨S2, hS2⟩ : ∃ S : Nat → Int, ∀ k, S k = sumL mx (lensF g) r1 k := ⟨_, fun _ => rfl⟩
 obtain ⟨S3, hS3⟩ : ∃ S : Nat → Int, ∀ k, S k = sumL mx (lensO g) r2 k := ⟨_, fun _ => rfl⟩
 have z1 : S1 0 = s0 := by rw [hS1, sumL_zero]
 have z2 : S2 0 = r1 := by rw [hS2, sumL_zero]
 have z3 : S3 0 = r2 := by rw [hS3, sumL_zero]
 have n1 : ∀ k, k < g.th.length → S1 (k + 1) = S1 k + min (mx + 1) (g.th.getD k []).length := fun k hk => by rw [hS1, hS1, sumL_succ _ _ _ _ (by omega), lensT_get _ _ hk]
 have n2 : ∀ k, k < g.fr.length → S2 (k + 1) = S2 k + min (mx + 1) (g.fr.getD k []).length := fun k hk => by rw [hS2, hS2, sumL_succ _ _ _ _ (by omega), lensF_get _ _ hk]
 have n3 : ∀ k, k < g.ord.length → S3 (k + 1) = S3 k + min (mx + 1) (g.ord.getD k []).length := fun k hk => by rw [hS3, hS3, sumL_succ _ _ _ _ (by omega), lensO_get _ _ hk]
 rw [← hr1, ← hr2, ← hr3]
 have q1 := runL_bd (mx := mx) (cap := mx) (B := 4 * mx + 4) h0 (by omega) (lensT g) s0 (by omega) (by omega)
 rw [← hr1] at q1
 have q2 := runL_bd (mx := mx) (cap := 2 * mx) (B := 4 * mx + 4) h0 (by omega) (lensF g) r1 (by omega) (by omega)
 rw [← hr2] at q2
 have q3 := runL_bd (mx := mx) (cap := 3 * mx) (B := 4 * mx + 4) h0 (by omega) (lensO g) r2 (by omega) (by omega)
 rw [← hr3] at q3
 refine Pure.goL (ty := ty) ty_eq mo Tryz.func5 rfl Tryz.ntmps5 Tryz.results5 Tryz.call5 (by simp) fun P C CQ D W F E hF => ?_
 refine E.cut 4 (told 111 [(1, .i fun _ => mx), (2, .ptr 0 0), (5, .i fun _ => r1)] [.box (aGr g)]) (by kernel_rfl) (Nat.zero_le _) (fun I hI => ?_) ?_
 ·cbv
  repeat' (first
   |(refine ⟨fun _ h_s=>?_,fun _ h_s=>?_⟩<;>(cbv;(try simp only [nc] at *);try simp (disch:=(first|omega|(simp only [lnS];omega))) only [rdT,rdS,reduceCtorEq,trT] at h_s))
   |(refine hF ?_;intro _;clear hF)
   |(refine hF ?_;cbv;clear hF)
   |(refine ⟨fun _=>?_,?_⟩;(· ((try simp only [nc] at *);first|done|omega|exact ⟨by omega,rfl⟩|(simp (disch:=(first|omega|(simp only [lnS];omega))) only [rdT,rdS];first|done|omega|rfl|exact ⟨by omega,rfl⟩|(simp;done)|(simp;omega))|(intros;trivial)));(try (simp only [nc] at *));(try simp (disch:=(first|omega|(simp only [lnS];omega))) only [rdT,rdS]);(try cbv))
   | fail
  )
  refine E.loopS (ι:=Nat) (fun k=>k≤g.th.length∧(runL mx mx ((lensT g).drop k) (S1 k) = r1∧0≤S1 k∧S1 k≤4 * mx + 4)) (fun k=>g.th.length - k) (fun k=>[(6,.i fun _=>((k : Nat) : Int)),(5,.i fun _=>S1 k)]) (fun k h=>h) 0 (fun _=>by first|rfl|simp) ⟨Nat.zero_le _,?_⟩ ?_ fun k hk I2 hI2=>?_
  ·rw [z1, List.drop_zero]; exact ⟨hr1.symm, by omega⟩
  ·cbv
   rw [z1, hs]
   simp (disch:=omega) [light0,w64_of]
   repeat' split
   all_goals omega
  cbv
  have hgt := ths_le hg k
  have nk := n1 k
  have ek := fun h1 h2 => runL_step (mx := mx) (cap := mx) (l := lensT g) (s := s0) (k := k) h1 h2
  have fk := fun h1 => runL_end (mx := mx) (cap := mx) (l := lensT g) (s := s0) (k := k) h1
  rw [← hS1, ← hS1, ← hr1] at ek
  rw [← hS1, ← hr1] at fk
  repeat' (first
   |(refine hI2 (k + 1) ?_ ?_ ?_;rotate_left 1;(· ((try simp only [nc] at *);omega));(cbv;clear hI2;(try clear hF);(try simp only [nc] at *);(try simp (disch:=(first|omega|(simp only [lnS];omega))) only [rdT,rdS,anT]));rotate_left 1;(try ((try simp only [nc] at *);omega)))
   |(refine ⟨fun _ h_s=>?_,fun _ h_s=>?_⟩<;>(cbv;(try simp only [nc] at *);try simp (disch:=(first|omega|(simp only [lnS];omega))) only [rdT,rdS,reduceCtorEq,trT] at h_s))
   |(refine hF ?_;intro _;clear hF)
   |(refine hF ?_;cbv;clear hF)
   |(refine ⟨fun _=>?_,?_⟩;(· ((try simp only [nc] at *);first|done|omega|exact ⟨by omega,rfl⟩|(simp (disch:=(first|omega|(simp only [lnS];omega))) only [rdT,rdS];first|done|omega|rfl|exact ⟨by omega,rfl⟩|(simp;done)|(simp;omega))|(intros;trivial)));(try (simp only [nc] at *));(try simp (disch:=(first|omega|(simp only [lnS];omega))) only [rdT,rdS]);(try cbv))
   | fail
  )
  ·refine ⟨?_, ?_⟩ <;> first | omega | (rw [nk (by ((try simp only [nc] at *); omega))]; split <;> omega)
  all_goals
   have hfk := fk (by ((try simp only [nc] at *); omega)) hk.2.1
   refine hI ?_
   cbv
   clear hI hI2 ek fk nk
   simp [hfk]
 refine E.cut 2 (told 111 [(1, .i fun _ => mx), (2, .ptr 0 0), (5, .i fun _ => r2)] [.box (aGr g)]) (by kernel_rfl) (Nat.zero_le _) (fun I hI => ?_) ?_
 ·cbv
  repeat' (first
   |(refine ⟨fun _ h_s=>?_,fun _ h_s=>?_⟩<;>(cbv;(try simp only [nc] at *);try simp (disch:=(first|omega|(simp only [lnS];omega))) only [rdT,rdS,reduceCtorEq,trT] at h_s))
   |(refine hF ?_;intro _;clear hF)
   |(refine hF ?_;cbv;clear hF)
   |(refine ⟨fun _=>?_,?_⟩;(· ((try simp only [nc] at *);first|done|omega|exact ⟨by omega,rfl⟩|(simp (disch:=(first|omega|(simp only [lnS];omega))) only [rdT,rdS];first|done|omega|rfl|exact ⟨by omega,rfl⟩|(simp;done)|(simp;omega))|(intros;trivial)));(try (simp only [nc] at *));(try simp (disch:=(first|omega|(simp only [lnS];omega))) only [rdT,rdS]);(try cbv))
   | fail
  )
  refine E.loopS (ι:=Nat) (fun k=>k≤g.fr.length∧(runL mx (2 * mx) ((lensF g).drop k) (S2 k) = r2∧0≤S2 k∧S2 k≤4 * mx + 4)) (fun k=>g.fr.length - k) (fun k=>[(7,.i fun _=>((k : Nat) : Int)),(5,.i fun _=>S2 k)]) (fun k h=>h) 0 (fun _=>by first|rfl|simp) ⟨Nat.zero_le _,?_⟩ ?_ fun k hk I2 hI2=>?_
  ·rw [z2, List.drop_zero]; exact ⟨hr2.symm, by omega⟩
  ·cbv
   rw [z2]
   simp
  cbv
  have hgt := frs_le hg k
  have nk := n2 k
  have ek := fun h1 h2 => runL_step (mx := mx) (cap := (2 * mx)) (l := lensF g) (s := r1) (k := k) h1 h2
  have fk := fun h1 => runL_end (mx := mx) (cap := (2 * mx)) (l := lensF g) (s := r1) (k := k) h1
  rw [← hS2, ← hS2, ← hr2] at ek
  rw [← hS2, ← hr2] at fk
  repeat' (first
   |(refine hI2 (k + 1) ?_ ?_ ?_;rotate_left 1;(· ((try simp only [nc] at *);omega));(cbv;clear hI2;(try clear hF);(try simp only [nc] at *);(try simp (disch:=(first|omega|(simp only [lnS];omega))) only [rdT,rdS,anT]));rotate_left 1;(try ((try simp only [nc] at *);omega)))
   |(refine ⟨fun _ h_s=>?_,fun _ h_s=>?_⟩<;>(cbv;(try simp only [nc] at *);try simp (disch:=(first|omega|(simp only [lnS];omega))) only [rdT,rdS,reduceCtorEq,trT] at h_s))
   |(refine hF ?_;intro _;clear hF)
   |(refine hF ?_;cbv;clear hF)
   |(refine ⟨fun _=>?_,?_⟩;(· ((try simp only [nc] at *);first|done|omega|exact ⟨by omega,rfl⟩|(simp (disch:=(first|omega|(simp only [lnS];omega))) only [rdT,rdS];first|done|omega|rfl|exact ⟨by omega,rfl⟩|(simp;done)|(simp;omega))|(intros;trivial)));(try (simp only [nc] at *));(try simp (disch:=(first|omega|(simp only [lnS];omega))) only [rdT,rdS]);(try cbv))
   | fail
  )
  ·refine ⟨?_, ?_⟩ <;> first | omega | (rw [nk (by ((try simp only [nc] at *); omega))]; split <;> omega)
  all_goals
   have hfk := fk (by ((try simp only [nc] at *); omega)) hk.2.1
   refine hI ?_
   cbv
   clear hI hI2 ek fk nk
   simp [hfk]
 refine E.cut 2 (told 111 [(1, .i fun _ => mx), (2, .ptr 0 0), (5, .i fun _ => r3)] [.box (aGr g)]) (by kernel_rfl) (Nat.zero_le _) (fun I hI => ?_) (E.bl ?_)
 ·cbv
  repeat' (first
   |(refine ⟨fun _ h_s=>?_,fun _ h_s=>?_⟩<;>(cbv;(try simp only [nc] at *);try simp (disch:=(first|omega|(simp only [lnS];omega))) only [rdT,rdS,reduceCtorEq,trT] at h_s))
   |(refine hF ?_;intro _;clear hF)
   |(refine hF ?_;cbv;clear hF)
   |(refine ⟨fun _=>?_,?_⟩;(· ((try simp only [nc] at *);first|done|omega|exact ⟨by omega,rfl⟩|(simp (disch:=(first|omega|(simp only [lnS];omega))) only [rdT,rdS];first|done|omega|rfl|exact ⟨by omega,rfl⟩|(simp;done)|(simp;omega))|(intros;trivial)));(try (simp only [nc] at *));(try simp (disch:=(first|omega|(simp only [lnS];omega))) only [rdT,rdS]);(try cbv))
   | fail
  )
  refine E.loopS (ι:=Nat) (fun k=>k≤g.ord.length∧(runL mx (3 * mx) ((lensO g).drop k) (S3 k) = r3∧0≤S3 k∧S3 k≤4 * mx + 4)) (fun k=>g.ord.length - k) (fun k=>[(8,.i fun _=>((k : Nat) : Int)),(5,.i fun _=>S3 k)]) (fun k h=>h) 0 (fun _=>by first|rfl|simp) ⟨Nat.zero_le _,?_⟩ ?_ fun k hk I2 hI2=>?_
  ·rw [z3, List.drop_zero]; exact ⟨hr3.symm, by omega⟩
  ·cbv
   rw [z3]
   simp
  cbv
  have hgt := ordsAt hg k
  have nk := n3 k
  have ek := fun h1 h2 => runL_step (mx := mx) (cap := (3 * mx)) (l := lensO g) (s := r2) (k := k) h1 h2
  have fk := fun h1 => runL_end (mx := mx) (cap := (3 * mx)) (l := lensO g) (s := r2) (k := k) h1
  rw [← hS3, ← hS3, ← hr3] at ek
  rw [← hS3, ← hr3] at fk
  repeat' (first
   |(refine hI2 (k + 1) ?_ ?_ ?_;rotate_left 1;(· ((try simp only [nc] at *);omega));(cbv;clear hI2;(try clear hF);(try simp only [nc] at *);(try simp (disch:=(first|omega|(simp only [lnS];omega))) only [rdT,rdS,anT]));rotate_left 1;(try ((try simp only [nc] at *);omega)))
   |(refine ⟨fun _ h_s=>?_,fun _ h_s=>?_⟩<;>(cbv;(try simp only [nc] at *);try simp (disch:=(first|omega|(simp only [lnS];omega))) only [rdT,rdS,reduceCtorEq,trT] at h_s))
   |(refine hF ?_;intro _;clear hF)
   |(refine hF ?_;cbv;clear hF)
   |(refine ⟨fun _=>?_,?_⟩;(· ((try simp only [nc] at *);first|done|omega|exact ⟨by omega,rfl⟩|(simp (disch:=(first|omega|(simp only [lnS];omega))) only [rdT,rdS];first|done|omega|rfl|exact ⟨by omega,rfl⟩|(simp;done)|(simp;omega))|(intros;trivial)));(try (simp only [nc] at *));(try simp (disch:=(first|omega|(simp only [lnS];omega))) only [rdT,rdS]);(try cbv))
   | fail
  )
  ·refine ⟨?_, ?_⟩ <;> first | omega | (rw [nk (by ((try simp only [nc] at *); omega))]; split <;> omega)
  all_goals
   have hfk := fk (by ((try simp only [nc] at *); omega)) hk.2.1
   refine hI ?_
   cbv
   clear hI hI2 ek fk nk
   simp [hfk]
 ·cbv
  repeat' (first
   |(refine ⟨fun _ h_s=>?_,fun _ h_s=>?_⟩<;>(cbv;(try simp only [nc] at *);try simp (disch:=(first|omega|(simp only [lnS];omega))) only [rdT,rdS,reduceCtorEq,trT] at h_s))
   |(refine hF ?_;intro _;clear hF)
   |(refine hF ?_;cbv;clear hF)
   |(refine ⟨fun _=>?_,?_⟩;(· ((try simp only [nc] at *);first|done|omega|exact ⟨by omega,rfl⟩|(simp (disch:=(first|omega|(simp only [lnS];omega))) only [rdT,rdS];first|done|omega|rfl|exact ⟨by omega,rfl⟩|(simp;done)|(simp;omega))|(intros;trivial)));(try (simp only [nc] at *));(try simp (disch:=(first|omega|(simp only [lnS];omega))) only [rdT,rdS]);(try cbv))
   | fail
  )
  rw [w64_of (by omega) (by omega)]
end Go.AL.Rl

namespace Go.AL.Rl
open Go Go.AL Go.Proofs
set_option maxRecDepth 100000
set_option maxHeartbeats 1600000
variable {γ : Nat → Option AV}

theorem count_ok (g : Gr) (hg : Rd g) : Pure Tryz.prog γ false 24 [aGr g] (.i fun _ => NG g) := by
 by_cases h : GOk g
 ·unfold NG
  rw [if_pos h]
  have hc := gcheck0 h
  have hsh := h.short
  have hin := hsh.init
  have hth := hsh.th
  obtain ⟨S, hS⟩ : ∃ S : Nat → Nat, ∀ t, S t = g.init.length + (evsT g t).length := ⟨_, fun _ => rfl⟩
  have z : S 0 = g.init.length := by rw [hS]; simp [evsT]
  have st : ∀ t, S (t + 1) = S t + (g.th.getD t []).length := fun t => by rw [hS, hS, evsT_succ, List.length_append]; omega
  have bd : ∀ t, S t ≤ 6 + 14 * t := fun t => by rw [hS]; have := evsT_len hsh t; omega
  have en : S g.th.length = nG g := by rw [hS, nG, idsG_len, evsG, List.length_append, evsI_len]
  refine Pure.go (ty := ty) ty_eq mo Tryz.func24 rfl Tryz.ntmps24 Tryz.results24 Tryz.call24 (by simp) fun P C CQ D W F E hF => ?_
  cbv
  repeat' (first
   |(refine E.c (SCalls.of_le (check14_ok g hg) ?_ ?_);(· (cbv;(try simp only [nc] at *);first|done|(simp;done)|(simp (disch:=(first|omega|(simp only [lnS];omega))) only [rdT,rdS,anT];first|done|omega|(refine ⟨?_,?_⟩<;>omega))|(simp (disch:=(first|omega|(simp only [lnS];omega))) [rdT,rdS];done)));cbv)
   |(refine ⟨fun _ h_s=>?_,fun _ h_s=>?_⟩<;>(cbv;(try simp only [nc] at *);try simp (disch:=(first|omega|(simp only [lnS];omega))) only [rdT,rdS,reduceCtorEq,trT] at h_s))
   |(refine hF ?_;intro _;clear hF)
   |(refine hF ?_;cbv;clear hF)
   |(refine ⟨fun _=>?_,?_⟩;(· ((try simp only [nc] at *);first|done|omega|exact ⟨by omega,rfl⟩|(simp (disch:=(first|omega|(simp only [lnS];omega))) only [rdT,rdS];first|done|omega|rfl|exact ⟨by omega,rfl⟩|(simp;done)|(simp;omega))|(intros;trivial)));(try (simp only [nc] at *));(try simp (disch:=(first|omega|(simp only [lnS];omega))) only [rdT,rdS]);(try cbv))
   | fail
  )
  ·simp [hc] at *
  refine E.loopS (ι:=Nat) (fun k=>k≤g.th.length) (fun k=>g.th.length - k) (fun k=>[(4,.i fun _=>((k : Nat) : Int)),(3,.i fun _=>(S k : Int))]) (fun k h=>h) 0 (fun _=>by first|rfl|simp) (Nat.zero_le _) ?_ fun k hk I2 hI2=>?_
  ·cbv; simp [z]
  cbv
  have hgt := hsh.at k
  have bk := bd k
  have sk := st k
  repeat' (first
   |(refine hI2 (k + 1) ?_ ?_ ?_;rotate_left 1;(· ((try simp only [nc] at *);omega));(cbv;clear hI2;(try clear hF);(try simp only [nc] at *);(try simp (disch:=(first|omega|(simp only [lnS];omega))) only [rdT,rdS,anT]));rotate_left 1;(try ((try simp only [nc] at *);omega)))
   |(refine ⟨fun _ h_s=>?_,fun _ h_s=>?_⟩<;>(cbv;(try simp only [nc] at *);try simp (disch:=(first|omega|(simp only [lnS];omega))) only [rdT,rdS,reduceCtorEq,trT] at h_s))
   |(refine hF ?_;intro _;clear hF)
   |(refine hF ?_;cbv;clear hF)
   |(refine ⟨fun _=>?_,?_⟩;(· ((try simp only [nc] at *);first|done|omega|exact ⟨by omega,rfl⟩|(simp (disch:=(first|omega|(simp only [lnS];omega))) only [rdT,rdS];first|done|omega|rfl|exact ⟨by omega,rfl⟩|(simp;done)|(simp;omega))|(intros;trivial)));(try (simp only [nc] at *));(try simp (disch:=(first|omega|(simp only [lnS];omega))) only [rdT,rdS]);(try cbv))
   | fail
  )
  ·refine ⟨?_, ?_⟩ <;> omega
  ·have e : k = g.th.length := by ((try simp only [nc] at *); omega)
   rw [e, en]
 ·have hc : gcheckM g ≠ 0 := by unfold gcheckM; split <;> simp [h]
  unfold NG
  rw [if_neg h]
  refine Pure.go (ty := ty) ty_eq mo Tryz.func24 rfl Tryz.ntmps24 Tryz.results24 Tryz.call24 (by simp) fun P C CQ D W F E hF => ?_
  cbv
  refine E.c (SCalls.of_le (check14_ok g hg) ?_ ?_)
  ·(cbv;(try simp only [nc] at *);first|done|(simp;done)|(simp (disch:=(first|omega|(simp only [lnS];omega))) only [rdT,rdS,anT];first|done|omega|(refine ⟨?_,?_⟩<;>omega))|(simp (disch:=(first|omega|(simp only [lnS];omega))) [rdT,rdS];done))
  cbv
  refine br_t (by simpa using hc) ?_
  cbv
  refine hF ?_
  cbv
  simp
def tgtC (V : Vw) (n w : Nat) : BitVec 64 := maskTo (fun a => acqM (V.ev.getD a ev0) && behM V n (maskTo (rdrM V (1#64 <<< w)) n) a) n
def rowC (V : Vw) (n : Nat) : Nat → Nat → BitVec 64
 | 0, _ => 0#64
 | w + 1, r => if swR V w r = true then rowC V n w r ||| tgtC V n w else rowC V n w r
def swC (V : Vw) (n : Nat) : List (BitVec 64) := relRows n (bit (tab n (rowC V n n)))
theorem seq_plain {V : Vw} {n w : Nat} (hn : n ≤ 64) (hw : w < n) (h : ∀ i < n, (V.ev.getD i ev0).kind ≠ 3) : 1#64 <<< w = seqM V n w := by
 refine seq_unique hn hw ?_ (fun j hj => ?_) fun i hi hk => absurd hk (h i hi)
 ·rw [BitVec.getLsbD_shiftLeft, BitVec.getLsbD_one]; simp; omega
 ·rw [BitVec.getLsbD_shiftLeft, BitVec.getLsbD_one] at hj
  simp at hj
  have : j = w := by omega
  subst this
  exact .base
theorem rowC_eq {V : Vw} {n : Nat} (hn : n ≤ 64) (h : ∀ i < n, (V.ev.getD i ev0).kind ≠ 3) : ∀ k, k ≤ n → ∀ r, rowT V n k r = rowC V n k r
 | 0, _, _ => rfl
 | k + 1, hk, r => by
  have e : tgtM V n k = tgtC V n k := by unfold tgtM tgtC; rw [seq_plain hn (by omega) h]
  show (if swR V k r = true then rowT V n k r ||| tgtM V n k else rowT V n k r) = if swR V k r = true then rowC V n k r ||| tgtC V n k else rowC V n k r
  rw [rowC_eq hn h k (by omega) r, e]
theorem swC_eq {V : Vw} {n : Nat} (hn : n ≤ 64) (h : ∀ i < n, (V.ev.getD i ev0).kind ≠ 3) : swF V n = swC V n := by
 unfold swF swC swRows
 rw [show rowT V n n = rowC V n n from funext fun r => rowC_eq hn h n (Nat.le_refl _) r]
def vS (o : Int) : Vw := ⟨[⟨0, 0⟩, ⟨1, 0⟩, ⟨2, 0⟩], [⟨2, 0, 1, 0, 0⟩, ⟨2, 0, o, 0, 1⟩, ⟨1, 0, 3, 1, 0⟩], [-1, -1, 1], [0, 1, -1]⟩
end Go.AL.Rl

namespace Go.AL.Rl
open Go Go.AL Go.Proofs
set_option maxRecDepth 100000
set_option maxHeartbeats 1600000
variable {γ : Nat → Option AV}

end Go.AL.Rl

namespace Go.AL.Rl
open Go Go.AL Go.Proofs
set_option maxRecDepth 100000

end Go.AL.Rl

namespace Go.AL.Rl
open Go Go.AL Go.Proofs
set_option maxRecDepth 100000

theorem notFence_w {e : Ev} (h : writesM e = true) : fenceM e = false := by
 unfold writesM at h; unfold fenceM
 simp only [Bool.or_eq_true, decide_eq_true_eq, decide_eq_false_iff_not] at *
 omega
theorem near_of {V : Vw} {a b : Nat} (h1 : fenceM (V.ev.getD a ev0) = false) (h2 : fenceM (V.ev.getD b ev0) = false) (h : (V.ev.getD a ev0).loc = (V.ev.getD b ev0).loc) : nearM V a b = true := by
 unfold nearM
 simp only [h1, h2, Bool.not_false, Bool.true_and, decide_eq_true_eq]
 exact h
theorem event_init {g : Gr} {d : EId} {e : Ev} (h : eventM g d = some e) (h0 : d.t = 0) : e.kind = 2 ∧ e.loc = d.i ∧ 0 ≤ d.i := by
 unfold eventM at h
 rw [if_pos h0] at h
 split at h
 ·rename_i hc
  cases h
  exact ⟨rfl, rfl, hc.1⟩
 ·cases h
theorem event_fine {g : Gr} (hg : GOk g) {d : EId} {e : Ev} (h : eventM g d = some e) (h0 : d.t ≠ 0) : fineM g.init.length e = true := by
 unfold eventM at h
 rw [if_neg h0] at h
 split at h
 ·rename_i hc
  cases h
  exact (hg.events (d.t - 1).toNat (by omega)).2 d.i.toNat (by omega)
 ·cases h
theorem fine_loc {n : Int} {e : Ev} (h : fineM n e = true) (hk : fenceM e = false) : 0 ≤ e.loc ∧ e.loc < n := by
 unfold fineM at h; unfold fenceM at hk
 simp only [Bool.and_eq_true, decide_eq_true_eq, decide_eq_false_iff_not] at *
 have := h.2
 rw [if_neg hk] at this
 simpa using this
/-- each write of a thread stands in its location's order -/
theorem ord_has {g : Gr} (hg : GOk g) {x : Nat} {d : EId} (h : isW g x d = true) : d ∈ g.ord.getD x [] := by
 have hp := (orders_perm hg.lord hg.events).1 hg.orders
 have := hp.symm.subset ((isW_mem g x d).1 h)
 unfold qsT at this
 simp only [List.mem_flatMap, List.mem_range, List.mem_map] at this
 obtain ⟨k, hk, d', hd, he⟩ := this
 obtain ⟨rfl, h2⟩ := Prod.mk.inj he
 have : k = x := by omega
 subst this
 exact hd
theorem isW_of {g : Gr} {d : EId} {e : Ev} (h : eventM g d = some e) (h0 : d.t ≠ 0) (hw : writesM e = true) (x : Int) (hx : e.loc = x) : isW g x d = true := by
 unfold isW
 rw [h]
 simp [h0, hw, hx]
theorem pl_write {g : Gr} (hg : GOk g) {d : EId} {e : Ev} (h : eventM g d = some e) (hw : writesM e = true) :
  d.t = 0 ∧ plOf g d = 0 ∨ d.t ≠ 0 ∧ ∃ k : Nat, plOf g d = k + 1 ∧ k < (g.ord.getD e.loc.toNat []).length ∧ (g.ord.getD e.loc.toNat []).getD k id0 = d := by
 by_cases h0 : d.t = 0
 ·exact .inl ⟨h0, by unfold plOf; rw [if_pos h0]⟩
 ·refine .inr ⟨h0, ?_⟩
  have hl := fine_loc (event_fine hg h h0) (notFence_w hw)
  have hm := ord_has hg (x := e.loc.toNat) (isW_of h h0 hw _ (by omega))
  have hf := numOf_find hm
  refine ⟨numOf (g.ord.getD e.loc.toNat []) d, ?_, numOf_lt hm, numOf_get hm⟩
  unfold plOf
  rw [if_neg h0, h, Option.getD_some, hf]
theorem pl_other {g : Gr} (hg : GOk g) {d : EId} {e : Ev} (h : eventM g d = some e) (hw : writesM e = false) : plOf g d = -1 := by
 have h0 : d.t ≠ 0 := fun h0 => by
  obtain ⟨hk, _⟩ := event_init h h0
  unfold writesM at hw
  simp [hk] at hw
 unfold plOf
 rw [if_neg h0, h, Option.getD_some]
 split
 ·rename_i k hk
  exfalso
  rw [List.findIdx?_eq_some_iff_getElem] at hk
  obtain ⟨h1, h2, _⟩ := hk
  have hm := List.getElem_mem h1
  simp only [decide_eq_true_eq] at h2
  rw [h2] at hm
  have hx : e.loc.toNat < g.init.length := by
   rcases Nat.lt_or_ge e.loc.toNat g.ord.length with hc | hc
   ·rw [← hg.lord]; exact hc
   ·rw [List.getD_eq_getElem?_getD, List.getElem?_eq_none hc] at hm; simp at hm
  obtain ⟨_, q2, _⟩ := (ordered_iff g e.loc.toNat).1 (hg.orders _ hx)
  obtain ⟨e', he', _, hw', _⟩ := isW_event (q2 _ hm)
  rw [h] at he'
  cases he'
  rw [hw] at hw'; cases hw'
 ·rfl
theorem vev {g : Gr} (_ : GOk g) (i : Nat) (hi : i < nG g) : eventM g ((idsG g).getD i id0) = some ((viewG g).ev.getD i ev0) := evsG_get g i hi
theorem vpl {g : Gr} (_ : GOk g) (i : Nat) (hi : i < nG g) : (viewG g).pl.getD i 0 = plOf g ((idsG g).getD i id0) := tabI_get _ _ _ hi
theorem vfr {g : Gr} (_ : GOk g) (i : Nat) (hi : i < nG g) : (viewG g).fr.getD i 0 = frOf g ((idsG g).getD i id0) := tabI_get _ _ _ hi
theorem init_reads {g : Gr} {d : EId} {e : Ev} (h : eventM g d = some e) (h0 : d.t = 0) : readsM e = false := by
 obtain ⟨hk, _⟩ := event_init h h0
 unfold readsM; rw [hk]; rfl
section
variable {g : Gr} (hg : GOk g)
include hg
theorem pl_iff (i : Nat) (hi : i < nG g) : 0 ≤ (viewG g).pl.getD i 0 ↔ writesM ((viewG g).ev.getD i ev0) = true := by
 rw [vpl hg i hi]
 constructor
 ·intro h
  cases hw : writesM ((viewG g).ev.getD i ev0) with
  | true => rfl
  | false => rw [pl_other hg (vev hg i hi) hw] at h; omega
 ·intro h
  rcases pl_write hg (vev hg i hi) h with ⟨_, h2⟩ | ⟨_, k, h2, _⟩ <;> omega
theorem fr_iff (i : Nat) (hi : i < nG g) : 0 ≤ (viewG g).fr.getD i 0 ↔ readsM ((viewG g).ev.getD i ev0) = true := by
 rw [vfr hg i hi]
 have he := vev hg i hi
 unfold frOf
 split
 ·rename_i h0
  rw [init_reads he h0]
  constructor
  ·intro h; omega
  ·intro h; cases h
 ·rw [he, Option.getD_some]
  split
  ·rename_i h; simp only [h, iff_true]; omega
  ·rename_i h; simp only [h, Bool.false_eq_true, iff_false]; omega
end
theorem mod2_bit (x : BitVec 64) (i : Nat) : (x >>> i) % BitVec.ofInt 64 2 = 1#64 ↔ x.getLsbD i = true := by
 rw [← BitVec.toNat_inj, BitVec.toNat_umod, BitVec.toNat_ushiftRight, BitVec.getLsbD, Nat.testBit_eq_decide_div_mod_eq, decide_eq_true_eq, Nat.shiftRight_eq_div_pow]
 rfl
end Go.AL.Rl

namespace Go.AL.Rl
open Go Go.AL Go.Proofs
set_option maxRecDepth 100000
set_option maxHeartbeats 1600000
variable {γ : Nat → Option AV}

end Go.AL.Rl

namespace Go.AL.Rl
open Go Go.AL Go.Proofs
set_option maxRecDepth 100000
set_option maxHeartbeats 1600000
variable {γ : Nat → Option AV}

theorem ids14_ok (g : Gr) (hs : Short g) : Pure Tryz.prog γ false 46 [aGr g] (.vs 2 fun _ => ids (idsG g)) := by
 have hin := hs.init
 have hth := hs.th
 have hg : ∀ t, (g.th.getD t []).length ≤ 14 := hs.at
 obtain ⟨L, hL⟩ : ∃ L : Nat → List EId, ∀ x, L x = idsI x := ⟨_, fun _ => rfl⟩
 obtain ⟨L2, hL2⟩ : ∃ L2 : Nat → Nat → List EId, ∀ t i, L2 t i = idsI g.init.length ++ idsT g t ++ idsE t i := ⟨_, fun _ _ => rfl⟩
 have l0 : L 0 = [] := by rw [hL]; rfl
 have lS : ∀ x, L (x + 1) = L x ++ [⟨0, x⟩] := fun x => by rw [hL, hL, idsI_succ]
 have lL : ∀ x, (L x).length = x := fun x => by rw [hL, idsI_len]
 have lE : L g.init.length = L2 0 0 := by rw [hL, hL2]; simp [idsT, idsE]
 have mS : ∀ t i, L2 t (i + 1) = L2 t i ++ [⟨t + 1, i⟩] := fun t i => by rw [hL2, hL2, idsE_succ]; simp only [List.append_assoc]
 have mE : ∀ t, L2 t (g.th.getD t []).length = L2 (t + 1) 0 := fun t => by rw [hL2, hL2, idsT_succ]; simp [idsE]
 have mF : L2 g.th.length 0 = idsG g := by rw [hL2]; simp [idsE, idsG]
 have mL : ∀ t i, (L2 t i).length ≤ 6 + 14 * t + i := fun t i => by
  have := evsT_len hs t
  rw [hL2]; simp only [List.length_append, idsI_len, idsE_len, idsT_len]; omega
 obtain ⟨G, hG⟩ : ∃ G : List EId → Nat, ∀ l, G l = l.length := ⟨_, fun _ => rfl⟩
 have hG0 : G [] = 0 := by rw [hG]; rfl
 refine Pure.go (ty := ty) ty_eq mo Tryz.func46 rfl Tryz.ntmps46 Tryz.results46 Tryz.call46 (by simp) fun P C CQ D W F E hF => ?_
 cbv
 repeat' (first
  |(refine ⟨fun _ h_s=>?_,fun _ h_s=>?_⟩<;>(cbv;(try simp only [nc] at *);try simp (disch:=(first|omega|(simp only [lnS];omega))) only [rdT,rdS,reduceCtorEq,trT] at h_s))
  |(refine hF ?_;intro _;clear hF)
  |(refine hF ?_;cbv;clear hF)
  |(refine ⟨fun _=>?_,?_⟩;(· ((try simp only [nc] at *);first|done|omega|exact ⟨by omega,rfl⟩|(simp (disch:=(first|omega|(simp only [lnS];omega))) only [rdT,rdS];first|done|omega|rfl|exact ⟨by omega,rfl⟩|(simp;done)|(simp;omega))|(intros;trivial)));(try (simp only [nc] at *));(try simp (disch:=(first|omega|(simp only [lnS];omega))) only [rdT,rdS]);(try cbv))
  | fail
 )
 refine E.w (AWP.ghostSlot 3 2 rfl (by omega) (E.loopSA (ι := Nat) (fun x => x ≤ g.init.length) (fun x => g.init.length - x) (fun x => [(4, .i fun _ => ((x : Nat) : Int)), (3, .sl 1 (G (L x)) 2 (fun _ => 0) fun _ => (L x).length)]) (fun x h => h.set 1 (.run (G (L x)) 2 fun _ => ids (L x))) 0 (fun _ => by first | rfl | simp) (Nat.zero_le _) ?_ fun x hx I hI => ?_))
 ·cbv; simp [l0, hG0, ids, LV.of]
 cbv
 have e1 := lS x
 have e2 := lL x
 skip
 repeat' (first
  |(refine hI (x + 1) ?_ ?_ ?_;rotate_left 1;(· ((try simp only [nc] at *);omega));(cbv;clear hI;(try clear hF);(try simp only [nc] at *);(try simp (disch:=(first|omega|(simp only [lnS];omega))) only [rdT,rdS,anT]));rotate_left 1;(try ((try simp only [nc] at *);omega)))
  |(refine ⟨fun _ h_s=>?_,fun _ h_s=>?_⟩<;>(cbv;(try simp only [nc] at *);try simp (disch:=(first|omega|(simp only [lnS];omega))) only [rdT,rdS,reduceCtorEq,trT] at h_s))
  |(refine hF ?_;intro _;clear hF)
  |(refine hF ?_;cbv;clear hF)
  |(refine ⟨fun _=>?_,?_⟩;(· ((try simp only [nc] at *);first|done|omega|exact ⟨by omega,rfl⟩|(simp (disch:=(first|omega|(simp only [lnS];omega))) only [rdT,rdS];first|done|omega|rfl|exact ⟨by omega,rfl⟩|(simp;done)|(simp;omega))|(intros;trivial)|exact ⟨by first|trivial|rfl,by first|trivial|rfl|simp,by first|trivial|simp,by simp;omega,by simp;omega,by simp [AV.flat,AV.cells,AV.one]⟩));(try (simp only [nc] at *));(try simp (disch:=(first|omega|(simp only [lnS];omega))) only [rdT,rdS]);(try cbv))
  | fail
 )
 ·refine ⟨⟨⟨by rw [hG, hG, e1]; simp, ?_⟩, by push_cast; rfl⟩, by rw [hG, hG, e1]; simp, ?_⟩
  ·rw [e1]; simp [setAll]
  ·show LV.of ((ids (L x)).l ++ (ids [⟨0, (x : Int)⟩]).l) = _
   rw [ids_app, ids_of, e1]
 clear hI
 have ex : x = g.init.length := by ((try simp only [nc] at *); omega)
 subst ex
 rw [lE]
 refine E.loopS (ι:=Nat) (fun t=>t≤g.th.length) (fun t=>g.th.length - t) (fun t=>[(5,.i fun _=>((t : Nat) : Int)),(3,.sl 1 (G (L2 t 0)) 2 (fun _=>0) fun _=>(L2 t 0).length)]) (fun t h=>h.set 1 (.run (G (L2 t 0)) 2 fun _=>ids (L2 t 0))) 0 (fun _=>by first|rfl|simp) (Nat.zero_le _) ?_ fun t ht I1 hI1=>?_
 ·cbv; simp
 cbv
 have hgt := hg t
 repeat' (first
  |(refine ⟨fun _ h_s=>?_,fun _ h_s=>?_⟩<;>(cbv;(try simp only [nc] at *);try simp (disch:=(first|omega|(simp only [lnS];omega))) only [rdT,rdS,reduceCtorEq,trT] at h_s))
  |(refine hF ?_;intro _;clear hF)
  |(refine hF ?_;cbv;clear hF)
  |(refine ⟨fun _=>?_,?_⟩;(· ((try simp only [nc] at *);first|done|omega|exact ⟨by omega,rfl⟩|(simp (disch:=(first|omega|(simp only [lnS];omega))) only [rdT,rdS];first|done|omega|rfl|exact ⟨by omega,rfl⟩|(simp;done)|(simp;omega))|(intros;trivial)|exact ⟨by first|trivial|rfl,by first|trivial|rfl|simp,by first|trivial|simp,by simp;omega,by simp;omega,by simp [AV.flat,AV.cells,AV.one]⟩));(try (simp only [nc] at *));(try simp (disch:=(first|omega|(simp only [lnS];omega))) only [rdT,rdS]);(try cbv))
  | fail
 )
 ·refine E.loopS (ι:=Nat) (fun i=>i≤(g.th.getD t []).length) (fun i=>(g.th.getD t []).length - i) (fun i=>[(6,.i fun _=>((i : Nat) : Int)),(3,.sl 1 (G (L2 t i)) 2 (fun _=>0) fun _=>(L2 t i).length)]) (fun i h=>h.set 1 (.run (G (L2 t i)) 2 fun _=>ids (L2 t i))) 0 (fun _=>by first|rfl|simp) (Nat.zero_le _) ?_ fun i hi I2 hI2=>?_
  ·cbv; simp
  cbv
  have f1 := mS t i
  have f2 := mL t i
  have f3 := mE t
  repeat' (first
   |(refine hI2 (i + 1) ?_ ?_ ?_;rotate_left 1;(· ((try simp only [nc] at *);omega));(cbv;clear hI2;(try clear hF);(try simp only [nc] at *);(try simp (disch:=(first|omega|(simp only [lnS];omega))) only [rdT,rdS,anT]));rotate_left 1;(try ((try simp only [nc] at *);omega)))
   |(refine ⟨fun _ h_s=>?_,fun _ h_s=>?_⟩<;>(cbv;(try simp only [nc] at *);try simp (disch:=(first|omega|(simp only [lnS];omega))) only [rdT,rdS,reduceCtorEq,trT] at h_s))
   |(refine hF ?_;intro _;clear hF)
   |(refine hF ?_;cbv;clear hF)
   |(refine ⟨fun _=>?_,?_⟩;(· ((try simp only [nc] at *);first|done|omega|exact ⟨by omega,rfl⟩|(simp (disch:=(first|omega|(simp only [lnS];omega))) only [rdT,rdS];first|done|omega|rfl|exact ⟨by omega,rfl⟩|(simp;done)|(simp;omega))|(intros;trivial)|exact ⟨by first|trivial|rfl,by first|trivial|rfl|simp,by first|trivial|simp,by simp;omega,by simp;omega,by simp [AV.flat,AV.cells,AV.one]⟩));(try (simp only [nc] at *));(try simp (disch:=(first|omega|(simp only [lnS];omega))) only [rdT,rdS]);(try cbv))
   | fail
  )
  ·refine ⟨⟨⟨by rw [hG, hG, f1]; simp, ?_⟩, by push_cast; rfl⟩, by rw [hG, hG, f1]; simp, ?_⟩
   ·rw [f1]; simp [setAll]
   ·show LV.of ((ids (L2 t i)).l ++ (ids [⟨(t : Int) + 1, (i : Int)⟩]).l) = _
    rw [ids_app, ids_of, f1]
  ·have ei : i = (g.th.getD t []).length := by ((try simp only [nc] at *); omega)
   subst ei
   rw [f3]
   repeat' (first
    |(refine hI1 (t + 1) ?_ ?_ ?_;rotate_left 1;(· ((try simp only [nc] at *);omega));(cbv;clear hI1;(try clear hF);(try simp only [nc] at *);(try simp (disch:=(first|omega|(simp only [lnS];omega))) only [rdT,rdS,anT]));rotate_left 1;(try ((try simp only [nc] at *);omega)))
    |(refine ⟨fun _ h_s=>?_,fun _ h_s=>?_⟩<;>(cbv;(try simp only [nc] at *);try simp (disch:=(first|omega|(simp only [lnS];omega))) only [rdT,rdS,reduceCtorEq,trT] at h_s))
    |(refine hF ?_;intro _;clear hF)
    |(refine hF ?_;cbv;clear hF)
    |(refine ⟨fun _=>?_,?_⟩;(· ((try simp only [nc] at *);first|done|omega|exact ⟨by omega,rfl⟩|(simp (disch:=(first|omega|(simp only [lnS];omega))) only [rdT,rdS];first|done|omega|rfl|exact ⟨by omega,rfl⟩|(simp;done)|(simp;omega))|(intros;trivial)|exact ⟨by first|trivial|rfl,by first|trivial|rfl|simp,by first|trivial|simp,by simp;omega,by simp;omega,by simp [AV.flat,AV.cells,AV.one]⟩));try cbv)
    | fail
   )
   push_cast; rfl
 ·have et : t = g.th.length := by ((try simp only [nc] at *); omega)
  subst et
  rw [mF]
  intro _
  refine ⟨rfl, by simp, ?_⟩
  rw [List.drop_zero, List.take_of_length_le (by simp)]
end Go.AL.Rl

namespace Go.AL.Rl
open Go Go.AL Go.Proofs
set_option maxRecDepth 100000
set_option maxHeartbeats 1600000
variable {γ : Nat → Option AV}

abbrev aV15 (g : Gr) (L : List EId) (E : List Ev) (n : Nat) : AV := .agg [.vs 1 fun _ => is g.init, .vs 1 fun _ => evss g.th, .vs 1 fun _ => idss g.fr, .vs 1 fun _ => idss g.ord, .vs 2 fun _ => ids L, .vs 5 fun _ => evs E, .i fun _ => (n : Int)]
theorem event_of {g : Gr} (hg : GOk g) (i : Nat) (hi : i < nG g) :
  (¬ 0 < ((idsG g).getD i id0).t ∧ 0 ≤ ((idsG g).getD i id0).i ∧ ((idsG g).getD i id0).i.toNat < g.init.length ∧ (evsG g).getD i ev0 = ⟨2, ((idsG g).getD i id0).i, 1, 0, g.init.getD ((idsG g).getD i id0).i.toNat 0⟩) ∨
  (0 < ((idsG g).getD i id0).t ∧ ((idsG g).getD i id0).t ≤ 4 ∧ 0 ≤ ((idsG g).getD i id0).t - 1 ∧ (((idsG g).getD i id0).t - 1).toNat < g.th.length ∧ 0 ≤ ((idsG g).getD i id0).i ∧ ((idsG g).getD i id0).i.toNat < (g.th.getD (((idsG g).getD i id0).t - 1).toNat []).length ∧
   (evsG g).getD i ev0 = (g.th.getD (((idsG g).getD i id0).t - 1).toNat []).getD ((idsG g).getD i id0).i.toNat ev0) := by
 have he := evsG_get g i hi
 have hth := hg.short.th
 unfold eventM at he
 split at he
 ·rename_i h0
  split at he
  ·rename_i hc
   exact .inl ⟨by omega, hc.1, by omega, (Option.some.inj he).symm⟩
  ·cases he
 ·rename_i h0
  split at he
  ·rename_i hc
   exact .inr ⟨hc.1, by omega, by omega, by omega, hc.2.2.1, by omega, (Option.some.inj he).symm⟩
  ·cases he
theorem look15_yes (g : Gr) (hg : Rd g) (h : GOk g) : Pure Tryz.prog γ false 38 [aGr g] (.tup [.vp (fun _ => aV15 g (idsG g) (evsG g) (nG g)) 0, .b fun _ => true]) := by
 have kc := check14_ok (γ := γ) g hg
 rw [gcheck0 h] at kc
 have ki := ids14_ok (γ := γ) g h.short
 have hev := event_of h
 have hn : nG g ≤ 62 := (viewG_wf h).small
 have hin := h.short.init
 obtain ⟨Lf, hLf⟩ : ∃ L, L = idsG g := ⟨_, rfl⟩
 obtain ⟨Mf, hMf⟩ : ∃ L, L = evsG g := ⟨_, rfl⟩
 obtain ⟨n, hnn⟩ : ∃ n, n = nG g := ⟨_, rfl⟩
 have hLn : Lf.length = n := by rw [hLf, hnn]; rfl
 have hMn : Mf.length = n := by rw [hMf, ← idsG_len, ← hLf, hLn]
 rw [← hLf, ← hMf, ← hnn] at hev ⊢
 rw [← hLf] at ki
 rw [← hnn] at hn
 obtain ⟨M, hM⟩ : ∃ M : Nat → List Ev, ∀ k, M k = Mf.take k := ⟨_, fun _ => rfl⟩
 have m0 : M 0 = [] := by rw [hM]; simp
 have mS : ∀ k, k < n → M (k + 1) = M k ++ [Mf.getD k ev0] := fun k hk => by rw [hM, hM, take_succ' _ _ ev0 (by omega)]
 have mL : ∀ k, k ≤ n → (M k).length = k := fun k hk => by rw [hM, List.length_take]; omega
 have mE : M n = Mf := by rw [hM, List.take_of_length_le (by omega)]
 obtain ⟨G, hG⟩ : ∃ G : Nat → Nat, ∀ k, G k = k := ⟨_, fun _ => rfl⟩
 have hG0 : G 0 = 0 := hG 0
 refine Pure.go (ty := ty) ty_eq mo Tryz.func38 rfl Tryz.ntmps38 Tryz.results38 Tryz.call38 (by simp) fun P C CQ D W F E hF => ?_
 cbv
 repeat' (first
  |((first|refine E.c (SCalls.of_le (ki) ?_ ?_)|refine E.q (QCalls.of_le (ki) ?_ ?_));(· (cbv;(try simp only [nc] at *);first|done|(simp;done)|(simp (disch:=(first|omega|(simp only [lnS];omega))) only [rdT,rdS,anT];first|done|omega|(refine ⟨?_,?_⟩<;>omega))|(simp (disch:=(first|omega|(simp only [lnS];omega))) [rdT,rdS];done)));cbv)
  |(refine E.c (SCalls.of_le (ki) ?_ ?_);(· (cbv;(try simp only [nc] at *);first|done|(simp;done)|(simp (disch:=(first|omega|(simp only [lnS];omega))) only [rdT,rdS,anT];first|done|omega|(refine ⟨?_,?_⟩<;>omega))|(simp (disch:=(first|omega|(simp only [lnS];omega))) [rdT,rdS];done)));cbv)
  |(refine E.c (SCalls.of_le (kc) ?_ ?_);(· (cbv;(try simp only [nc] at *);first|done|(simp;done)|(simp (disch:=(first|omega|(simp only [lnS];omega))) only [rdT,rdS,anT];first|done|omega|(refine ⟨?_,?_⟩<;>omega))|(simp (disch:=(first|omega|(simp only [lnS];omega))) [rdT,rdS];done)));cbv)
  |(refine ⟨fun _ h_s=>?_,fun _ h_s=>?_⟩<;>(cbv;(try simp only [nc] at *);try simp (disch:=(first|omega|(simp only [lnS];omega))) only [rdT,rdS,reduceCtorEq,trT] at h_s))
  |(refine hF ?_;intro _;clear hF)
  |(refine hF ?_;cbv;clear hF)
  |(refine ⟨fun _=>?_,?_⟩;(· ((try simp only [nc] at *);first|done|omega|exact ⟨by omega,rfl⟩|(simp (disch:=(first|omega|(simp only [lnS];omega))) only [rdT,rdS];first|done|omega|rfl|exact ⟨by omega,rfl⟩|(simp;done)|(simp;omega))|(intros;trivial)));(try (simp only [nc] at *));(try simp (disch:=(first|omega|(simp only [lnS];omega))) only [rdT,rdS]);(try cbv))
  |(refine E.d 3 (by decide +kernel) ?_;cbv;(fail_if_success guard_target =~ False))
  |(refine E.d 10 (by decide +kernel) ?_;cbv;(fail_if_success guard_target =~ False))
  |(refine E.d 21 (by decide +kernel) ?_;cbv;(fail_if_success guard_target =~ False))
  | fail
 )
 ·revert h_s; simp
 refine E.w (AWP.ghostField 1 5 5 rfl rfl (E.loopSA (ι := Nat) (fun k => k ≤ n) (fun k => n - k) (fun k => [(5, .i fun _ => ((k : Nat) : Int))]) (fun k h => (h.set 1 (.box (.agg [.vs 1 fun _ => is g.init, .vs 1 fun _ => evss g.th, .vs 1 fun _ => idss g.fr, .vs 1 fun _ => idss g.ord, .vs 2 fun _ => ids Lf, .sl 2 (G k) 5 (fun _ => 0) fun _ => (M k).length, .i fun _ => (n : Int)]))).set 2 (.run (G k) 5 fun _ => evs (M k))) 0 (fun _ => by first | rfl | simp) (Nat.zero_le _) ?_ fun k hk I hI => ?_))
 ·cbv; simp [m0, hG0, hLn, evs, LV.of]
 cbv
 have hv := hev k
 have ml := mL k hk
 skip
 repeat' (first
  |(refine hI (k + 1) ?_ ?_ ?_;rotate_left 1;(· ((try simp only [nc] at *);omega));(cbv;clear hI;(try clear hF);(try simp only [nc] at *);(try simp (disch:=(first|omega|(simp only [lnS];omega))) only [rdT,rdS,anT]));rotate_left 1;(try ((try simp only [nc] at *);omega)))
  |(refine E.de 8 [2] [] (by decide +kernel) ?_;cbv;(fail_if_success guard_target =~ False))
  |(refine ⟨fun _ h_s=>?_,fun _ h_s=>?_⟩<;>(cbv;(try simp only [nc] at *);try simp (disch:=(first|omega|(simp only [lnS];omega))) only [rdT,rdS,reduceCtorEq,trT] at h_s))
  |(refine hF ?_;intro _;clear hF)
  |(refine hF ?_;cbv;clear hF)
  |(refine ⟨fun _=>?_,?_⟩;(· ((try simp only [nc] at *);first|done|omega|exact ⟨by omega,rfl⟩|(simp (disch:=(first|omega|(simp only [lnS];omega))) only [rdT,rdS];first|done|omega|rfl|exact ⟨by omega,rfl⟩|(simp;done)|(simp;omega))|(intros;trivial)|exact ⟨by first|trivial|rfl,by first|trivial|rfl|simp,by first|trivial|simp,by simp;omega,by simp;omega,by simp [AV.flat,AV.cells,AV.one]⟩));(try (simp only [nc] at *));(try simp (disch:=(first|omega|(simp only [lnS];omega))) only [rdT,rdS]);(try cbv))
  |(refine E.d 3 (by decide +kernel) ?_;cbv;(fail_if_success guard_target =~ False))
  |(refine E.d 10 (by decide +kernel) ?_;cbv;(fail_if_success guard_target =~ False))
  |(refine E.d 21 (by decide +kernel) ?_;cbv;(fail_if_success guard_target =~ False))
  | fail
 )
 ·obtain ⟨c1, c2, c3, c4, c5, c6, c7⟩ := (hv (by ((try simp only [nc] at *); omega))).resolve_left fun h => h.1 h_s
  have hs := mS k (by ((try simp only [nc] at *); omega))
  (try simp only [id0, ev0] at c1 c2 c3 c4 c5 c6 c7 hs)
  (try simp only [nc] at *)
  refine ⟨by push_cast; rfl, ⟨by rw [hG, hG], by rw [hs]; simp [setAll]⟩, by rw [hG, hG], ?_⟩
  rw [hs, c7]
  generalize (g.th.getD ((Lf.getD k ⟨0, 0⟩).t - 1).toNat []).getD (Lf.getD k ⟨0, 0⟩).i.toNat ⟨0, 0, 0, 0, 0⟩ = e
  show LV.of ((evs (M k)).l ++ (evs [e]).l) = _
  rw [evs_app, evs_of]
 ·obtain ⟨c1, c2, c3, c4⟩ := (hv (by ((try simp only [nc] at *); omega))).resolve_right fun h => by ((try simp only [nc] at *); omega)
  have hs := mS k (by ((try simp only [nc] at *); omega))
  (try simp only [id0, ev0] at c1 c2 c3 c4 hs)
  (try simp only [nc] at *)
  refine ⟨by push_cast; rfl, ⟨by rw [hG, hG], by rw [hs]; simp [setAll]⟩, by rw [hG, hG], ?_⟩
  rw [hs, c4]
  show LV.of ((evs (M k)).l ++ (evs [⟨2, (Lf.getD k ⟨0, 0⟩).i, 1, 0, g.init.getD (Lf.getD k ⟨0, 0⟩).i.toNat 0⟩]).l) = _
  rw [evs_app, evs_of]
 ·have e : k = n := by ((try simp only [nc] at *); omega)
  subst e
  rw [mE]
  refine ⟨⟨fun _ => rfl, fun _ => rfl, fun _ => rfl, fun _ => rfl, fun _ => rfl, fun _ => ⟨rfl, by simp, by rw [List.drop_zero, List.take_of_length_le (by simp)]⟩, fun _ => rfl, trivial⟩, fun _ => rfl, trivial⟩
end Go.AL.Rl

namespace Go.AL.Rl
open Go Go.AL Go.Proofs
set_option maxRecDepth 100000
set_option maxHeartbeats 1600000
variable {γ : Nat → Option AV}

abbrev pW (g : Gr) : AV := .vp (fun _ => aV15 g (idsG g) (evsG g) (nG g)) 0
theorem ids_pos {g : Gr} {i : Nat} (hi : i < nG g) : 0 ≤ ((idsG g).getD i id0).t := by
 have hm : (idsG g).getD i id0 ∈ idsG g := getD_mem hi
 rw [idsG, List.mem_append, idsI_mem, idsT_mem, ← idsG] at hm
 omega
theorem evsG_l (g : Gr) : (evsG g).length = nG g := (idsG_len g).symm
theorem idsG_l (g : Gr) : (idsG g).length = nG g := rfl
theorem xreads_ok (g : Gr) (L : List EId) (Es : List Ev) (n a : Nat) (h1 : Es.length = n) (ha : a < n) : Pure Tryz.prog γ false 77 [.vp (fun _ => aV15 g L Es n) 0, .i fun _ => (a : Int)] (.b fun _ => readsM (Es.getD a ev0)) := by
 refine Pure.go (ty := ty) ty_eq mo Tryz.func77 rfl Tryz.ntmps77 Tryz.results77 Tryz.call77 (by simp) fun P C CQ D W F E hF => ?_
 cbv
 repeat' (first
  |(refine ⟨fun _ h_s=>?_,fun _ h_s=>?_⟩<;>(cbv;(try simp only [nc] at *);try simp (disch:=(first|omega|(simp only [lnS];omega))) only [rdT,rdS,reduceCtorEq,trT] at h_s))
  |(refine hF ?_;intro _;clear hF)
  |(refine hF ?_;cbv;clear hF)
  |(refine ⟨fun _=>?_,?_⟩;(· ((try simp only [nc] at *);first|done|omega|exact ⟨by omega,rfl⟩|(simp (disch:=(first|omega|(simp only [lnS];omega))) only [rdT,rdS];first|done|omega|rfl|exact ⟨by omega,rfl⟩|(simp;done)|(simp;omega))|(intros;trivial)));(try (simp only [nc] at *));(try simp (disch:=(first|omega|(simp only [lnS];omega))) only [rdT,rdS]);(try cbv))
  | fail
 )
 all_goals (try simp only [nc] at *)
 all_goals (try simp (disch:=(first|omega|(simp only [lnS];omega))) only [rdT,rdS])
 all_goals simp_all [readsM]
theorem wreads_ok (g : Gr) (a : Nat) (ha : a < nG g) : Pure Tryz.prog γ false 77 [pW g, .i fun _ => (a : Int)] (.b fun _ => readsM ((viewG g).ev.getD a ev0)) := xreads_ok g _ _ _ a (evsG_l g) ha
theorem xwrites_ok (g : Gr) (L : List EId) (Es : List Ev) (n a : Nat) (h1 : Es.length = n) (ha : a < n) : Pure Tryz.prog γ false 75 [.vp (fun _ => aV15 g L Es n) 0, .i fun _ => (a : Int)] (.b fun _ => writesM (Es.getD a ev0)) := by
 refine Pure.go (ty := ty) ty_eq mo Tryz.func75 rfl Tryz.ntmps75 Tryz.results75 Tryz.call75 (by simp) fun P C CQ D W F E hF => ?_
 cbv
 repeat' (first
  |(refine ⟨fun _ h_s=>?_,fun _ h_s=>?_⟩<;>(cbv;(try simp only [nc] at *);try simp (disch:=(first|omega|(simp only [lnS];omega))) only [rdT,rdS,reduceCtorEq,trT] at h_s))
  |(refine hF ?_;intro _;clear hF)
  |(refine hF ?_;cbv;clear hF)
  |(refine ⟨fun _=>?_,?_⟩;(· ((try simp only [nc] at *);first|done|omega|exact ⟨by omega,rfl⟩|(simp (disch:=(first|omega|(simp only [lnS];omega))) only [rdT,rdS];first|done|omega|rfl|exact ⟨by omega,rfl⟩|(simp;done)|(simp;omega))|(intros;trivial)));(try (simp only [nc] at *));(try simp (disch:=(first|omega|(simp only [lnS];omega))) only [rdT,rdS]);(try cbv))
  | fail
 )
 all_goals (try simp only [nc] at *)
 all_goals (try simp (disch:=(first|omega|(simp only [lnS];omega))) only [rdT,rdS])
 all_goals simp_all [writesM]
theorem wwrites_ok (g : Gr) (a : Nat) (ha : a < nG g) : Pure Tryz.prog γ false 75 [pW g, .i fun _ => (a : Int)] (.b fun _ => writesM ((viewG g).ev.getD a ev0)) := xwrites_ok g _ _ _ a (evsG_l g) ha
theorem xacq_ok (g : Gr) (L : List EId) (Es : List Ev) (n a : Nat) (h1 : Es.length = n) (ha : a < n) : Pure Tryz.prog γ false 80 [.vp (fun _ => aV15 g L Es n) 0, .i fun _ => (a : Int)] (.b fun _ => acqM (Es.getD a ev0)) := by
 refine Pure.go (ty := ty) ty_eq mo Tryz.func80 rfl Tryz.ntmps80 Tryz.results80 Tryz.call80 (by simp) fun P C CQ D W F E hF => ?_
 cbv
 repeat' (first
  |(refine ⟨fun _ h_s=>?_,fun _ h_s=>?_⟩<;>(cbv;(try simp only [nc] at *);try simp (disch:=(first|omega|(simp only [lnS];omega))) only [rdT,rdS,reduceCtorEq,trT] at h_s))
  |(refine hF ?_;intro _;clear hF)
  |(refine hF ?_;cbv;clear hF)
  |(refine ⟨fun _=>?_,?_⟩;(· ((try simp only [nc] at *);first|done|omega|exact ⟨by omega,rfl⟩|(simp (disch:=(first|omega|(simp only [lnS];omega))) only [rdT,rdS];first|done|omega|rfl|exact ⟨by omega,rfl⟩|(simp;done)|(simp;omega))|(intros;trivial)));(try (simp only [nc] at *));(try simp (disch:=(first|omega|(simp only [lnS];omega))) only [rdT,rdS]);(try cbv))
  | fail
 )
 all_goals (try simp only [nc] at *)
 all_goals (try simp (disch:=(first|omega|(simp only [lnS];omega))) only [rdT,rdS])
 all_goals simp_all [acqM]
theorem wacq_ok (g : Gr) (a : Nat) (ha : a < nG g) : Pure Tryz.prog γ false 80 [pW g, .i fun _ => (a : Int)] (.b fun _ => acqM ((viewG g).ev.getD a ev0)) := xacq_ok g _ _ _ a (evsG_l g) ha
theorem xrel_ok (g : Gr) (L : List EId) (Es : List Ev) (n a : Nat) (h1 : Es.length = n) (ha : a < n) : Pure Tryz.prog γ false 79 [.vp (fun _ => aV15 g L Es n) 0, .i fun _ => (a : Int)] (.b fun _ => relM (Es.getD a ev0)) := by
 refine Pure.go (ty := ty) ty_eq mo Tryz.func79 rfl Tryz.ntmps79 Tryz.results79 Tryz.call79 (by simp) fun P C CQ D W F E hF => ?_
 cbv
 repeat' (first
  |(refine ⟨fun _ h_s=>?_,fun _ h_s=>?_⟩<;>(cbv;(try simp only [nc] at *);try simp (disch:=(first|omega|(simp only [lnS];omega))) only [rdT,rdS,reduceCtorEq,trT] at h_s))
  |(refine hF ?_;intro _;clear hF)
  |(refine hF ?_;cbv;clear hF)
  |(refine ⟨fun _=>?_,?_⟩;(· ((try simp only [nc] at *);first|done|omega|exact ⟨by omega,rfl⟩|(simp (disch:=(first|omega|(simp only [lnS];omega))) only [rdT,rdS];first|done|omega|rfl|exact ⟨by omega,rfl⟩|(simp;done)|(simp;omega))|(intros;trivial)));(try (simp only [nc] at *));(try simp (disch:=(first|omega|(simp only [lnS];omega))) only [rdT,rdS]);(try cbv))
  | fail
 )
 all_goals (try simp only [nc] at *)
 all_goals (try simp (disch:=(first|omega|(simp only [lnS];omega))) only [rdT,rdS])
 all_goals simp_all [relM]
theorem wrel_ok (g : Gr) (a : Nat) (ha : a < nG g) : Pure Tryz.prog γ false 79 [pW g, .i fun _ => (a : Int)] (.b fun _ => relM ((viewG g).ev.getD a ev0)) := xrel_ok g _ _ _ a (evsG_l g) ha
theorem xloc_ok (g : Gr) (L : List EId) (Es : List Ev) (fr pl : List Int) (n a b : Nat) (h1 : Es.length = n) (ha : a < n) (hb : b < n) : Pure Tryz.prog γ false 39 [.vp (fun _ => aV15 g L Es n) 0, .i fun _ => (a : Int), .i fun _ => (b : Int)] (.b fun _ => locM ⟨L, Es, fr, pl⟩ a b) := by
 refine Pure.go (ty := ty) ty_eq mo Tryz.func39 rfl Tryz.ntmps39 Tryz.results39 Tryz.call39 (by simp) fun P C CQ D W F E hF => ?_
 cbv
 repeat' (first
  |(refine ⟨fun _ h_s=>?_,fun _ h_s=>?_⟩<;>(cbv;(try simp only [nc] at *);try simp (disch:=(first|omega|(simp only [lnS];omega))) only [rdT,rdS,reduceCtorEq,trT] at h_s))
  |(refine hF ?_;intro _;clear hF)
  |(refine hF ?_;cbv;clear hF)
  |(refine ⟨fun _=>?_,?_⟩;(· ((try simp only [nc] at *);first|done|omega|exact ⟨by omega,rfl⟩|(simp (disch:=(first|omega|(simp only [lnS];omega))) only [rdT,rdS];first|done|omega|rfl|exact ⟨by omega,rfl⟩|(simp;done)|(simp;omega))|(intros;trivial)));(try (simp only [nc] at *));(try simp (disch:=(first|omega|(simp only [lnS];omega))) only [rdT,rdS]);(try cbv))
  |(refine E.d 42 (by decide +kernel) ?_;cbv;(fail_if_success guard_target =~ False))
  | fail
 )
 all_goals (try simp only [nc] at *)
 all_goals (try simp (disch:=(first|omega|(simp only [lnS];omega))) only [rdT,rdS])
 all_goals (have e : ((a : Int) = b) ↔ a = b := Int.ofNat_inj; simp_all [locM, nearM, fenceM])
theorem wloc_ok (g : Gr) (a b : Nat) (ha : a < nG g) (hb : b < nG g) : Pure Tryz.prog γ false 39 [pW g, .i fun _ => (a : Int), .i fun _ => (b : Int)] (.b fun _ => locM (viewG g) a b) := xloc_ok g _ _ _ _ _ a b (evsG_l g) ha hb
theorem xpo_ok (g : Gr) (L : List EId) (Es : List Ev) (fr pl : List Int) (n a b : Nat) (h1 : L.length = n) (ha : a < n) (hb : b < n) (pa : 0 ≤ (L.getD a id0).t) (pb : 0 ≤ (L.getD b id0).t) : Pure Tryz.prog γ false 66 [.vp (fun _ => aV15 g L Es n) 0, .i fun _ => (a : Int), .i fun _ => (b : Int)] (.b fun _ => poM ⟨L, Es, fr, pl⟩ a b) := by
 refine Pure.go (ty := ty) ty_eq mo Tryz.func66 rfl Tryz.ntmps66 Tryz.results66 Tryz.call66 (by simp) fun P C CQ D W F E hF => ?_
 cbv
 repeat' (first
  |(refine E.de 17 [] [none,none] (by decide +kernel) ?_;cbv;(fail_if_success guard_target =~ False))
  |(refine ⟨fun _ h_s=>?_,fun _ h_s=>?_⟩<;>(cbv;(try simp only [nc] at *);try simp (disch:=(first|omega|(simp only [lnS];omega))) only [rdT,rdS,reduceCtorEq,trT] at h_s))
  |(refine hF ?_;intro _;clear hF)
  |(refine hF ?_;cbv;clear hF)
  |(refine ⟨fun _=>?_,?_⟩;(· ((try simp only [nc] at *);first|done|omega|exact ⟨by omega,rfl⟩|(simp (disch:=(first|omega|(simp only [lnS];omega))) only [rdT,rdS];first|done|omega|rfl|exact ⟨by omega,rfl⟩|(simp;done)|(simp;omega))|(intros;trivial)));(try (simp only [nc] at *));(try simp (disch:=(first|omega|(simp only [lnS];omega))) only [rdT,rdS]);(try cbv))
  | fail
 )
 all_goals (try simp only [nc] at *)
 all_goals (try simp (disch:=(first|omega|(simp only [lnS];omega))) only [rdT,rdS])
 all_goals (try simp only [poM])
 all_goals grind
end Go.AL.Rl

namespace Go.AL.Rl
open Go Go.AL Go.Proofs
set_option maxRecDepth 100000
set_option maxHeartbeats 1600000
variable {γ : Nat → Option AV}

theorem wpo_ok (g : Gr) (a b : Nat) (ha : a < nG g) (hb : b < nG g) : Pure Tryz.prog γ false 66 [pW g, .i fun _ => (a : Int), .i fun _ => (b : Int)] (.b fun _ => poM (viewG g) a b) := xpo_ok g _ _ _ _ _ a b (idsG_l g) ha hb (ids_pos ha) (ids_pos hb)
theorem wfrom_ok (g : Gr) (h : GOk g) (a : Nat) (ha : a < nG g) : Pure Tryz.prog γ false 78 [pW g, .i fun _ => (a : Int)] (.i fun _ => (viewG g).fr.getD a 0) := by
 have kr := wreads_ok (γ := γ) g a ha
 rw [vfr h a ha]
 have hev := vev h a ha
 cases hr : readsM ((viewG g).ev.getD a ev0) with
 | false =>
  rw [hr] at kr
  have e : frOf g ((idsG g).getD a id0) = -1 := by
   unfold frOf
   rw [hev, Option.getD_some, hr]; simp
  rw [e]
  refine Pure.go (ty := ty) ty_eq mo Tryz.func78 rfl Tryz.ntmps78 Tryz.results78 Tryz.call78 (by simp) fun P C CQ D W F E hF => ?_
  cbv
  repeat' (first
   |(refine E.c (SCalls.of_le (kr) ?_ ?_);(· (cbv;(try simp only [nc] at *);first|done|(simp;done)|(simp (disch:=(first|omega|(simp only [lnS];omega))) only [rdT,rdS,anT];first|done|omega|(refine ⟨?_,?_⟩<;>omega))|(simp (disch:=(first|omega|(simp only [lnS];omega))) [rdT,rdS];done)));cbv)
   |(refine ⟨fun _ h_s=>?_,fun _ h_s=>?_⟩<;>(cbv;(try simp only [nc] at *);try simp (disch:=(first|omega|(simp only [lnS];omega))) only [rdT,rdS,reduceCtorEq,trT] at h_s))
   |(refine hF ?_;intro _;clear hF)
   |(refine hF ?_;cbv;clear hF)
   |(refine ⟨fun _=>?_,?_⟩;(· ((try simp only [nc] at *);first|done|omega|exact ⟨by omega,rfl⟩|(simp (disch:=(first|omega|(simp only [lnS];omega))) only [rdT,rdS];first|done|omega|rfl|exact ⟨by omega,rfl⟩|(simp;done)|(simp;omega))|(intros;trivial)));(try (simp only [nc] at *));(try simp (disch:=(first|omega|(simp only [lnS];omega))) only [rdT,rdS]);(try cbv))
   |(refine E.d 8 (by decide +kernel) ?_;cbv;(fail_if_success guard_target =~ False))
   | fail
  )
  all_goals (try simp only [nc] at *)
  all_goals (try simp (disch:=(first|omega|(simp only [lnS];omega))) only [rdT,rdS])
  all_goals first | rfl | (revert h_s; simp)
 | true =>
  rw [hr] at kr
  have h0 : ((idsG g).getD a id0).t ≠ 0 := fun h0 => by rw [init_reads hev h0] at hr; cases hr
  obtain ⟨w1, w2, w3, w4, w5⟩ := ids_where h ha h0
  have hd : (idsG g).getD a id0 ∈ idsG g := getD_mem ha
  obtain ⟨w, hw, _⟩ := source_mem (src_ok h hd h0) (by rw [hev]; exact hr)
  have hm : srcOf g ((idsG g).getD a id0) ∈ idsG g := idsG_mem.2 (by rw [hw]; rfl)
  have e : frOf g ((idsG g).getD a id0) = (numOf (idsG g) (srcOf g ((idsG g).getD a id0)) : Nat) := by
   unfold frOf
   rw [if_neg h0, hev, Option.getD_some, if_pos hr]
  rw [e]
  have hnd := idsG_nodup g
  have hn : nG g ≤ 62 := (viewG_wf h).small
  unfold pW at kr ⊢
  obtain ⟨L, hL⟩ : ∃ L, L = idsG g := ⟨_, rfl⟩
  have hLn : L.length = nG g := by rw [hL]; rfl
  obtain ⟨n, hnn⟩ : ∃ n, n = nG g := ⟨_, rfl⟩
  rw [← hnn] at ha hn hLn kr ⊢
  rw [← hL] at kr w1 w2 w3 w4 w5 hm hnd ⊢
  obtain ⟨s, hs⟩ : ∃ s, s = srcOf g (L.getD a id0) := ⟨_, rfl⟩
  rw [← hs] at hm ⊢
  have hsd : s = (g.fr.getD ((L.getD a ⟨0, 0⟩).t - 1).toNat []).getD (L.getD a ⟨0, 0⟩).i.toNat ⟨0, 0⟩ := hs
  refine Pure.go (ty := ty) ty_eq mo Tryz.func78 rfl Tryz.ntmps78 Tryz.results78 Tryz.call78 (by simp) fun P C CQ D W F E hF => ?_
  cbv
  repeat' (first
   |(refine E.de 27 [] [none] (by decide +kernel) ?_;cbv;(fail_if_success guard_target =~ False))
   |(refine E.c (SCalls.of_le (kr) ?_ ?_);(· (cbv;(try simp only [nc] at *);first|done|(simp;done)|(simp (disch:=(first|omega|(simp only [lnS];omega))) only [rdT,rdS,anT];first|done|omega|(refine ⟨?_,?_⟩<;>omega))|(simp (disch:=(first|omega|(simp only [lnS];omega))) [rdT,rdS];done)));cbv)
   |(refine ⟨fun _ h_s=>?_,fun _ h_s=>?_⟩<;>(cbv;(try simp only [nc] at *);try simp (disch:=(first|omega|(simp only [lnS];omega))) only [rdT,rdS,reduceCtorEq,trT] at h_s))
   |(refine hF ?_;intro _;clear hF)
   |(refine hF ?_;cbv;clear hF)
   |(refine ⟨fun _=>?_,?_⟩;(· ((try simp only [nc] at *);first|done|omega|exact ⟨by omega,rfl⟩|(simp (disch:=(first|omega|(simp only [lnS];omega))) only [rdT,rdS];first|done|omega|rfl|exact ⟨by omega,rfl⟩|(simp;done)|(simp;omega))|(intros;trivial)));(try (simp only [nc] at *));(try simp (disch:=(first|omega|(simp only [lnS];omega))) only [rdT,rdS]);(try cbv))
   |(refine E.d 8 (by decide +kernel) ?_;cbv;(fail_if_success guard_target =~ False))
   | fail
  )
  skip
  refine E.loopS (ι:=Nat) (fun k=>k≤n∧(∀ j < k,L.getD j ⟨0,0⟩ ≠ s)) (fun k=>n - k) (fun k=>[(6,.i fun _=>((k : Nat) : Int))]) (fun k h=>h) 0 (fun _=>by first|rfl|simp) ⟨Nat.zero_le _,?_⟩ ?_ fun k hk I hI=>?_
  ·intro j hj; omega
  ·cbv; simp
  cbv
  repeat' (first
   |(refine hI (k + 1) ?_ ?_ ?_;rotate_left 1;(· ((try simp only [nc] at *);omega));(cbv;clear hI;(try clear hF);(try simp only [nc] at *);(try simp (disch:=(first|omega|(simp only [lnS];omega))) only [rdT,rdS,← hsd,anT]));rotate_left 1;(try ((try simp only [nc] at *);omega)))
   |(refine ⟨fun _ h_s=>?_,fun _ h_s=>?_⟩<;>(cbv;(try simp only [nc] at *);try simp (disch:=(first|omega|(simp only [lnS];omega))) only [rdT,rdS,← hsd,reduceCtorEq,trT] at h_s))
   |(refine hF ?_;intro _;clear hF)
   |(refine hF ?_;cbv;clear hF)
   |(refine ⟨fun _=>?_,?_⟩;(· ((try simp only [nc] at *);first|done|omega|exact ⟨by omega,rfl⟩|(simp (disch:=(first|omega|(simp only [lnS];omega))) only [rdT,rdS,← hsd];first|done|omega|rfl|exact ⟨by omega,rfl⟩|(simp;done)|(simp;omega))|(intros;trivial)));(try (simp only [nc] at *));(try simp (disch:=(first|omega|(simp only [lnS];omega))) only [rdT,rdS,← hsd]);(try cbv))
   |(refine E.d 8 (by decide +kernel) ?_;cbv;(fail_if_success guard_target =~ False))
   | fail
  )
  ·simp only [Bool.and_true, Bool.and_eq_true, decide_eq_true_eq] at h_s
   have he : L.getD k id0 = s := EId.ext' h_s.1 h_s.2
   have := numOf_at hnd (k := k) (by ((try simp only [nc] at *); omega))
   rw [he] at this
   show (k : Int) = _
   rw [this]
  ·refine ⟨by ((try simp only [nc] at *); omega), fun j hj => ?_⟩
   rcases Nat.lt_or_ge j k with hjk | hjk
   ·exact hk.2 j hjk
   ·have : j = k := by omega
    subst this
    intro he
    rw [he] at h_s
    simp at h_s
  ·push_cast; rfl
  ·exfalso
   exact hk.2 _ (by have := numOf_lt hm; ((try simp only [nc] at *); omega)) (numOf_get hm)
end Go.AL.Rl

namespace Go.AL.Rl
open Go Go.AL Go.Proofs
set_option maxRecDepth 100000
set_option maxHeartbeats 1600000
variable {γ : Nat → Option AV}

theorem wplace_ok (g : Gr) (hg : Rd g) (h : GOk g) (a : Nat) (ha : a < nG g) (hw : writesM ((viewG g).ev.getD a ev0) = true) : Pure Tryz.prog γ false 111 [pW g, .i fun _ => (a : Int)] (.i fun _ => (viewG g).pl.getD a 0) := by
 rw [vpl h a ha]
 have hev : eventM g ((idsG g).getD a id0) = some ((evsG g).getD a ev0) := vev h a ha
 have hw : writesM ((evsG g).getD a ev0) = true := hw
 have hn : nG g ≤ 62 := (viewG_wf h).small
 have hEl := evsG_l g
 have hLn := idsG_l g
 unfold pW
 generalize idsG g = L at *
 generalize evsG g = Es at *
 generalize nG g = n at *
 have hpw := pl_write h hev hw
 have hl : (L.getD a id0).t ≠ 0 → 0 ≤ (Es.getD a ev0).loc ∧ (Es.getD a ev0).loc < g.ord.length := fun h0 => by
  have := fine_loc (event_fine h hev h0) (notFence_w hw)
  rw [h.lord]; exact this
 have hord := ordsAt hg (Es.getD a ev0).loc.toNat
 have hnd : (g.ord.getD (Es.getD a ev0).loc.toNat []).Nodup := by
  by_cases hx : (Es.getD a ev0).loc.toNat < g.init.length
  ·exact ((ordered_iff g _).1 (h.orders _ hx)).1
  ·rw [List.getD_eq_getElem?_getD, List.getElem?_eq_none (by rw [h.lord]; omega)]; simp
 obtain ⟨l, hll⟩ : ∃ l, l = g.ord.getD (Es.getD a ⟨0, 0, 0, 0, 0⟩).loc.toNat [] := ⟨_, rfl⟩
 obtain ⟨p, hp⟩ : ∃ p, p = plOf g (L.getD a id0) := ⟨_, rfl⟩
 rw [← hp] at hpw ⊢
 rw [← hll] at hpw hord hnd
 refine Pure.go (ty := ty) ty_eq mo Tryz.func111 rfl Tryz.ntmps111 Tryz.results111 Tryz.call111 (by simp) fun P C CQ D W F E hF => ?_
 cbv
 skip
 repeat' (first
  |(refine ⟨fun _ h_s=>?_,fun _ h_s=>?_⟩<;>(cbv;(try simp only [nc] at *);try simp (disch:=(first|omega|(simp only [lnS];omega))) only [rdT,rdS,← hll,reduceCtorEq,trT] at h_s))
  |(refine hF ?_;intro _;clear hF)
  |(refine hF ?_;cbv;clear hF)
  |(refine ⟨fun _=>?_,?_⟩;(· ((try simp only [nc] at *);first|done|omega|exact ⟨by omega,rfl⟩|(simp (disch:=(first|omega|(simp only [lnS];omega))) only [rdT,rdS,← hll];first|done|omega|rfl|exact ⟨by omega,rfl⟩|(simp;done)|(simp;omega))|(intros;trivial)));(try (simp only [nc] at *));(try simp (disch:=(first|omega|(simp only [lnS];omega))) only [rdT,rdS,← hll]);(try cbv))
  |(refine E.d 11 (by decide +kernel) ?_;cbv;(fail_if_success guard_target =~ False))
  |(refine E.d 13 (by decide +kernel) ?_;cbv;(fail_if_success guard_target =~ False))
  | fail
 )
 ·rcases hpw with h1 | h1
  ·exact h1.2.symm
  ·exact absurd h_s h1.1
 ·obtain ⟨h0, k0, hk1, hk2, hk3⟩ := hpw.resolve_left fun h1 => h_s h1.1
  have hl' := hl h0
  repeat' (first
   |(refine ⟨fun _ h_s=>?_,fun _ h_s=>?_⟩<;>(cbv;(try simp only [nc] at *);try simp (disch:=(first|omega|(simp only [lnS];omega))) only [rdT,rdS,← hll,reduceCtorEq,trT] at h_s))
   |(refine hF ?_;intro _;clear hF)
   |(refine hF ?_;cbv;clear hF)
   |(refine ⟨fun _=>?_,?_⟩;(· ((try simp only [nc] at *);first|done|omega|exact ⟨by omega,rfl⟩|(simp (disch:=(first|omega|(simp only [lnS];omega))) only [rdT,rdS,← hll];first|done|omega|rfl|exact ⟨by omega,rfl⟩|(simp;done)|(simp;omega))|(intros;trivial)));(try (simp only [nc] at *));(try simp (disch:=(first|omega|(simp only [lnS];omega))) only [rdT,rdS,← hll]);(try cbv))
   |(refine E.d 11 (by decide +kernel) ?_;cbv;(fail_if_success guard_target =~ False))
   |(refine E.d 13 (by decide +kernel) ?_;cbv;(fail_if_success guard_target =~ False))
   | fail
  )
  refine E.loopS (ι:=Nat) (fun k=>k≤l.length∧(k≤k0)) (fun k=>l.length - k) (fun k=>[(6,.i fun _=>((k : Nat) : Int))]) (fun k h=>h) 0 (fun _=>by first|rfl|simp) ⟨Nat.zero_le _,?_⟩ ?_ fun k hk I hI=>?_
  ·omega
  ·cbv; simp
  cbv
  repeat' (first
   |(refine hI (k + 1) ?_ ?_ ?_;rotate_left 1;(· ((try simp only [nc] at *);omega));(cbv;clear hI;(try clear hF);(try simp only [nc] at *);(try simp (disch:=(first|omega|(simp only [lnS];omega))) only [rdT,rdS,← hll,anT]));rotate_left 1;(try ((try simp only [nc] at *);omega)))
   |(refine ⟨fun _ h_s=>?_,fun _ h_s=>?_⟩<;>(cbv;(try simp only [nc] at *);try simp (disch:=(first|omega|(simp only [lnS];omega))) only [rdT,rdS,← hll,reduceCtorEq,trT] at h_s))
   |(refine hF ?_;intro _;clear hF)
   |(refine hF ?_;cbv;clear hF)
   |(refine ⟨fun _=>?_,?_⟩;(· ((try simp only [nc] at *);first|done|omega|exact ⟨by omega,rfl⟩|(simp (disch:=(first|omega|(simp only [lnS];omega))) only [rdT,rdS,← hll];first|done|omega|rfl|exact ⟨by omega,rfl⟩|(simp;done)|(simp;omega))|(intros;trivial)));(try (simp only [nc] at *));(try simp (disch:=(first|omega|(simp only [lnS];omega))) only [rdT,rdS,← hll]);(try cbv))
   |(refine E.d 11 (by decide +kernel) ?_;cbv;(fail_if_success guard_target =~ False))
   |(refine E.d 13 (by decide +kernel) ?_;cbv;(fail_if_success guard_target =~ False))
   | fail
  )
  ·simp only [Bool.and_true, Bool.and_eq_true, decide_eq_true_eq] at h_s
   have he : l.getD k id0 = l.getD k0 id0 := (EId.ext' h_s.1 h_s.2).trans hk3.symm
   have e : k = k0 := getD_inj hnd (by ((try simp only [nc] at *); omega)) hk2 he
   subst e
   show w64 ((k : Int) + 1) = p
   rw [hk1, w64_of (by ((try simp only [nc] at *); omega)) (by ((try simp only [nc] at *); omega))]
  ·refine ⟨by ((try simp only [nc] at *); omega), ?_⟩
   rcases Nat.lt_or_ge k k0 with hlt | hge
   ·omega
   ·exfalso
    have : k = k0 := by omega
    subst this
    rw [hk3] at h_s
    simp at h_s
  ·push_cast; rfl
  ·exfalso; ((try simp only [nc] at *); omega)
theorem wrf_ok (g : Gr) (h : GOk g) (a b : Nat) (ha : a < nG g) (hb : b < nG g) : Pure Tryz.prog γ false 67 [pW g, .i fun _ => (a : Int), .i fun _ => (b : Int)] (.b fun _ => rfM (viewG g) a b) := by
 have k := wfrom_ok (γ := γ) g h b hb
 refine Pure.go (ty := ty) ty_eq mo Tryz.func67 rfl Tryz.ntmps67 Tryz.results67 Tryz.call67 (by simp) fun P C CQ D W F E hF => ?_
 cbv
 repeat' (first
  |((first|refine E.c (SCalls.of_le (k) ?_ ?_)|refine E.q (QCalls.of_le (k) ?_ ?_));(· (cbv;(try simp only [nc] at *);first|done|(simp;done)|(simp (disch:=(first|omega|(simp only [lnS];omega))) only [rdT,rdS,← hll,anT];first|done|omega|(refine ⟨?_,?_⟩<;>omega))|(simp (disch:=(first|omega|(simp only [lnS];omega))) [rdT,rdS,← hll];done)));cbv)
  |(refine ⟨fun _ h_s=>?_,fun _ h_s=>?_⟩<;>(cbv;(try simp only [nc] at *);try simp (disch:=(first|omega|(simp only [lnS];omega))) only [rdT,rdS,← hll,reduceCtorEq,trT] at h_s))
  |(refine hF ?_;intro _;clear hF)
  |(refine hF ?_;cbv;clear hF)
  |(refine ⟨fun _=>?_,?_⟩;(· ((try simp only [nc] at *);first|done|omega|exact ⟨by omega,rfl⟩|(simp (disch:=(first|omega|(simp only [lnS];omega))) only [rdT,rdS,← hll];first|done|omega|rfl|exact ⟨by omega,rfl⟩|(simp;done)|(simp;omega))|(intros;trivial)));(try (simp only [nc] at *));(try simp (disch:=(first|omega|(simp only [lnS];omega))) only [rdT,rdS,← hll]);(try cbv))
  | fail
 )
 all_goals (try simp only [nc] at *)
 all_goals (try simp (disch:=(first|omega|(simp only [lnS];omega))) only [rdT,rdS,← hll])
 all_goals (try simp only [rfM])
end Go.AL.Rl

namespace Go.AL.Rl
open Go Go.AL Go.Proofs
set_option maxRecDepth 100000
set_option maxHeartbeats 1600000
variable {γ : Nat → Option AV}

theorem co_eq {g : Gr} (h : GOk g) (a b : Nat) (ha : a < nG g) (hb : b < nG g) : coM (viewG g) a b = (writesM ((viewG g).ev.getD a ev0) && writesM ((viewG g).ev.getD b ev0) && decide (((viewG g).ev.getD a ev0).loc = ((viewG g).ev.getD b ev0).loc) && decide ((viewG g).pl.getD a 0 < (viewG g).pl.getD b 0)) := by
 rw [Bool.eq_iff_iff]
 unfold coM
 simp only [Bool.and_eq_true, decide_eq_true_eq, pl_iff h a ha]
 constructor
 ·rintro ⟨⟨h1, h2⟩, h3⟩
  have p1 := (pl_iff h a ha).2 h1
  refine ⟨⟨⟨h1, (pl_iff h b hb).1 (by omega)⟩, ?_⟩, h3⟩
  unfold nearM at h2
  simp only [Bool.and_eq_true, decide_eq_true_eq] at h2
  exact h2.2
 ·rintro ⟨⟨⟨h1, h2⟩, h3⟩, h4⟩
  exact ⟨⟨h1, near_of (notFence_w h1) (notFence_w h2) h3⟩, h4⟩
theorem fr_eq {g : Gr} (h : GOk g) (a b : Nat) (ha : a < nG g) : frM (viewG g) a b = (decide (a ≠ b) && readsM ((viewG g).ev.getD a ev0) && coM (viewG g) ((viewG g).fr.getD a 0).toNat b) := by
 unfold frM
 congr 2
 rw [Bool.eq_iff_iff, decide_eq_true_eq, fr_iff h a ha]
theorem wco_ok (g : Gr) (hg : Rd g) (h : GOk g) (a b : Nat) (ha : a < nG g) (hb : b < nG g) : Pure Tryz.prog γ false 68 [pW g, .i fun _ => (a : Int), .i fun _ => (b : Int)] (.b fun _ => coM (viewG g) a b) := by
 have h1 := evsG_l g
 have q1 := wwrites_ok (γ := γ) g a ha
 have q2 := wwrites_ok (γ := γ) g b hb
 have q3 := wplace_ok (γ := γ) g hg h a ha
 have q4 := wplace_ok (γ := γ) g hg h b hb
 rw [co_eq h a b ha hb]
 obtain ⟨wa, hwa⟩ : ∃ w, w = writesM ((viewG g).ev.getD a ev0) := ⟨_, rfl⟩
 obtain ⟨wb, hwb⟩ : ∃ w, w = writesM ((viewG g).ev.getD b ev0) := ⟨_, rfl⟩
 rw [← hwa] at q1 q3 ⊢
 rw [← hwb] at q2 q4 ⊢
 show Pure _ _ _ _ _ (.b fun _ => wa && wb && decide (((evsG g).getD a ev0).loc = ((evsG g).getD b ev0).loc) && decide ((viewG g).pl.getD a 0 < (viewG g).pl.getD b 0))
 generalize (viewG g).pl.getD a 0 = pa at *
 generalize (viewG g).pl.getD b 0 = pb at *
 refine Pure.go (ty := ty) ty_eq mo Tryz.func68 rfl Tryz.ntmps68 Tryz.results68 Tryz.call68 (by simp) fun P C CQ D W F E hF => ?_
 cbv
 repeat' (first
  |((first|refine E.c (SCalls.of_le (q4 (by assumption)) ?_ ?_)|refine E.q (QCalls.of_le (q4 (by assumption)) ?_ ?_));(· (cbv;(try simp only [nc] at *);first|done|(simp;done)|(simp (disch:=(first|omega|(simp only [lnS];omega))) only [rdT,rdS,anT];first|done|omega|(refine ⟨?_,?_⟩<;>omega))|(simp (disch:=(first|omega|(simp only [lnS];omega))) [rdT,rdS];done)));cbv)
  |((first|refine E.c (SCalls.of_le (q3 (by assumption)) ?_ ?_)|refine E.q (QCalls.of_le (q3 (by assumption)) ?_ ?_));(· (cbv;(try simp only [nc] at *);first|done|(simp;done)|(simp (disch:=(first|omega|(simp only [lnS];omega))) only [rdT,rdS,anT];first|done|omega|(refine ⟨?_,?_⟩<;>omega))|(simp (disch:=(first|omega|(simp only [lnS];omega))) [rdT,rdS];done)));cbv)
  |((first|refine E.c (SCalls.of_le (q2) ?_ ?_)|refine E.q (QCalls.of_le (q2) ?_ ?_));(· (cbv;(try simp only [nc] at *);first|done|(simp;done)|(simp (disch:=(first|omega|(simp only [lnS];omega))) only [rdT,rdS,anT];first|done|omega|(refine ⟨?_,?_⟩<;>omega))|(simp (disch:=(first|omega|(simp only [lnS];omega))) [rdT,rdS];done)));cbv)
  |((first|refine E.c (SCalls.of_le (q1) ?_ ?_)|refine E.q (QCalls.of_le (q1) ?_ ?_));(· (cbv;(try simp only [nc] at *);first|done|(simp;done)|(simp (disch:=(first|omega|(simp only [lnS];omega))) only [rdT,rdS,anT];first|done|omega|(refine ⟨?_,?_⟩<;>omega))|(simp (disch:=(first|omega|(simp only [lnS];omega))) [rdT,rdS];done)));cbv)
  |(refine ⟨fun _ h_s=>?_,fun _ h_s=>?_⟩<;>(cbv;(try simp only [nc] at *);try simp (disch:=(first|omega|(simp only [lnS];omega))) only [rdT,rdS,reduceCtorEq,trT] at h_s))
  |(refine hF ?_;intro _;clear hF)
  |(refine hF ?_;cbv;clear hF)
  |(refine ⟨fun _=>?_,?_⟩;(· ((try simp only [nc] at *);first|done|omega|exact ⟨by omega,rfl⟩|(simp (disch:=(first|omega|(simp only [lnS];omega))) only [rdT,rdS];first|done|omega|rfl|exact ⟨by omega,rfl⟩|(simp;done)|(simp;omega))|(intros;trivial)));(try (simp only [nc] at *));(try simp (disch:=(first|omega|(simp only [lnS];omega))) only [rdT,rdS]);(try cbv))
  |(refine E.d 33 (by decide +kernel) ?_;cbv;(fail_if_success guard_target =~ False))
  | fail
 )
 all_goals (try simp only [nc] at *)
 all_goals (try simp (disch:=(first|omega|(simp only [lnS];omega))) only [rdT,rdS])
 all_goals clear q1 q2 q3 q4
 all_goals simp_all
theorem wfr_ok (g : Gr) (hg : Rd g) (h : GOk g) (a b : Nat) (ha : a < nG g) (hb : b < nG g) : Pure Tryz.prog γ false 69 [pW g, .i fun _ => (a : Int), .i fun _ => (b : Int)] (.b fun _ => frM (viewG g) a b) := by
 have q1 := wreads_ok (γ := γ) g a ha
 have q2 := wfrom_ok (γ := γ) g h a ha
 have hi := fr_iff h a ha
 have hl := (viewG_wf h).frl a ha
 have q3 := fun h0 : 0 ≤ (viewG g).fr.getD a 0 => wco_ok (γ := γ) g hg h ((viewG g).fr.getD a 0).toNat b (by omega) hb
 rw [fr_eq h a b ha]
 obtain ⟨c, hc⟩ : ∃ c, c = coM (viewG g) ((viewG g).fr.getD a 0).toNat b := ⟨_, rfl⟩
 rw [← hc] at q3 ⊢
 obtain ⟨r, hr⟩ : ∃ w, w = readsM ((viewG g).ev.getD a ev0) := ⟨_, rfl⟩
 rw [← hr] at q1 hi ⊢
 generalize (viewG g).fr.getD a 0 = f at *
 have q4 : r = true → Pure Tryz.prog γ false 68 [pW g, .i fun _ => f, .i fun _ => (b : Int)] (.b fun _ => c) := fun hr => by
  have := q3 (hi.2 hr)
  rwa [Int.toNat_of_nonneg (hi.2 hr)] at this
 refine Pure.go (ty := ty) ty_eq mo Tryz.func69 rfl Tryz.ntmps69 Tryz.results69 Tryz.call69 (by simp) fun P C CQ D W F E hF => ?_
 cbv
 repeat' (first
  |(refine E.c (SCalls.of_le (q4 (by assumption)) ?_ ?_);(· (cbv;(try simp only [nc] at *);first|done|(simp;done)|(simp (disch:=(first|omega|(simp only [lnS];omega))) only [rdT,rdS,anT];first|done|omega|(refine ⟨?_,?_⟩<;>omega))|(simp (disch:=(first|omega|(simp only [lnS];omega))) [rdT,rdS];done)));cbv)
  |(refine E.c (SCalls.of_le (q2) ?_ ?_);(· (cbv;(try simp only [nc] at *);first|done|(simp;done)|(simp (disch:=(first|omega|(simp only [lnS];omega))) only [rdT,rdS,anT];first|done|omega|(refine ⟨?_,?_⟩<;>omega))|(simp (disch:=(first|omega|(simp only [lnS];omega))) [rdT,rdS];done)));cbv)
  |(refine E.c (SCalls.of_le (q1) ?_ ?_);(· (cbv;(try simp only [nc] at *);first|done|(simp;done)|(simp (disch:=(first|omega|(simp only [lnS];omega))) only [rdT,rdS,anT];first|done|omega|(refine ⟨?_,?_⟩<;>omega))|(simp (disch:=(first|omega|(simp only [lnS];omega))) [rdT,rdS];done)));cbv)
  |(refine ⟨fun _ h_s=>?_,fun _ h_s=>?_⟩<;>(cbv;(try simp only [nc] at *);try simp (disch:=(first|omega|(simp only [lnS];omega))) only [rdT,rdS,reduceCtorEq,trT] at h_s))
  |(refine hF ?_;intro _;clear hF)
  |(refine hF ?_;cbv;clear hF)
  |(refine ⟨fun _=>?_,?_⟩;(· ((try simp only [nc] at *);first|done|omega|exact ⟨by omega,rfl⟩|(simp (disch:=(first|omega|(simp only [lnS];omega))) only [rdT,rdS];first|done|omega|rfl|exact ⟨by omega,rfl⟩|(simp;done)|(simp;omega))|(intros;trivial)));(try (simp only [nc] at *));(try simp (disch:=(first|omega|(simp only [lnS];omega))) only [rdT,rdS]);(try cbv))
  | fail
 )
 all_goals (try simp only [nc] at *)
 all_goals (try simp (disch:=(first|omega|(simp only [lnS];omega))) only [rdT,rdS])
 all_goals clear q1 q2 q3 q4
 all_goals (have e : ((a : Int) = b) ↔ a = b := Int.ofNat_inj; simp_all)
end Go.AL.Rl

namespace Go.AL.Rl
open Go Go.AL Go.Proofs
set_option maxRecDepth 100000
set_option maxHeartbeats 1600000
variable {γ : Nat → Option AV}

end Go.AL.Rl

namespace Go.AL.Rl
open Go Go.AL Go.Proofs
set_option maxRecDepth 100000
set_option maxHeartbeats 1600000
variable {γ : Nat → Option AV}

def closedTo (V : Vw) (s : BitVec 64) (i : Nat) : Prop := ∀ j < i, (V.ev.getD j ev0).kind = 3 → s.getLsbD (V.fr.getD j 0).toNat = true → s.getLsbD j = true
theorem mod2_bit0 (x : BitVec 64) (i : Nat) : (x >>> i) % BitVec.ofInt 64 2 = 0#64 ↔ x.getLsbD i = false := by
 rw [← BitVec.toNat_inj, BitVec.toNat_umod, BitVec.toNat_ushiftRight, BitVec.getLsbD, Nat.testBit_eq_decide_div_mod_eq, decide_eq_false_iff_not, Nat.shiftRight_eq_div_pow]
 show x.toNat / 2 ^ i % 2 = 0 ↔ ¬ x.toNat / 2 ^ i % 2 = 1
 omega
theorem wsequence_ok (g : Gr) (h : GOk g) (w : Nat) (hw : w < nG g) : Pure Tryz.prog γ false 76 [pW g, .i fun _ => (w : Int)] (.u fun _ => seqM (viewG g) (nG g) w) := by
 have hn := (viewG_wf h).small
 have h64 : nG g ≤ 64 := by omega
 have hbw := bofInt (k := w) (by omega)
 have ew : w % 18446744073709551616 = w := Nat.mod_eq_of_lt (by omega)
 have hEl := evsG_l g
 have hVl : (viewG g).ev = evsG g := rfl
 have hfrom := fun i hi => wfrom_ok (γ := γ) g h i hi
 have hfr0 := fun i hi => fr_iff h i hi
 have hfrl := (viewG_wf h).frl
 refine Pure.go (ty := ty) ty_eq mo Tryz.func76 rfl Tryz.ntmps76 Tryz.results76 Tryz.call76 (by simp) fun P C CQ D W F E hF => ?_
 cbv
 repeat' (first
  |(refine ⟨fun _ h_s=>?_,fun _ h_s=>?_⟩<;>(cbv;(try simp only [nc] at *);try simp (disch:=(first|omega|(simp only [lnS];omega))) only [rdT,rdS,reduceCtorEq,trT] at h_s))
  |(refine hF ?_;intro _;clear hF)
  |(refine hF ?_;cbv;clear hF)
  |(refine ⟨fun _=>?_,?_⟩;(· ((try simp only [nc] at *);first|done|omega|exact ⟨by omega,rfl⟩|(simp (disch:=(first|omega|(simp only [lnS];omega))) only [rdT,rdS];first|done|omega|rfl|exact ⟨by omega,rfl⟩|(simp;done)|(simp;omega))|(intros;trivial)));(try (simp only [nc] at *));(try simp (disch:=(first|omega|(simp only [lnS];omega))) only [rdT,rdS]);(try cbv))
  | fail
 )
 refine E.loopS (ι:=BitVec 64 × Bool) (fun q=>q.1.getLsbD w = true∧(∀ j,q.1.getLsbD j = true → InSeq (viewG g) (nG g) w j)∧(q.2 = false → closedTo (viewG g) q.1 (nG g))) (fun q=>2 * (64 - cntB 64 q.1) + if q.2 = true then 1 else 0) (fun q=>[(5,.u fun _=>q.1),(6,.b fun _=>q.2)]) (fun q h=>h) (1#64 <<< w,true) (fun _=>rfl) ?_ ?_ fun q hq I hI=>?_
 ·refine ⟨?_, fun j hj => ?_, fun hf => by cases hf⟩
  ·simp only; rw [BitVec.getLsbD_shiftLeft, BitVec.getLsbD_one]; simp; omega
  ·simp only at hj
   rw [BitVec.getLsbD_shiftLeft, BitVec.getLsbD_one] at hj
   simp at hj
   obtain rfl : j = w := by omega
   exact .base
 ·cbv
  simp only [hbw, bof0, bof1]
  simp
 obtain ⟨s, ag⟩ := q
 obtain ⟨hq1, hq2, hq3⟩ := hq
 simp only at hq1 hq2 hq3
 cbv
 repeat' (first
  |(refine ⟨fun _ h_s=>?_,fun _ h_s=>?_⟩<;>(cbv;(try simp only [nc] at *);try simp (disch:=(first|omega|(simp only [lnS];omega))) only [rdT,rdS,reduceCtorEq,trT] at h_s))
  |(refine hF ?_;intro _;clear hF)
  |(refine hF ?_;cbv;clear hF)
  |(refine ⟨fun _=>?_,?_⟩;(· ((try simp only [nc] at *);first|done|omega|exact ⟨by omega,rfl⟩|(simp (disch:=(first|omega|(simp only [lnS];omega))) only [rdT,rdS];first|done|omega|rfl|exact ⟨by omega,rfl⟩|(simp;done)|(simp;omega))|(intros;trivial)));(try (simp only [nc] at *));(try simp (disch:=(first|omega|(simp only [lnS];omega))) only [rdT,rdS]);(try cbv))
  | fail
 )
 ·have hag : ag = true := by simpa using h_s
  subst hag
  refine E.loopS (ι:=Nat × BitVec 64 × Bool) (fun p=>p.1≤nG g∧p.2.1.getLsbD w = true∧(∀ j,s.getLsbD j = true → p.2.1.getLsbD j = true)∧(∀ j,p.2.1.getLsbD j = true → InSeq (viewG g) (nG g) w j)∧(p.2.2 = false → p.2.1 = s∧closedTo (viewG g) s p.1)∧(p.2.2 = true → p.2.1 ≠ s)) (fun p=>nG g - p.1) (fun p=>[(5,.u fun _=>p.2.1),(6,.b fun _=>p.2.2),(7,.i fun _=>((p.1 : Nat) : Int))]) (fun p h=>h) (0,s,false) (fun _=>rfl) ?_ ?_ fun p hp I2 hI2=>?_
  ·exact ⟨Nat.zero_le _, hq1, fun _ h => h, hq2, fun _ => ⟨rfl, fun j hj => absurd hj (Nat.not_lt_zero j)⟩, fun hf => by cases hf⟩
  ·cbv; simp
  obtain ⟨i, t, b⟩ := p
  obtain ⟨hp0, hp1, hp2, hp3, hp4, hp5⟩ := hp
  simp only at hp0 hp1 hp2 hp3 hp4 hp5
  cbv
  have kf := hfrom i
  have hbi := bofInt (k := i) (by omega)
  have eim : i % 18446744073709551616 = i := Nat.mod_eq_of_lt (by omega)
  have hstep : i < nG g → ((viewG g).ev.getD i ev0).kind = 3 → t.getLsbD ((viewG g).fr.getD i 0).toNat = true → InSeq (viewG g) (nG g) w i := fun h1 h2 h3 => .step h1 h2 (hp3 _ h3)
  have hnext : i < nG g → (((viewG g).ev.getD i ev0).kind = 3 → t.getLsbD i = false → t.getLsbD ((viewG g).fr.getD i 0).toNat = false) → (i + 1 ≤ nG g ∧ t.getLsbD w = true ∧ (∀ j, s.getLsbD j = true → t.getLsbD j = true) ∧ (∀ j, t.getLsbD j = true → InSeq (viewG g) (nG g) w j) ∧ (b = false → t = s ∧ closedTo (viewG g) s (i + 1)) ∧ (b = true → t ≠ s)) := fun h1 h2 => by
   refine ⟨h1, hp1, hp2, hp3, fun hb => ⟨(hp4 hb).1, fun j hj hk hs => ?_⟩, hp5⟩
   rcases Nat.lt_or_ge j i with hji | hji
   ·exact (hp4 hb).2 j hji hk hs
   ·have : j = i := by omega
    subst this
    cases hc : s.getLsbD j with
    | true => rfl
    | false =>
     have e := (hp4 hb).1
     have := h2 hk (by rw [e]; exact hc)
     rw [e, hs] at this; cases this
  repeat' (first
   |(refine E.c (SCalls.of_le (kf (by ((try simp only [nc] at *);omega))) ?_ ?_);(· (cbv;(try simp only [nc] at *);first|done|(simp;done)|(simp (disch:=(first|omega|(simp only [lnS];omega))) only [rdT,rdS,anT];first|done|omega|(refine ⟨?_,?_⟩<;>omega))|(simp (disch:=(first|omega|(simp only [lnS];omega))) [rdT,rdS];done)));cbv)
   |(refine ⟨fun _ h_s=>?_,fun _ h_s=>?_⟩<;>(cbv;(try simp only [nc] at *);try simp (disch:=(first|omega|(simp only [lnS];omega))) only [rdT,rdS,reduceCtorEq,trT] at h_s))
   |(refine hF ?_;intro _;clear hF)
   |(refine hF ?_;cbv;clear hF)
   |(refine ⟨fun _=>?_,?_⟩;(· ((try simp only [nc] at *);first|done|omega|exact ⟨by omega,rfl⟩|(simp (disch:=(first|omega|(simp only [lnS];omega))) only [rdT,rdS];first|done|omega|rfl|exact ⟨by omega,rfl⟩|(simp;done)|(simp;omega))|(intros;trivial)));(try (simp only [nc] at *));(try simp (disch:=(first|omega|(simp only [lnS];omega))) only [rdT,rdS]);(try cbv))
   | fail
  )
  ·have hk3 : ((viewG g).ev.getD i ev0).kind = 3 := by assumption
   have hin : i < nG g := by ((try simp only [nc] at *); omega)
   have hf0 : 0 ≤ (viewG g).fr.getD i 0 := (hfr0 i hin).2 (by unfold readsM; rw [hk3]; rfl)
   have hb0 : t.getLsbD i = false := (mod2_bit0 t i).1 (by assumption)
   rw [bofZ hf0 (by have := hfrl i hin; omega), mod2_bit] at h_s
   have hbit : ∀ j, (t ||| 1#64 <<< i).getLsbD j = (t.getLsbD j || (1#64 <<< i).getLsbD j) := fun j => BitVec.getLsbD_or
   have hii : (1#64 <<< i).getLsbD i = true := by rw [one_shl_bit i i (by omega)]; simp
   refine hI2 (i + 1, t ||| 1#64 <<< i, true) ⟨hin, ?_, fun j hj => ?_, fun j hj => ?_, fun hf => (by cases hf), fun _ he => ?_⟩ (by simp only; omega) ?_
   ·simp only; rw [hbit, hp1]; rfl
   ·simp only; rw [hbit, hp2 j hj]; rfl
   ·simp only at hj
    rw [hbit, Bool.or_eq_true] at hj
    rcases hj with hj | hj
    ·exact hp3 j hj
    ·have hj64 : j < 64 := by
      rcases Nat.lt_or_ge j 64 with h' | h'
      ·exact h'
      ·rw [BitVec.getLsbD_of_ge _ _ h'] at hj; cases hj
     rw [one_shl_bit i j hj64] at hj
     have : i = j := by simpa using hj
     subst this
     exact hstep hin hk3 h_s
   ·simp only at he
    have h1 : s.getLsbD i = true := by rw [← he, hbit, hii]; simp
    rw [hp2 i h1] at hb0; cases hb0
   ·cbv
    clear hI hI2 kf hfrom
    have e := w64_of (n := (i : Int) + 1) (by omega) (by omega)
    (try simp only [nc] at *)
    simp [e, ew, eim]
  ·have hin : i < nG g := by ((try simp only [nc] at *); omega)
   refine hI2 (i + 1, t, b) (hnext hin fun hk3 hb0 => ?_) (by simp only; omega) ?_
   ·have hf0 : 0 ≤ (viewG g).fr.getD i 0 := (hfr0 i hin).2 (by unfold readsM; rw [hk3]; rfl)
    rw [bofZ hf0 (by have := hfrl i hin; omega), mod2_bit] at h_s
    simpa using h_s
   ·cbv
    clear hI hI2 kf hfrom
    have e := w64_of (n := (i : Int) + 1) (by omega) (by omega)
    (try simp only [nc] at *)
    simp [e, ew, eim]
  ·have hin : i < nG g := by ((try simp only [nc] at *); omega)
   refine hI2 (i + 1, t, b) (hnext hin fun hk3 hb0 => ?_) (by simp only; omega) ?_
   ·exfalso
    exact h_s ((mod2_bit0 t i).2 hb0)
   ·cbv
    clear hI hI2 kf hfrom
    have e := w64_of (n := (i : Int) + 1) (by omega) (by omega)
    (try simp only [nc] at *)
    simp [e, ew, eim]
  ·have hin : i < nG g := by ((try simp only [nc] at *); omega)
   refine hI2 (i + 1, t, b) (hnext hin fun hk3 hb0 => absurd hk3 h_s) (by simp only; omega) ?_
   cbv
   clear hI hI2 kf hfrom
   have e := w64_of (n := (i : Int) + 1) (by omega) (by omega)
   (try simp only [nc] at *)
   simp [e, ew, eim]
  ·have ei : i = nG g := by ((try simp only [nc] at *); omega)
   refine hI (t, b) ⟨hp1, hp3, fun hb => ?_⟩ ?_ ?_
   ·rw [(hp4 hb).1, ← ei]; exact (hp4 hb).2
   ·simp only
    have c1 := cntB_le s 64
    have c2 := cntB_le t 64
    cases b with
    | false => rw [(hp4 rfl).1]; simp
    | true => have := cntB_ne hp2 (Ne.symm (hp5 rfl)); simp; omega
   ·cbv
    clear hI hI2 kf hfrom
    simp [ew]
 ·have hag : ag = false := by simpa using h_s
  exact seq_unique h64 hw hq1 hq2 (hq3 hag)
end Go.AL.Rl

namespace Go.AL.Rl
open Go Go.AL Go.Proofs
set_option maxRecDepth 100000
set_option maxHeartbeats 1600000
variable {γ : Nat → Option AV}

end Go.AL.Rl

namespace Go.AL.Rl
open Go Go.AL Go.Proofs
set_option maxRecDepth 100000
set_option maxHeartbeats 3200000
variable {γ : Nat → Option AV}

structure RV where
 n : Int
 rows : List (BitVec 64)
 sh : Int
 ids : List EId
 evs : List Ev
def aRV (v : RV) : AV := .agg [.i fun _ => v.n, .vs 1 fun _ => us v.rows, .i fun _ => v.sh, .vs 2 fun _ => ids v.ids, .vs 5 fun _ => evs v.evs]
def rv0 : RV := ⟨0, [], 0, [], []⟩
noncomputable def rvG (g : Gr) : RV := ⟨(nG g : Nat), hbF (viewG g) (nG g), (g.init.length : Nat), idsT g g.th.length, evsT g g.th.length⟩
noncomputable def rvO (g : Gr) : RV := if GOk g then rvG g else rv0
theorem rlook_no (g : Gr) (hg : Rd g) (h : ¬ GOk g) : Pure Tryz.prog γ false 20 [aGr g] (.tup [aRV rv0, .b fun _ => false]) := by
 have kd := dAll_no (γ := γ) g hg h
 refine Pure.go (ty := ty) ty_eq mo Tryz.func20 rfl Tryz.ntmps20 Tryz.results20 Tryz.call20 (by simp) fun P C CQ D W F E hF => ?_
 cbv
 repeat' (first
  |(refine E.c (SCalls.of_le (kd) ?_ ?_);(· (cbv;(try simp only [nc] at *);first|done|(simp;done)|(simp (disch:=(first|omega|(simp only [lnS];omega))) only [rdT,rdS,anT];first|done|omega|(refine ⟨?_,?_⟩<;>omega))|(simp (disch:=(first|omega|(simp only [lnS];omega))) [rdT,rdS];done)));cbv)
  |(refine ⟨fun _ h_s=>?_,fun _ h_s=>?_⟩<;>(cbv;(try simp only [nc] at *);try simp (disch:=(first|omega|(simp only [lnS];omega))) only [rdT,rdS,reduceCtorEq,trT] at h_s))
  |(refine hF ?_;intro _;clear hF)
  |(refine hF ?_;cbv;clear hF)
  |(refine ⟨fun _=>?_,?_⟩;(· ((try simp only [nc] at *);first|done|omega|exact ⟨by omega,rfl⟩|(simp (disch:=(first|omega|(simp only [lnS];omega))) only [rdT,rdS];first|done|omega|rfl|exact ⟨by omega,rfl⟩|(simp;done)|(simp;omega))|(intros;trivial)));(try (simp only [nc] at *));(try simp (disch:=(first|omega|(simp only [lnS];omega))) only [rdT,rdS]);(try cbv))
  | fail
 )
 all_goals first
  | (exfalso; revert h_s; simp; done)
  | (simp [is, us, ids, evs, rv0]; done)
theorem rlook_yes (g : Gr) (hg : Rd g) (h : GOk g) : Pure Tryz.prog γ false 20 [aGr g] (.tup [aRV (rvG g), .b fun _ => true]) := by
 have kd := dAll_yes (γ := γ) g hg h
 have hs := h.short
 have hin := h.short.init
 have hth := h.short.th
 have hle : ∀ t, (g.th.getD t []).length ≤ 14 := hs.at
 unfold rvG
 generalize poF (viewG g) (nG g) = q1 at *
 generalize rfF (viewG g) (nG g) = q2 at *
 generalize coF (viewG g) (nG g) = q3 at *
 generalize frF (viewG g) (nG g) = q4 at *
 generalize swF (viewG g) (nG g) = q5 at *
 generalize ecoF (viewG g) (nG g) = q6 at *
 generalize porfF (viewG g) (nG g) = q7 at *
 generalize hbF (viewG g) (nG g) = q8 at *
 generalize locF (viewG g) (nG g) = q9 at *
 obtain ⟨L, hL⟩ : ∃ L : Nat → Nat → List EId, ∀ t i, L t i = idsT g t ++ idsE t i := ⟨_, fun _ _ => rfl⟩
 obtain ⟨M, hM⟩ : ∃ M : Nat → Nat → List Ev, ∀ t i, M t i = evsT g t ++ (g.th.getD t []).take i := ⟨_, fun _ _ => rfl⟩
 have l0 : L 0 0 = [] := by rw [hL]; rfl
 have m0 : M 0 0 = [] := by rw [hM]; rfl
 have mS : ∀ t i, L t (i + 1) = L t i ++ [⟨t + 1, i⟩] := fun t i => by rw [hL, hL, idsE_succ]; simp only [List.append_assoc]
 have mE : ∀ t, L t (g.th.getD t []).length = L (t + 1) 0 := fun t => by rw [hL, hL, idsT_succ]; simp [idsE]
 have mF : L g.th.length 0 = idsT g g.th.length := by rw [hL]; simp [idsE]
 have vS : ∀ t i, i < (g.th.getD t []).length → M t (i + 1) = M t i ++ [(g.th.getD t []).getD i ev0] := fun t i hi => by
  rw [hM, hM]
  generalize g.th.getD t [] = l at hi ⊢
  rw [← List.take_append_getElem hi, ← List.append_assoc]
  simp [hi]
 have vE : ∀ t, M t (g.th.getD t []).length = M (t + 1) 0 := fun t => by rw [hM, hM, evsT_succ]; simp
 have vF : M g.th.length 0 = evsT g g.th.length := by rw [hM]; simp
 have mL : ∀ t i, (L t i).length ≤ 14 * t + i := fun t i => by
  have := evsT_len hs t
  rw [hL]; simp only [List.length_append, idsE_len, idsT_len]; omega
 have vL : ∀ t i, (M t i).length ≤ 14 * t + i := fun t i => by
  have := evsT_len hs t
  rw [hM]; simp only [List.length_append, List.length_take]; omega
 obtain ⟨G, hG⟩ : ∃ G : List EId → Nat, ∀ l, G l = l.length := ⟨_, fun _ => rfl⟩
 obtain ⟨G2, hG2⟩ : ∃ G : List Ev → Nat, ∀ l, G l = l.length := ⟨_, fun _ => rfl⟩
 have hG0 : G [] = 0 := by rw [hG]; rfl
 have hG20 : G2 [] = 0 := by rw [hG2]; rfl
 obtain ⟨gi, hgi⟩ : ∃ gi : Nat, gi = g.init.length := ⟨_, rfl⟩
 rw [← mF, ← vF, ← hgi]
 generalize nG g = n at *
 refine Pure.go (ty := ty) ty_eq mo Tryz.func20 rfl Tryz.ntmps20 Tryz.results20 Tryz.call20 (by simp) fun P C CQ D W F E hF => ?_
 cbv
 repeat' (first
  |(refine E.c (SCalls.of_le (kd) ?_ ?_);(· (cbv;(try simp only [nc] at *);first|done|(simp;done)|(simp (disch:=(first|omega|(simp only [lnS];omega))) only [rdT,rdS,anT];first|done|omega|(refine ⟨?_,?_⟩<;>omega))|(simp (disch:=(first|omega|(simp only [lnS];omega))) [rdT,rdS];done)));cbv)
  |(refine ⟨fun _ h_s=>?_,fun _ h_s=>?_⟩<;>(cbv;(try simp only [nc] at *);try simp (disch:=(first|omega|(simp only [lnS];omega))) only [rdT,rdS,reduceCtorEq,trT] at h_s))
  |(refine hF ?_;intro _;clear hF)
  |(refine hF ?_;cbv;clear hF)
  |(refine ⟨fun _=>?_,?_⟩;(· ((try simp only [nc] at *);first|done|omega|exact ⟨by omega,rfl⟩|(simp (disch:=(first|omega|(simp only [lnS];omega))) only [rdT,rdS];first|done|omega|rfl|exact ⟨by omega,rfl⟩|(simp;done)|(simp;omega))|(intros;trivial)));(try (simp only [nc] at *));(try simp (disch:=(first|omega|(simp only [lnS];omega))) only [rdT,rdS]);(try cbv))
  | fail
 )
 ·exact absurd trivial h_s
 clear kd
 refine E.w (AWP.ghostField 3 3 2 rfl rfl ?_)
 refine AWP.ghostField 3 4 5 rfl rfl ?_
 refine E.loopSA (ι:=Nat) (fun t=>t≤g.th.length) (fun t=>g.th.length - t) (fun t=>[(29,.i fun _=>((t : Nat) : Int))]) (fun t h=>((h.set 3 (.box (.agg [.i fun _=>(n : Int),.vs 1 fun _=>us q8,.i fun _=>(gi : Int),.sl 4 (G (L t 0)) 2 (fun _=>0) fun _=>(L t 0).length,.sl 5 (G2 (M t 0)) 5 (fun _=>0) fun _=>(M t 0).length]))).set 4 (.run (G (L t 0)) 2 fun _=>ids (L t 0))).set 5 (.run (G2 (M t 0)) 5 fun _=>evs (M t 0))) 0 (fun _=>by first|rfl|simp) (Nat.zero_le _) ?_ fun t ht I1 hI1=>?_
 ·cbv; simp [l0, hG0, m0, hG20, ids, evs, LV.of, hgi]
 cbv
 have hgt := hle t
 repeat' (first
  |(refine ⟨fun _ h_s=>?_,fun _ h_s=>?_⟩<;>(cbv;(try simp only [nc] at *);try simp (disch:=(first|omega|(simp only [lnS];omega))) only [rdT,rdS,reduceCtorEq,trT] at h_s))
  |(refine hF ?_;intro _;clear hF)
  |(refine hF ?_;cbv;clear hF)
  |(refine ⟨fun _=>?_,?_⟩;(· ((try simp only [nc] at *);first|done|omega|exact ⟨by omega,rfl⟩|(simp (disch:=(first|omega|(simp only [lnS];omega))) only [rdT,rdS];first|done|omega|rfl|exact ⟨by omega,rfl⟩|(simp;done)|(simp;omega))|(intros;trivial)));(try (simp only [nc] at *));(try simp (disch:=(first|omega|(simp only [lnS];omega))) only [rdT,rdS]);(try cbv))
  | fail
 )
 ·refine E.loopS (ι:=Nat) (fun i=>i≤(g.th.getD t []).length) (fun i=>(g.th.getD t []).length - i) (fun i=>[(36,.i fun _=>((i : Nat) : Int))]) (fun i h=>((h.set 3 (.box (.agg [.i fun _=>(n : Int),.vs 1 fun _=>us q8,.i fun _=>(gi : Int),.sl 4 (G (L t i)) 2 (fun _=>0) fun _=>(L t i).length,.sl 5 (G2 (M t i)) 5 (fun _=>0) fun _=>(M t i).length]))).set 4 (.run (G (L t i)) 2 fun _=>ids (L t i))).set 5 (.run (G2 (M t i)) 5 fun _=>evs (M t i))) 0 (fun _=>by first|rfl|simp) (Nat.zero_le _) ?_ fun i hi I2 hI2=>?_
  ·cbv; simp
  cbv
  have f1 := mS t i
  have f2 := mL t i
  have f3 := mE t
  have f4 := vS t i
  have f5 := vL t i
  have f6 := vE t
  skip
  repeat' (first
   |(refine hI1 (t + 1) ?_ ?_ ?_;rotate_left 1;(· ((try simp only [nc] at *);omega));(cbv;clear hI1;(try clear hF);(try simp only [nc] at *);(try simp (disch:=(first|omega|(simp only [lnS];omega))) only [rdT,rdS,anT]));rotate_left 1;(try ((try simp only [nc] at *);omega)))
   |(refine hI2 (i + 1) ?_ ?_ ?_;rotate_left 1;(· ((try simp only [nc] at *);omega));(cbv;clear hI2;(try clear hF);(try simp only [nc] at *);(try simp (disch:=(first|omega|(simp only [lnS];omega))) only [rdT,rdS,anT]));rotate_left 1;(try ((try simp only [nc] at *);omega)))
   |(refine ⟨fun _ h_s=>?_,fun _ h_s=>?_⟩<;>(cbv;(try simp only [nc] at *);try simp (disch:=(first|omega|(simp only [lnS];omega))) only [rdT,rdS,reduceCtorEq,trT] at h_s))
   |(refine hF ?_;intro _;clear hF)
   |(refine hF ?_;cbv;clear hF)
   |(refine ⟨fun _=>?_,?_⟩;(· ((try simp only [nc] at *);first|done|omega|exact ⟨by omega,rfl⟩|(simp (disch:=(first|omega|(simp only [lnS];omega))) only [rdT,rdS];first|done|omega|rfl|exact ⟨by omega,rfl⟩|(simp;done)|(simp;omega))|(intros;trivial)|exact ⟨by first|trivial|rfl,by first|trivial|rfl|simp,by first|trivial|simp,by simp;omega,by simp;omega,by simp [AV.flat,AV.cells,AV.one]⟩));(try (simp only [nc] at *));(try simp (disch:=(first|omega|(simp only [lnS];omega))) only [rdT,rdS]);(try cbv))
   | fail
  )
  ·have f4 := f4 (by ((try simp only [nc] at *); omega))
   simp [hG, hG2, f1, f4, ids, evs, setAll, AV.nrm, nrms, nrm1, List.getD_eq_getElem?_getD, aEv, ev0]
  ·have e : i = (g.th.getD t []).length := by ((try simp only [nc] at *); omega)
   subst e
   rw [f3, f6]
   exact ⟨by push_cast; rfl, ⟨⟨rfl, rfl⟩, rfl, rfl⟩, ⟨rfl, rfl⟩, rfl, rfl⟩
 ·have et : t = g.th.length := by ((try simp only [nc] at *); omega)
  subst et
  simp [hgi]
  exact ⟨List.take_of_length_le (by simp), List.take_of_length_le (by simp)⟩
theorem rlook_ok (g : Gr) (hg : Rd g) : Pure Tryz.prog γ false 20 [aGr g] (.tup [aRV (rvO g), .b fun _ => decide (GOk g)]) := by
 unfold rvO
 by_cases h : GOk g
 ·rw [if_pos h, decide_eq_true h]; exact rlook_yes g hg h
 ·rw [if_neg h, decide_eq_false h]; exact rlook_no g hg h

/-- a view of race that hangs together -/
structure RWf (v : RV) : Prop where
 len : v.evs.length = v.ids.length
 sh : 0 ≤ v.sh
 big : v.sh + v.ids.length ≤ v.rows.length
 small : v.rows.length ≤ 64
def rAt (v : RV) (a : Nat) : Ev := v.evs.getD a ev0
def rAhead (v : RV) (a b : Nat) : Bool := bit v.rows (a + v.sh.toNat) (b + v.sh.toNat)
def rWr (e : Ev) : Bool := decide (e.kind = 2) || decide (e.kind = 3)
def rPl (e : Ev) : Bool := decide (e.order = 1)
def oneM (v : RV) (a b : Nat) : Bool :=
 !(decide ((v.ids.getD a id0).t = (v.ids.getD b id0).t) || (decide ((rAt v a).kind = 4) || decide ((rAt v b).kind = 4)) || decide ((rAt v a).loc ≠ (rAt v b).loc)) &&
 ((rWr (rAt v a) || rWr (rAt v b)) && (rPl (rAt v a) || rPl (rAt v b)) && !rAhead v a b && !rAhead v b a)
section
variable (v : RV) (hv : RWf v)
include hv
theorem rwr_ok (a : Nat) (ha : a < v.ids.length) : Pure Tryz.prog γ false 50 [aRV v, .i fun _ => (a : Int)] (.b fun _ => rWr (rAt v a)) := by
 have h1 := hv.len
 refine Pure.go (ty := ty) ty_eq mo Tryz.func50 rfl Tryz.ntmps50 Tryz.results50 Tryz.call50 (by simp) fun P C CQ D W F E hF => ?_
 cbv
 repeat' (first
  |(refine ⟨fun _ h_s=>?_,fun _ h_s=>?_⟩<;>(cbv;(try simp only [nc] at *);try simp (disch:=(first|omega|(simp only [lnS];omega))) only [rdT,rdS,reduceCtorEq,trT] at h_s))
  |(refine hF ?_;intro _;clear hF)
  |(refine hF ?_;cbv;clear hF)
  |(refine ⟨fun _=>?_,?_⟩;(· ((try simp only [nc] at *);first|done|omega|exact ⟨by omega,rfl⟩|(simp (disch:=(first|omega|(simp only [lnS];omega))) only [rdT,rdS];first|done|omega|rfl|exact ⟨by omega,rfl⟩|(simp;done)|(simp;omega))|(intros;trivial)|exact ⟨by first|trivial|rfl,by first|trivial|rfl|simp,by first|trivial|simp,by simp;omega,by simp;omega,by simp [AV.flat,AV.cells,AV.one]⟩));(try (simp only [nc] at *));(try simp (disch:=(first|omega|(simp only [lnS];omega))) only [rdT,rdS]);(try cbv))
  | fail
 )
 all_goals (try simp only [nc] at *)
 all_goals (try simp (disch:=(first|omega|(simp only [lnS];omega))) only [rdT,rdS])
 all_goals simp_all [rWr, rAt, ev0]
theorem rpl_ok (a : Nat) (ha : a < v.ids.length) : Pure Tryz.prog γ false 32 [aRV v, .i fun _ => (a : Int)] (.b fun _ => rPl (rAt v a)) := by
 have h1 := hv.len
 refine Pure.go (ty := ty) ty_eq mo Tryz.func32 rfl Tryz.ntmps32 Tryz.results32 Tryz.call32 (by simp) fun P C CQ D W F E hF => ?_
 cbv
 repeat' (first
  |(refine ⟨fun _ h_s=>?_,fun _ h_s=>?_⟩<;>(cbv;(try simp only [nc] at *);try simp (disch:=(first|omega|(simp only [lnS];omega))) only [rdT,rdS,reduceCtorEq,trT] at h_s))
  |(refine hF ?_;intro _;clear hF)
  |(refine hF ?_;cbv;clear hF)
  |(refine ⟨fun _=>?_,?_⟩;(· ((try simp only [nc] at *);first|done|omega|exact ⟨by omega,rfl⟩|(simp (disch:=(first|omega|(simp only [lnS];omega))) only [rdT,rdS];first|done|omega|rfl|exact ⟨by omega,rfl⟩|(simp;done)|(simp;omega))|(intros;trivial)|exact ⟨by first|trivial|rfl,by first|trivial|rfl|simp,by first|trivial|simp,by simp;omega,by simp;omega,by simp [AV.flat,AV.cells,AV.one]⟩));(try (simp only [nc] at *));(try simp (disch:=(first|omega|(simp only [lnS];omega))) only [rdT,rdS]);(try cbv))
  | fail
 )
 all_goals (try simp only [nc] at *)
 all_goals (try simp (disch:=(first|omega|(simp only [lnS];omega))) only [rdT,rdS])
 all_goals simp_all [rPl, rAt, ev0]
theorem rfe_ok (a : Nat) (ha : a < v.ids.length) : Pure Tryz.prog γ false 49 [.i fun _ => (a : Int), .vp (fun _ => aRV v) 0] (.b fun _ => decide ((rAt v a).kind = 4)) := by
 have h1 := hv.len
 unfold aRV
 refine Pure.go (ty := ty) ty_eq mo Tryz.func49 rfl Tryz.ntmps49 Tryz.results49 Tryz.call49 (by simp) fun P C CQ D W F E hF => ?_
 cbv
 repeat' (first
  |(refine ⟨fun _ h_s=>?_,fun _ h_s=>?_⟩<;>(cbv;(try simp only [nc] at *);try simp (disch:=(first|omega|(simp only [lnS];omega))) only [rdT,rdS,reduceCtorEq,trT] at h_s))
  |(refine hF ?_;intro _;clear hF)
  |(refine hF ?_;cbv;clear hF)
  |(refine ⟨fun _=>?_,?_⟩;(· ((try simp only [nc] at *);first|done|omega|exact ⟨by omega,rfl⟩|(simp (disch:=(first|omega|(simp only [lnS];omega))) only [rdT,rdS];first|done|omega|rfl|exact ⟨by omega,rfl⟩|(simp;done)|(simp;omega))|(intros;trivial)|exact ⟨by first|trivial|rfl,by first|trivial|rfl|simp,by first|trivial|simp,by simp;omega,by simp;omega,by simp [AV.flat,AV.cells,AV.one]⟩));(try (simp only [nc] at *));(try simp (disch:=(first|omega|(simp only [lnS];omega))) only [rdT,rdS]);(try cbv))
  | fail
 )
 all_goals (try simp only [nc] at *)
 all_goals (try simp (disch:=(first|omega|(simp only [lnS];omega))) only [rdT,rdS])
 all_goals simp_all [rAt, ev0]
theorem rah_ok (a b : Nat) (ha : a < v.ids.length) (hb : b < v.ids.length) : Pure Tryz.prog γ false 51 [aRV v, .i fun _ => (a : Int), .i fun _ => (b : Int)] (.b fun _ => rAhead v a b) := by
 have h1 := hv.len
 have h2 := hv.sh
 have h3 := hv.big
 have h4 := hv.small
 refine Pure.go (ty := ty) ty_eq mo Tryz.func51 rfl Tryz.ntmps51 Tryz.results51 Tryz.call51 (by simp) fun P C CQ D W F E hF => ?_
 cbv
 repeat' (first
  |(refine ⟨fun _ h_s=>?_,fun _ h_s=>?_⟩<;>(cbv;(try simp only [nc] at *);try simp (disch:=(first|omega|(simp only [lnS];omega))) only [rdT,rdS,reduceCtorEq,trT] at h_s))
  |(refine hF ?_;intro _;clear hF)
  |(refine hF ?_;cbv;clear hF)
  |(refine ⟨fun _=>?_,?_⟩;(· ((try simp only [nc] at *);first|done|omega|exact ⟨by omega,rfl⟩|(simp (disch:=(first|omega|(simp only [lnS];omega))) only [rdT,rdS];first|done|omega|rfl|exact ⟨by omega,rfl⟩|(simp;done)|(simp;omega))|(intros;trivial)|exact ⟨by first|trivial|rfl,by first|trivial|rfl|simp,by first|trivial|simp,by simp;omega,by simp;omega,by simp [AV.flat,AV.cells,AV.one]⟩));(try (simp only [nc] at *));(try simp (disch:=(first|omega|(simp only [lnS];omega))) only [rdT,rdS]);(try cbv))
  |(refine E.d 13 (by decide +kernel) ?_;cbv;(fail_if_success guard_target =~ False))
  | fail
 )
 all_goals (try simp only [nc] at *)
 all_goals (try simp (disch:=(first|omega|(simp only [lnS];omega))) only [rdT,rdS])
 unfold rAhead
 rw [show ((a : Int) + v.sh).toNat = a + v.sh.toNat by omega, show ((b : Int) + v.sh).toNat = b + v.sh.toNat by omega]
 rw [decide_not]
 exact getLsb_and1 _ _
end
theorem reitherA_ok (v : RV) (f : Nat) (p : Nat → Bool) (m : Nat) (hp : ∀ a < m, Pure Tryz.prog γ false f [aRV v, .i fun _ => (a : Int)] (.b fun _ => p a)) (a b : Nat) (ha : a < m) (hb : b < m) :
  Pure Tryz.prog γ false 48 [.fn f [aRV v] [], .vp (fun _ => .i fun _ => (a : Int)) 0, .vp (fun _ => .i fun _ => (b : Int)) 0] (.b fun _ => p a || p b) := by
 have h1 := hp a ha
 have h2 := hp b hb
 unfold aRV at *
 refine Pure.go (ty := ty) ty_eq mo Tryz.func48 rfl Tryz.ntmps48 Tryz.results48 Tryz.call48 (by simp) fun P C CQ D W F E hF => ?_
 cbv
 repeat' (first
  |(refine E.c (SCalls.of_le (h2) ?_ ?_);(· (cbv;(try simp only [nc] at *);first|done|(simp;done)|(simp (disch:=(first|omega|(simp only [lnS];omega))) only [rdT,rdS,anT];first|done|omega|(refine ⟨?_,?_⟩<;>omega))|(simp (disch:=(first|omega|(simp only [lnS];omega))) [rdT,rdS];done)));cbv)
  |(refine E.c (SCalls.of_le (h1) ?_ ?_);(· (cbv;(try simp only [nc] at *);first|done|(simp;done)|(simp (disch:=(first|omega|(simp only [lnS];omega))) only [rdT,rdS,anT];first|done|omega|(refine ⟨?_,?_⟩<;>omega))|(simp (disch:=(first|omega|(simp only [lnS];omega))) [rdT,rdS];done)));cbv)
  |(refine ⟨fun _ h_s=>?_,fun _ h_s=>?_⟩<;>(cbv;(try simp only [nc] at *);try simp (disch:=(first|omega|(simp only [lnS];omega))) only [rdT,rdS,reduceCtorEq,trT] at h_s))
  |(refine hF ?_;intro _;clear hF)
  |(refine hF ?_;cbv;clear hF)
  |(refine ⟨fun _=>?_,?_⟩;(· ((try simp only [nc] at *);first|done|omega|exact ⟨by omega,rfl⟩|(simp (disch:=(first|omega|(simp only [lnS];omega))) only [rdT,rdS];first|done|omega|rfl|exact ⟨by omega,rfl⟩|(simp;done)|(simp;omega))|(intros;trivial)|exact ⟨by first|trivial|rfl,by first|trivial|rfl|simp,by first|trivial|simp,by simp;omega,by simp;omega,by simp [AV.flat,AV.cells,AV.one]⟩));(try (simp only [nc] at *));(try simp (disch:=(first|omega|(simp only [lnS];omega))) only [rdT,rdS]);(try cbv))
  | fail
 )
 all_goals (try simp only [nc] at *)
 all_goals (try simp (disch:=(first|omega|(simp only [lnS];omega))) only [rdT,rdS])
 all_goals simp_all
theorem reitherB_ok (v : RV) (f : Nat) (p : Nat → Bool) (m : Nat) (hp : ∀ a < m, Pure Tryz.prog γ false f [.i fun _ => (a : Int), .vp (fun _ => aRV v) 0] (.b fun _ => p a)) (a b : Nat) (ha : a < m) (hb : b < m) :
  Pure Tryz.prog γ false 48 [.fn f [] [.vp (fun _ => aRV v) 0], .vp (fun _ => .i fun _ => (a : Int)) 0, .vp (fun _ => .i fun _ => (b : Int)) 0] (.b fun _ => p a || p b) := by
 have h1 := hp a ha
 have h2 := hp b hb
 unfold aRV at *
 refine Pure.go (ty := ty) ty_eq mo Tryz.func48 rfl Tryz.ntmps48 Tryz.results48 Tryz.call48 (by simp) fun P C CQ D W F E hF => ?_
 cbv
 repeat' (first
  |(refine E.c (SCalls.of_le (h2) ?_ ?_);(· (cbv;(try simp only [nc] at *);first|done|(simp;done)|(simp (disch:=(first|omega|(simp only [lnS];omega))) only [rdT,rdS,anT];first|done|omega|(refine ⟨?_,?_⟩<;>omega))|(simp (disch:=(first|omega|(simp only [lnS];omega))) [rdT,rdS];done)));cbv)
  |(refine E.c (SCalls.of_le (h1) ?_ ?_);(· (cbv;(try simp only [nc] at *);first|done|(simp;done)|(simp (disch:=(first|omega|(simp only [lnS];omega))) only [rdT,rdS,anT];first|done|omega|(refine ⟨?_,?_⟩<;>omega))|(simp (disch:=(first|omega|(simp only [lnS];omega))) [rdT,rdS];done)));cbv)
  |(refine ⟨fun _ h_s=>?_,fun _ h_s=>?_⟩<;>(cbv;(try simp only [nc] at *);try simp (disch:=(first|omega|(simp only [lnS];omega))) only [rdT,rdS,reduceCtorEq,trT] at h_s))
  |(refine hF ?_;intro _;clear hF)
  |(refine hF ?_;cbv;clear hF)
  |(refine ⟨fun _=>?_,?_⟩;(· ((try simp only [nc] at *);first|done|omega|exact ⟨by omega,rfl⟩|(simp (disch:=(first|omega|(simp only [lnS];omega))) only [rdT,rdS];first|done|omega|rfl|exact ⟨by omega,rfl⟩|(simp;done)|(simp;omega))|(intros;trivial)|exact ⟨by first|trivial|rfl,by first|trivial|rfl|simp,by first|trivial|simp,by simp;omega,by simp;omega,by simp [AV.flat,AV.cells,AV.one]⟩));(try (simp only [nc] at *));(try simp (disch:=(first|omega|(simp only [lnS];omega))) only [rdT,rdS]);(try cbv))
  | fail
 )
 all_goals (try simp only [nc] at *)
 all_goals (try simp (disch:=(first|omega|(simp only [lnS];omega))) only [rdT,rdS])
 all_goals simp_all
theorem rone_ok (v : RV) (hv : RWf v) (a b : Nat) (ha : a < v.ids.length) (hb : b < v.ids.length) : Pure Tryz.prog γ false 29 [aRV v, .i fun _ => (a : Int), .i fun _ => (b : Int)] (.b fun _ => oneM v a b) := by
 have h1 := hv.len
 have k1 := reitherB_ok (γ := γ) v 49 _ v.ids.length (rfe_ok v hv) a b ha hb
 have k2 := reitherA_ok (γ := γ) v 50 _ v.ids.length (rwr_ok v hv) a b ha hb
 have k3 := reitherA_ok (γ := γ) v 32 _ v.ids.length (rpl_ok v hv) a b ha hb
 have k4 := rah_ok (γ := γ) v hv a b ha hb
 have k5 := rah_ok (γ := γ) v hv b a hb ha
 unfold oneM
 generalize rAhead v a b = x1 at *
 generalize rAhead v b a = x2 at *
 unfold aRV at *
 refine Pure.go (ty := ty) ty_eq mo Tryz.func29 rfl Tryz.ntmps29 Tryz.results29 Tryz.call29 (by simp) fun P C CQ D W F E hF => ?_
 cbv
 repeat' (first
  |((first|refine E.c (SCalls.of_le (k5) ?_ ?_)|refine E.q (QCalls.of_le (k5) ?_ ?_));(· (cbv;(try simp only [nc] at *);first|done|(simp;done)|(simp (disch:=(first|omega|(simp only [lnS];omega))) only [rdT,rdS,anT];first|done|omega|(refine ⟨?_,?_⟩<;>omega))|(simp (disch:=(first|omega|(simp only [lnS];omega))) [rdT,rdS];done)));cbv)
  |((first|refine E.c (SCalls.of_le (k4) ?_ ?_)|refine E.q (QCalls.of_le (k4) ?_ ?_));(· (cbv;(try simp only [nc] at *);first|done|(simp;done)|(simp (disch:=(first|omega|(simp only [lnS];omega))) only [rdT,rdS,anT];first|done|omega|(refine ⟨?_,?_⟩<;>omega))|(simp (disch:=(first|omega|(simp only [lnS];omega))) [rdT,rdS];done)));cbv)
  |(refine E.c (SCalls.of_bare (k3) rfl ?_ ?_);(· (cbv;(try simp only [nc] at *);first|done|(simp;done)|(simp (disch:=(first|omega|(simp only [lnS];omega))) only [rdT,rdS,anT];first|done|omega|(refine ⟨?_,?_⟩<;>omega))|(simp (disch:=(first|omega|(simp only [lnS];omega))) [rdT,rdS];done)));cbv)
  |(refine E.q (QCalls.of_bare (k3) rfl ?_ ?_);(· (cbv;(try simp only [nc] at *);first|done|(simp;done)|(simp (disch:=(first|omega|(simp only [lnS];omega))) only [rdT,rdS,anT];first|done|omega|(refine ⟨?_,?_⟩<;>omega))|(simp (disch:=(first|omega|(simp only [lnS];omega))) [rdT,rdS];done)));cbv)
  |(refine E.c (SCalls.of_bare (k2) rfl ?_ ?_);(· (cbv;(try simp only [nc] at *);first|done|(simp;done)|(simp (disch:=(first|omega|(simp only [lnS];omega))) only [rdT,rdS,anT];first|done|omega|(refine ⟨?_,?_⟩<;>omega))|(simp (disch:=(first|omega|(simp only [lnS];omega))) [rdT,rdS];done)));cbv)
  |(refine E.q (QCalls.of_bare (k2) rfl ?_ ?_);(· (cbv;(try simp only [nc] at *);first|done|(simp;done)|(simp (disch:=(first|omega|(simp only [lnS];omega))) only [rdT,rdS,anT];first|done|omega|(refine ⟨?_,?_⟩<;>omega))|(simp (disch:=(first|omega|(simp only [lnS];omega))) [rdT,rdS];done)));cbv)
  |(refine E.c (SCalls.of_bare (k1) rfl ?_ ?_);(· (cbv;(try simp only [nc] at *);first|done|(simp;done)|(simp (disch:=(first|omega|(simp only [lnS];omega))) only [rdT,rdS,anT];first|done|omega|(refine ⟨?_,?_⟩<;>omega))|(simp (disch:=(first|omega|(simp only [lnS];omega))) [rdT,rdS];done)));cbv)
  |(refine E.q (QCalls.of_bare (k1) rfl ?_ ?_);(· (cbv;(try simp only [nc] at *);first|done|(simp;done)|(simp (disch:=(first|omega|(simp only [lnS];omega))) only [rdT,rdS,anT];first|done|omega|(refine ⟨?_,?_⟩<;>omega))|(simp (disch:=(first|omega|(simp only [lnS];omega))) [rdT,rdS];done)));cbv)
  |(refine ⟨fun _ h_s=>?_,fun _ h_s=>?_⟩<;>(cbv;(try simp only [nc] at *);try simp (disch:=(first|omega|(simp only [lnS];omega))) only [rdT,rdS,reduceCtorEq,trT] at h_s))
  |(refine hF ?_;intro _;clear hF)
  |(refine hF ?_;cbv;clear hF)
  |(refine ⟨fun _=>?_,?_⟩;(· ((try simp only [nc] at *);first|done|omega|exact ⟨by omega,rfl⟩|(simp (disch:=(first|omega|(simp only [lnS];omega))) only [rdT,rdS];first|done|omega|rfl|exact ⟨by omega,rfl⟩|(simp;done)|(simp;omega))|(intros;trivial)|exact ⟨by first|trivial|rfl,by first|trivial|rfl|simp,by first|trivial|simp,by simp;omega,by simp;omega,by simp [AV.flat,AV.cells,AV.one]⟩));(try (simp only [nc] at *));(try simp (disch:=(first|omega|(simp only [lnS];omega))) only [rdT,rdS]);(try cbv))
  |(refine E.d 31 (by decide +kernel) ?_;cbv;(fail_if_success guard_target =~ False))
  | fail
 )
 all_goals (try simp only [nc] at *)
 all_goals (try simp (disch:=(first|omega|(simp only [lnS];omega))) only [rdT,rdS])
 all_goals (try (simp_all [rAt, ev0, id0]; done))
 all_goals (simp_all [rAt, ev0, id0]; intros; omega)
end Go.AL.Rl

namespace Go.AL.Rl
open Go Go.AL Go.Proofs
set_option maxRecDepth 100000
set_option maxHeartbeats 3200000
variable {γ : Nat → Option AV}

def rpB (v : RV) (a : Nat) : Nat → List (Nat × Nat)
 | 0 => []
 | b + 1 => rpB v a b ++ (if a < b ∧ oneM v a b = true then [(a, b)] else [])
def rpA (v : RV) (m : Nat) : Nat → List (Nat × Nat)
 | 0 => []
 | a + 1 => rpA v m a ++ rpB v a m
theorem rpB_low (v : RV) (a : Nat) : ∀ b, b ≤ a + 1 → rpB v a b = []
 | 0, _ => rfl
 | b + 1, h => by
  rw [rpB, rpB_low v a b (by omega), if_neg (by omega)]; rfl
theorem rpB_len (v : RV) (a : Nat) : ∀ b, (rpB v a b).length ≤ b
 | 0 => by simp [rpB]
 | b + 1 => by
  rw [rpB, List.length_append]
  have := rpB_len v a b
  split <;> simp <;> omega
theorem rpA_len (v : RV) (m : Nat) : ∀ a, (rpA v m a).length ≤ a * m
 | 0 => by simp [rpA]
 | a + 1 => by
  rw [rpA, List.length_append, Nat.succ_mul]
  have := rpA_len v m a
  have := rpB_len v a m
  omega
structure Rc where
 loc : Int
 a : EId
 b : EId
deriving DecidableEq
abbrev aRc (r : Rc) : AV := .agg [.i fun _ => r.loc, .i fun _ => r.a.t, .i fun _ => r.a.i, .i fun _ => r.b.t, .i fun _ => r.b.i]
def rcs (l : List Rc) : LV := LV.of (l.map aRc)
@[simp] theorem rcs_len (l : List Rc) : (rcs l).l.length = l.length := by simp [rcs]
abbrev rc0 : Rc := ⟨0, id0, id0⟩
theorem rcs_at (l : List Rc) (i : Nat) (h : i < l.length) : (rcs l).l.getD i .any = aRc (l.getD i rc0) := by simp [rcs, h, List.getD_eq_getElem?_getD]
def rcOf (v : RV) (p : Nat × Nat) : Rc := ⟨(rAt v p.1).loc, v.ids.getD p.1 id0, v.ids.getD p.2 id0⟩
/-- the heap of All while races are put -/
def hpA (g : Gr) (v : RV) (n : Nat) (L : List Rc) (l D : Nat) (oR oD : Obj) (s : Tr) (t : Array Value) : List Blk :=
 [.box (aGr g), .box (aRV v), .box (.sl 3 n 5 (fun _ => 0) fun _ => L.length), .run n 5 fun _ => rcs L, .obj D oD .nil #[], .obj l oR s t]
theorem YCall.mono {P : Program} {l : Nat} {args : List AV} {h : List Blk} {Q Q' : AV → List Blk → Prop} (hy : YCall P γ l args h Q) (hq : ∀ v h, Q v h → Q' v h) : YCall P γ l args h Q' := fun B S ρ w vals h1 h2 => by
 obtain ⟨f, tm, asg, bd, k1, k2⟩ := hy B S ρ w vals h1 h2
 exact ⟨f, tm, asg, bd, k1, fun n => (k2 n).mono fun e w' ⟨v, h', S', ρ', v', q1, q2, q3⟩ => ⟨v, h', S', ρ', v', q1, hq _ _ q2, q3⟩⟩
theorem YCall.to {P : Program} {l : Nat} {args args' : List AV} {h h' h2 : List Blk} {x : AV} {Q : AV → List Blk → Prop} (hy : YCall P γ l args' h' fun v h => v = x ∧ h = h2) (hn : h'.length = h.length) (ha : leVs h.length args' args) (hh : leH h.length h' h) (hq : Q x h2) : YCall P γ l args h Q := fun B S ρ w vals hr hv => by
 have h1 := hr.le hh hn
 have h2 := Rs_le _ _ _ ha hv
 have e : ρ.take h.length = ρ := List.take_of_length_le (by rw [hr.len]; exact Nat.le_refl _)
 rw [e] at h1 h2
 obtain ⟨f, tm, asg, bd, k1, k2⟩ := hy B S ρ w vals h1 h2
 exact ⟨f, tm, asg, bd, k1, fun n => (k2 n).mono fun e w' ⟨v, h', S', ρ', v', q1, ⟨q2, q3⟩, q4⟩ => ⟨v, h', S', ρ', v', q1, by rw [q2, q3]; exact hq, q4⟩⟩
theorem allA_ok (g : Gr) (v : RV) (hv : RWf v) (hsm : v.ids.length ≤ 64) (l D : Nat) (oR oD : Obj) (s : Tr) (t : Array Value) (hT : leT 6 s s) (G : List (Nat × Nat) → Nat)
  (hy : ∀ (pre : List (Nat × Nat)) (a b : Nat), b < v.ids.length → a < b → oneM v a b = true → pre.length ≤ 4096 → YCall Tryz.prog γ l [.i fun _ => (a : Int), .i fun _ => (b : Int)] (hpA g v (G pre) (pre.map (rcOf v)) l D oR oD s t) (fun x h => x = .tt ∧ h = hpA g v (G (pre ++ [(a, b)])) ((pre ++ [(a, b)]).map (rcOf v)) l D oR oD s t)) :
  SCalls Tryz.prog γ 34 [.raw (.func (.yield l) #[] #[]), .vp (fun _ => aRV v) 0] (hpA g v (G []) [] l D oR oD s t) (Post (.tup []) (hpA g v (G (rpA v v.ids.length v.ids.length)) ((rpA v v.ids.length v.ids.length).map (rcOf v)) l D oR oD s t)) := by
 have h1 := hv.len
 have k1 := fun (a b : Nat) (ha : a < v.ids.length) (hb : b < v.ids.length) => rone_ok (γ := γ) v hv a b ha hb
 have lA := rpA_len v v.ids.length
 have lB := fun a => rpB_len v a v.ids.length
 obtain ⟨N, hN⟩ : ∃ N, N = v.ids.length := ⟨_, rfl⟩
 rw [← hN] at hsm hy k1 lA lB ⊢
 unfold aRV hpA at *
 generalize hI : v.ids = I at *
 generalize v.evs = Es at *
 generalize v.rows = Rw at *
 generalize v.sh = Sh at *
 generalize v.n = Vn at *
 have hT2 := hT
 cbv at hT2
 have hA0 : rpA v N 0 = [] := rfl
 have hAS := fun a => show rpA v N (a + 1) = rpA v N a ++ rpB v a N from rfl
 have hBS := fun a b => show rpB v a (b + 1) = rpB v a b ++ (if a < b ∧ oneM v a b = true then [(a, b)] else []) from rfl
 have hBl := rpB_low v
 have lAB : ∀ a b, a < N → b ≤ N → (rpA v N a ++ rpB v a b).length ≤ 4096 := fun a b ha hb => by
  have q1 := lA a
  have q2 := rpB_len v a b
  have q3 := Nat.mul_le_mul (show a ≤ 63 by omega) hsm
  rw [List.length_append]
  omega
 refine SCalls.go (ty := ty) ty_eq mo Tryz.func34 rfl Tryz.ntmps34 Tryz.results34 Tryz.call34 (by simp) fun P C CQ D W F E hF => ?_
 cbv
 skip
 repeat' (first
  |(refine ⟨fun _ h_s=>?_,fun _ h_s=>?_⟩<;>(cbv;(try simp only [nc] at *);try simp (disch:=(first|omega|(simp only [lnS];omega))) only [rdT,rdS,hT2,reduceCtorEq,trT] at h_s))
  |(refine hF ?_;intro _;clear hF)
  |(refine hF ?_;cbv;clear hF)
  |(refine ⟨fun _=>?_,?_⟩;(· ((try simp only [nc] at *);first|done|omega|exact ⟨by omega,rfl⟩|(simp (disch:=(first|omega|(simp only [lnS];omega))) only [rdT,rdS,hT2];first|done|omega|rfl|exact ⟨by omega,rfl⟩|(simp;done)|(simp;omega))|(intros;trivial)));(try (simp only [nc] at *));(try simp (disch:=(first|omega|(simp only [lnS];omega))) only [rdT,rdS,hT2]);(try cbv))
  | fail
 )
 refine E.loopS (ι:=Nat) (fun a=>a≤N) (fun a=>N - a) (fun a=>[(8,.i fun _=>((a : Nat) : Int))]) (fun a h=>(h.set 2 (.box (.sl 3 (G (rpA v N a)) 5 (fun _=>0) fun _=>((rpA v N a).map (rcOf v)).length))).set 3 (.run (G (rpA v N a)) 5 fun _=>rcs ((rpA v N a).map (rcOf v)))) 0 (fun _=>by first|rfl|simp) (Nat.zero_le _) ?_ fun a ha I1 hI1=>?_
 ·cbv; simp [hT2, hA0]
 cbv
 repeat' (first
  |(refine ⟨fun _ h_s=>?_,fun _ h_s=>?_⟩<;>(cbv;(try simp only [nc] at *);try simp (disch:=(first|omega|(simp only [lnS];omega))) only [rdT,rdS,hT2,reduceCtorEq,trT] at h_s))
  |(refine hF ?_;intro _;clear hF)
  |(refine hF ?_;cbv;clear hF)
  |(refine ⟨fun _=>?_,?_⟩;(· ((try simp only [nc] at *);first|done|omega|exact ⟨by omega,rfl⟩|(simp (disch:=(first|omega|(simp only [lnS];omega))) only [rdT,rdS,hT2];first|done|omega|rfl|exact ⟨by omega,rfl⟩|(simp;done)|(simp;omega))|(intros;trivial)));(try (simp only [nc] at *));(try simp (disch:=(first|omega|(simp only [lnS];omega))) only [rdT,rdS,hT2]);(try cbv))
  | fail
 )
 ·refine E.loopS (ι:=Nat) (fun b=>a + 1≤b∧b≤N) (fun b=>N - b) (fun b=>[(4,.i fun _=>((b : Nat) : Int))]) (fun b h=>(h.set 2 (.box (.sl 3 (G (rpA v N a ++ rpB v a b)) 5 (fun _=>0) fun _=>((rpA v N a ++ rpB v a b).map (rcOf v)).length))).set 3 (.run (G (rpA v N a ++ rpB v a b)) 5 fun _=>rcs ((rpA v N a ++ rpB v a b).map (rcOf v)))) (a + 1) (fun _=>by first|rfl|simp) ?_ ?_ fun b hb I2 hI2=>?_
  ·((try simp only [nc] at *); omega)
  ·cbv; simp [hT2, hBl]; exact w64_of (by omega) (by omega)
  cbv
  repeat' (first
   |(refine hI1 (a + 1) ?_ ?_ ?_;rotate_left 1;(· ((try simp only [nc] at *);omega));(cbv;clear hI1;(try clear hF);(try simp only [nc] at *);(try simp (disch:=(first|omega|(simp only [lnS];omega))) only [rdT,rdS,hT2,anT]));rotate_left 1;(try ((try simp only [nc] at *);omega)))
   |(refine hI2 (b + 1) ?_ ?_ ?_;rotate_left 1;(· ((try simp only [nc] at *);omega));(cbv;clear hI2;(try clear hF);(try simp only [nc] at *);(try simp (disch:=(first|omega|(simp only [lnS];omega))) only [rdT,rdS,hT2,anT]));rotate_left 1;(try ((try simp only [nc] at *);omega)))
   | (refine E.y (YCall.to (hy (rpA v N a ++ rpB v a b) a b (by ((try simp only [nc] at *); omega)) (by ((try simp only [nc] at *); omega)) (by assumption) (lAB a b (by ((try simp only [nc] at *); omega)) (by ((try simp only [nc] at *); omega)))) (by cbv) (by cbv; simp) (by cbv; simp [hT2]) ?_); cbv)
   |(refine E.c (SCalls.of_le (k1 a b (by ((try simp only [nc] at *);omega)) (by ((try simp only [nc] at *);omega))) ?_ ?_);(· (cbv;(try simp only [nc] at *);first|done|(simp;done)|(simp (disch:=(first|omega|(simp only [lnS];omega))) only [rdT,rdS,hT2,anT];first|done|omega|(refine ⟨?_,?_⟩<;>omega))|(simp (disch:=(first|omega|(simp only [lnS];omega))) [rdT,rdS,hT2];done)));cbv)
   |(refine ⟨fun _ h_s=>?_,fun _ h_s=>?_⟩<;>(cbv;(try simp only [nc] at *);try simp (disch:=(first|omega|(simp only [lnS];omega))) only [rdT,rdS,hT2,reduceCtorEq,trT] at h_s))
   |(refine hF ?_;intro _;clear hF)
   |(refine hF ?_;cbv;clear hF)
   |(refine ⟨fun _=>?_,?_⟩;(· ((try simp only [nc] at *);first|done|omega|exact ⟨by omega,rfl⟩|(simp (disch:=(first|omega|(simp only [lnS];omega))) only [rdT,rdS,hT2];first|done|omega|rfl|exact ⟨by omega,rfl⟩|(simp;done)|(simp;omega))|(intros;trivial)));(try (simp only [nc] at *));(try simp (disch:=(first|omega|(simp only [lnS];omega))) only [rdT,rdS,hT2]);(try cbv))
   | fail
  )
  ·have ho : oneM v a b = true := by assumption
   rw [hBS a b, if_pos ⟨by ((try simp only [nc] at *); omega), ho⟩, ← List.append_assoc]
   simp
  ·have ho : oneM v a b = false := by assumption
   rw [hBS a b, if_neg (by rw [ho]; simp), List.append_nil]
   simp
  ·have e : b = N := by ((try simp only [nc] at *); omega)
   subst e
   rw [hAS]
   simp
 ·have e : a = N := by ((try simp only [nc] at *); omega)
  subst e
  simp [hT2]
theorem allA_to (g : Gr) (v : RV) (hv : RWf v) (hsm : v.ids.length ≤ 64) (l D : Nat) (oR oD : Obj) (s : Tr) (t : Array Value) (hT : leT 6 s s) (G : List (Nat × Nat) → Nat)
  (hy : ∀ (pre : List (Nat × Nat)) (a b : Nat), b < v.ids.length → a < b → oneM v a b = true → pre.length ≤ 4096 → YCall Tryz.prog γ l [.i fun _ => (a : Int), .i fun _ => (b : Int)] (hpA g v (G pre) (pre.map (rcOf v)) l D oR oD s t) (fun x h => x = .tt ∧ h = hpA g v (G (pre ++ [(a, b)])) ((pre ++ [(a, b)]).map (rcOf v)) l D oR oD s t)) :
  SCalls Tryz.prog γ 34 [.raw (.func (.yield l) #[] #[]), .vp (fun _ => aRV v) 0] (hpA g v (G []) [] l D oR oD s t) (fun _ h => h = (hpA g v (G (rpA v v.ids.length v.ids.length)) ((rpA v v.ids.length v.ids.length).map (rcOf v)) l D oR oD s t)) := by
 have hT2 := hT
 cbv at hT2
 exact SCalls.to (allA_ok g v hv hsm l D oR oD s t hT G hy) rfl (Nat.le_refl _) (by cbv; simp) (by cbv; simp [hT2]) rfl
end Go.AL.Rl

namespace Go.AL.Rl
open Go Go.AL Go.Proofs
set_option maxRecDepth 100000
set_option maxHeartbeats 1600000

end Go.AL.Rl

namespace Go.AL.Rl
open Go Go.AL Go.Proofs
set_option maxRecDepth 100000
set_option maxHeartbeats 1600000
variable {γ : Nat → Option AV}

def numI (l : List EId) (d : EId) : Int := match l.findIdx? (fun x => decide (x = d)) with | some k => (k : Nat) | none => -1
theorem numI_at {l : List EId} {d : EId} {k : Nat} (hk : k < l.length) (h : l.getD k id0 = d) (hb : ∀ j < k, l.getD j id0 ≠ d) : numI l d = k := by
 have e : l.findIdx? (fun x => decide (x = d)) = some k := by
  rw [List.findIdx?_eq_some_iff_getElem]
  refine ⟨hk, by simpa [hk] using h, fun j hj => ?_⟩
  have := hb j hj
  have hj' : j < l.length := by omega
  simpa [hj'] using this
 unfold numI; rw [e]
theorem numI_no {l : List EId} {d : EId} (hb : ∀ j < l.length, l.getD j id0 ≠ d) : numI l d = -1 := by
 have e : l.findIdx? (fun x => decide (x = d)) = none := by
  rw [List.findIdx?_eq_none_iff]
  intro x hx
  obtain ⟨j, hj, rfl⟩ := List.getElem_of_mem hx
  have := hb j hj
  simpa [hj] using this
 unfold numI; rw [e]
theorem numI_lt (l : List EId) (d : EId) : -1 ≤ numI l d ∧ numI l d < l.length := by
 unfold numI
 cases h : l.findIdx? (fun x => decide (x = d)) with
 | none => simp; omega
 | some k =>
  have := (List.findIdx?_eq_some_iff_getElem.1 h).1
  simp only; omega
theorem index_ok (l : List EId) (d : EId) (hl : (l.length : Int) ≤ 9223372036854775807) : Pure Tryz.prog γ false 28 [.vs 2 fun _ => ids l, aId d] (.i fun _ => numI l d) := by
 refine Pure.go (ty := ty) ty_eq mo Tryz.func28 rfl Tryz.ntmps28 Tryz.results28 Tryz.call28 (by simp) fun P C CQ D W F E hF => ?_
 cbv
 repeat' (first
  |(refine ⟨fun _ h_s=>?_,fun _ h_s=>?_⟩<;>(cbv;(try simp only [nc] at *);try simp (disch:=(first|omega|(simp only [lnS];omega))) only [rdT,rdS,reduceCtorEq,trT] at h_s))
  |(refine hF ?_;intro _;clear hF)
  |(refine hF ?_;cbv;clear hF)
  |(refine ⟨fun _=>?_,?_⟩;(· ((try simp only [nc] at *);first|done|omega|exact ⟨by omega,rfl⟩|(simp (disch:=(first|omega|(simp only [lnS];omega))) only [rdT,rdS];first|done|omega|rfl|exact ⟨by omega,rfl⟩|(simp;done)|(simp;omega))|(intros;trivial)));(try (simp only [nc] at *));(try simp (disch:=(first|omega|(simp only [lnS];omega))) only [rdT,rdS]);(try cbv))
  |(refine E.d 5 (by decide +kernel) ?_;cbv;(fail_if_success guard_target =~ False))
  | fail
 )
 refine E.loopS (ι:=Nat) (fun i=>i≤l.length∧(∀ k < i,l.getD k id0 ≠ d)) (fun i=>l.length - i) (fun i=>[(8,.i fun _=>((i : Nat) : Int))]) (fun i h=>h) 0 (fun _=>by first|rfl|simp) ⟨Nat.zero_le _,?_⟩ ?_ fun i hi I hI=>?_
 ·intro k hk; omega
 ·cbv; simp
 cbv
 obtain ⟨hi, hp⟩ := hi
 repeat' (first
  |(refine hI (i + 1) ?_ ?_ ?_;rotate_left 1;(· ((try simp only [nc] at *);omega));(cbv;clear hI;(try clear hF);(try simp only [nc] at *);(try simp (disch:=(first|omega|(simp only [lnS];omega))) only [rdT,rdS,anT]));rotate_left 1;(try ((try simp only [nc] at *);omega)))
  |(refine ⟨fun _ h_s=>?_,fun _ h_s=>?_⟩<;>(cbv;(try simp only [nc] at *);try simp (disch:=(first|omega|(simp only [lnS];omega))) only [rdT,rdS,reduceCtorEq,trT] at h_s))
  |(refine hF ?_;intro _;clear hF)
  |(refine hF ?_;cbv;clear hF)
  |(refine ⟨fun _=>?_,?_⟩;(· ((try simp only [nc] at *);first|done|omega|exact ⟨by omega,rfl⟩|(simp (disch:=(first|omega|(simp only [lnS];omega))) only [rdT,rdS];first|done|omega|rfl|exact ⟨by omega,rfl⟩|(simp;done)|(simp;omega))|(intros;trivial)));(try (simp only [nc] at *));(try simp (disch:=(first|omega|(simp only [lnS];omega))) only [rdT,rdS]);(try cbv))
  |(refine E.d 5 (by decide +kernel) ?_;cbv;(fail_if_success guard_target =~ False))
  | fail
 )
 ·simp only [Bool.and_true, Bool.and_eq_true, decide_eq_true_eq] at h_s
  have he : l.getD i id0 = d := (EId.ext' h_s.1 h_s.2).symm
  exact (numI_at (by ((try simp only [nc] at *); omega)) he hp).symm
 ·refine ⟨by ((try simp only [nc] at *); omega), fun k hk => ?_⟩
  rcases Nat.lt_or_ge k i with h1 | h1
  ·exact hp k h1
  ·obtain rfl : k = i := by omega
   intro e
   rw [← e] at h_s
   simp at h_s
 ·push_cast; rfl
 ·have e : i = l.length := by ((try simp only [nc] at *); omega)
  subst e
  exact (numI_no hp).symm
end Go.AL.Rl

namespace Go.AL.Rl
open Go Go.AL Go.Proofs
set_option maxRecDepth 100000
set_option maxHeartbeats 3200000
variable {γ : Nat → Option AV}

end Go.AL.Rl

namespace Go.AL.Rl
open Go Go.AL Go.Proofs
set_option maxRecDepth 100000
set_option maxHeartbeats 3200000
variable {γ : Nat → Option AV}

end Go.AL.Rl

namespace Go.AL.Rl
open Go Go.AL Go.Proofs
set_option maxRecDepth 100000
set_option maxHeartbeats 3200000
variable {γ : Nat → Option AV}

end Go.AL.Rl

namespace Go.AL.Rl
open Go Go.AL Go.Proofs
set_option maxRecDepth 100000
set_option maxHeartbeats 3200000
variable {γ : Nat → Option AV}

end Go.AL.Rl

namespace Go.AL.Rl
open Go Go.AL Go.Proofs
set_option maxRecDepth 100000
set_option maxHeartbeats 3200000
variable {γ : Nat → Option AV}

structure Mk where
 id : EId
 w : Bool
theorem Mk.ext' {a b : Mk} (h1 : a.id = b.id) (h2 : a.w = b.w) : a = b := by cases a; cases b; simp_all
instance : DecidableEq Mk := fun a b => decidable_of_iff (a.id = b.id ∧ a.w = b.w) ⟨fun h => Mk.ext' h.1 h.2, fun h => by subst h; exact ⟨rfl, rfl⟩⟩
abbrev mk0 : Mk := ⟨⟨0, 0⟩, false⟩
abbrev aMk (m : Mk) : AV := .agg [.i fun _ => m.id.t, .i fun _ => m.id.i, .b fun _ => m.w]
def mks (l : List Mk) : LV := LV.of (l.map aMk)
@[simp] theorem mks_len (l : List Mk) : (mks l).l.length = l.length := by simp [mks]
structure Sta where
 g : Gr
 ms : List Mk
 half : Int
def needM (d : EId) (k : Int) : List Mk := (if k = 2 then [] else [⟨d, false⟩]) ++ if k = 2 ∨ k = 3 then [⟨d, true⟩] else []
end Go.AL.Rl

namespace Go.AL.Rl
open Go Go.AL Go.Proofs
set_option maxRecDepth 100000
set_option maxHeartbeats 1600000

end Go.AL.Rl

namespace Go.AL
open Go Go.RowKit
section
variable {P : Program} {γ : Nat → Option AV} {C : EC} {CQ : List Blk → QC} {T : Nat → TI} {D : Array Oper → (St → Prop) → St → Prop} {W : Code → (Exit → St → Prop) → St → Prop}
theorem inBlk_mono {id : Nat} {Q Q' : Exit → St → Prop} (h : ∀ e A, Q e A → Q' e A) : ∀ e A, inBlk id Q e A → inBlk id Q' e A := by
 intro e A
 cases e with
 | exit id' => simp only [inBlk]; split <;> exact h _ _
 | _ => exact h _ _
/-- the last part of a block, and what stands behind it -/
theorem Env.blk (E : Env P γ C CQ T D W) {n id : Nat} {l r : List Code} {Q : Exit → St → Prop} {A : St} (h : vcl T γ C D W l (inBlk id (thenE (fun A => vcl T γ C D W r Q A) Q)) A) : AWPl P γ n l (inBlk id (thenE (fun A => AWPl P γ n r Q A) Q)) A :=
 (E.bl h).mono (inBlk_mono fun e A h' => by
  cases e with
  | normal => exact E.bl h'
  | _ => exact h')
end
end Go.AL
namespace Go.AL.Rl
open Go Go.AL Go.Proofs
set_option maxRecDepth 100000
set_option maxHeartbeats 3200000
variable {γ : Nat → Option AV}

abbrev gz : Gr := ⟨[], [], [], []⟩
end Go.AL.Rl

namespace Go.AL.Rl
open Go Go.AL Go.Proofs
set_option maxRecDepth 100000
set_option maxHeartbeats 3200000
variable {γ : Nat → Option AV}

/-- the last place of a mark among the first ones -/
def lastK (ms : List Mk) (d : Mk) : Nat → Option Nat
 | 0 => none
 | n + 1 => if ms.getD n mk0 = d then some n else lastK ms d n
def plK (ms : List Mk) (d : Mk) : Int := match lastK ms d ms.length with | some k => (k : Nat) | none => -1
/-- the last place, as long as they go up -/
def scanK (p : Mk → Int) (l : List Mk) : Option Int := l.foldl (fun s d => s.bind fun x => if x < p d then some (p d) else none) (some (-1))
def needE (t : Nat) (l : List Ev) (i : Nat) : List Mk := (List.range i).flatMap fun (j : Nat) => needM ⟨(t : Int) + 1, (j : Int)⟩ (l.getD j ev0).kind
def cntN (g : Gr) (t : Nat) : Nat := ((List.range t).map fun k => (needE k (g.th.getD k []) (g.th.getD k []).length).length).sum
def markedM (g : Gr) (ms : List Mk) : Bool := decide (∀ t < g.th.length, (scanK (plK ms) (needE t (g.th.getD t []) (g.th.getD t []).length)).isSome = true) && decide (cntN g g.th.length = ms.length)
end Go.AL.Rl

namespace Go.AL.Rl
open Go Go.AL Go.Proofs
set_option maxRecDepth 100000
set_option maxHeartbeats 3200000
variable {γ : Nat → Option AV}

end Go.AL.Rl

namespace Go.AL.Rl
open Go Go.AL Go.Proofs
set_option maxRecDepth 100000
set_option maxHeartbeats 3200000
variable {γ : Nat → Option AV}

end Go.AL.Rl

namespace Go.AL.Rl
open Go Go.AL Go.Proofs
set_option maxRecDepth 100000
set_option maxHeartbeats 3200000
variable {γ : Nat → Option AV}

def halfOk (s : Sta) : Bool := decide (0 ≤ s.half) && decide (s.half ≤ s.g.th.length) && (decide (s.half = 0) || (decide ((s.g.th.getD (s.half - 1).toNat []).length ≠ 0) && decide (((s.g.th.getD (s.half - 1).toNat []).getD ((s.g.th.getD (s.half - 1).toNat []).length - 1) ev0).kind = 1)))
def SOk (s : Sta) : Prop := GOk s.g ∧ markedM s.g s.ms = true ∧ halfOk s = true
instance (s : Sta) : Decidable (SOk s) := inferInstanceAs (Decidable (_ ∧ _))
end Go.AL.Rl

namespace Go.AL.Rl
open Go Go.AL Go.Proofs
set_option maxRecDepth 100000
set_option maxHeartbeats 3200000
variable {γ : Nat → Option AV}

abbrev sz : Sta := ⟨gz, [], 0⟩
end Go.AL.Rl

namespace Go.AL.Rl
open Go Go.AL Go.Proofs
set_option maxRecDepth 100000
set_option maxHeartbeats 3200000
variable {γ : Nat → Option AV}

theorem kids_ok (a b : List EId) (ha : (a.length : Int) ≤ 9223372036854775807) : Pure Tryz.prog γ false 16 [.vs 2 fun _ => ids a, .vs 2 fun _ => ids b] (.b fun _ => decide (a = b)) := by
 refine Pure.go (ty := ty) ty_eq mo Tryz.func16 rfl Tryz.ntmps16 Tryz.results16 Tryz.call16 (by simp) fun P C CQ D W F E hF => ?_
 cbv
 repeat' (first
  |(refine ⟨fun _ h_s=>?_,fun _ h_s=>?_⟩<;>(cbv;(try simp only [nc] at *);try simp (disch:=(first|omega|(simp only [lnS];omega))) only [rdT,rdS,reduceCtorEq,trT] at h_s))
  |(refine hF ?_;intro _;clear hF)
  |(refine hF ?_;cbv;clear hF)
  |(refine ⟨fun _=>?_,?_⟩;(· ((try simp only [nc] at *);first|done|omega|exact ⟨by omega,rfl⟩|(simp (disch:=(first|omega|(simp only [lnS];omega))) only [rdT,rdS];first|done|omega|rfl|exact ⟨by omega,rfl⟩|(simp;done)|(simp;omega))|(intros;trivial)));(try (simp only [nc] at *));(try simp (disch:=(first|omega|(simp only [lnS];omega))) only [rdT,rdS]);(try cbv))
  |(refine E.d 8 (by decide +kernel) ?_;cbv;(fail_if_success guard_target =~ False))
  | fail
 )
 ·simp
  intro e; subst e; simp_all
 ·refine E.loopS (ι:=Nat) (fun i=>i≤a.length∧(∀ k < i,a.getD k id0 = b.getD k id0)) (fun i=>a.length - i) (fun i=>[(5,.i fun _=>((i : Nat) : Int))]) (fun i h=>h) 0 (fun _=>by first|rfl|simp) ⟨Nat.zero_le _,?_⟩ ?_ fun i hi I hI=>?_
  ·intro k hk; omega
  ·cbv; simp
  cbv
  obtain ⟨hi, hp⟩ := hi
  repeat' (first
   |(refine hI (i + 1) ?_ ?_ ?_;rotate_left 1;(· ((try simp only [nc] at *);omega));(cbv;clear hI;(try clear hF);(try simp only [nc] at *);(try simp (disch:=(first|omega|(simp only [lnS];omega))) only [rdT,rdS,anT]));rotate_left 1;(try ((try simp only [nc] at *);omega)))
   |(refine ⟨fun _ h_s=>?_,fun _ h_s=>?_⟩<;>(cbv;(try simp only [nc] at *);try simp (disch:=(first|omega|(simp only [lnS];omega))) only [rdT,rdS,reduceCtorEq,trT] at h_s))
   |(refine hF ?_;intro _;clear hF)
   |(refine hF ?_;cbv;clear hF)
   |(refine ⟨fun _=>?_,?_⟩;(· ((try simp only [nc] at *);first|done|omega|exact ⟨by omega,rfl⟩|(simp (disch:=(first|omega|(simp only [lnS];omega))) only [rdT,rdS];first|done|omega|rfl|exact ⟨by omega,rfl⟩|(simp;done)|(simp;omega))|(intros;trivial)));(try (simp only [nc] at *));(try simp (disch:=(first|omega|(simp only [lnS];omega))) only [rdT,rdS]);(try cbv))
   |(refine E.d 8 (by decide +kernel) ?_;cbv;(fail_if_success guard_target =~ False))
   | fail
  )
  ·refine decide_eq_false fun e => ?_
   subst e
   simp at h_s
  ·refine ⟨by ((try simp only [nc] at *); omega), fun k hk => ?_⟩
   rcases Nat.lt_or_ge k i with h1 | h1
   ·exact hp k h1
   ·obtain rfl : k = i := by omega
    have h2 : (a.getD k id0).t = (b.getD k id0).t ∧ (a.getD k id0).i = (b.getD k id0).i := by simpa using h_s
    exact EId.ext' h2.1 h2.2
  ·push_cast; rfl
  ·refine decide_eq_true (List.ext_getElem (by ((try simp only [nc] at *); omega)) fun k h1 h2 => ?_)
   have := hp k (by ((try simp only [nc] at *); omega))
   simpa [h1, h2] using this
end Go.AL.Rl

namespace Go.AL.Rl
open Go Go.AL Go.Proofs
set_option maxRecDepth 100000
set_option maxHeartbeats 3200000
variable {γ : Nat → Option AV}

end Go.AL.Rl

namespace Go.AL.Rl
open Go Go.AL Go.Proofs
set_option maxRecDepth 100000
set_option maxHeartbeats 3200000

def evT (g : Gr) (d : EId) : Prop := 1 ≤ d.t ∧ d.t ≤ g.th.length ∧ 0 ≤ d.i ∧ d.i < (g.th.getD (d.t - 1).toNat []).length
def ahead (g : Gr) (a d : EId) : Prop := (a.t = d.t ∧ a.i < d.i) ∨ (readsM ((eventM g d).getD ev0) = true ∧ srcOf g d = a)
def Dn (g : Gr) (l : List EId) : Prop := ∀ d ∈ l, ∀ a, evT g a → ahead g a d → a ∈ l
/-- what is closed: events of threads, none twice, with all ahead of them -/
def ClG (g : Gr) (l : List EId) : Prop := l.Nodup ∧ (∀ d ∈ l, evT g d) ∧ Dn g l
end Go.AL.Rl

namespace Go.AL.Rl
open Go Go.AL Go.Proofs
set_option maxRecDepth 100000
set_option maxHeartbeats 3200000

section
variable {g : Gr} {l : List EId} (hg : GOk g) (hC : ClG g l)
include hg hC
omit hg hC in
omit hg hC in
omit hg hC in
omit hg hC in
omit hg hC in
omit hg hC in
end
end Go.AL.Rl

namespace Go.AL.Rl
open Go Go.AL Go.Proofs
set_option maxRecDepth 100000
set_option maxHeartbeats 3200000

section
variable {g : Gr} {l : List EId} (hg : GOk g) (hC : ClG g l)
include hg hC
end
theorem Sta.ext' {a b : Sta} (h1 : a.g = b.g) (h2 : a.ms = b.ms) (h3 : a.half = b.half) : a = b := by cases a; cases b; simp_all
end Go.AL.Rl

namespace Go.AL.Rl
open Go Go.AL Go.Proofs
set_option maxRecDepth 100000
set_option maxHeartbeats 1600000
variable {γ : Nat → Option AV}

structure Ft where
 a : Int
 b : Int
 br : Bool
structure Bk where
 rule : Int
 a : Int
 b : Int
 br : Bool
end Go.AL.Rl

namespace Go.AL.Rl
open Go Go.AL Go.Proofs
set_option maxRecDepth 100000
set_option maxHeartbeats 1600000

def flC (c : Nat → Bool) (f : Nat → List (Int × Int)) (k : Nat) : List (Int × Int) := (List.range k).flatMap fun i => if c i = true then f i else []
theorem flC_zero (c : Nat → Bool) (f : Nat → List (Int × Int)) : flC c f 0 = [] := rfl
theorem flC_yes {c : Nat → Bool} (f : Nat → List (Int × Int)) {k : Nat} (h : c k = true) : flC c f (k + 1) = flC c f k ++ f k := by
 unfold flC; rw [List.range_succ, List.flatMap_append]; simp [h]
theorem flC_no {c : Nat → Bool} (f : Nat → List (Int × Int)) {k : Nat} (h : ¬ c k = true) : flC c f (k + 1) = flC c f k := by
 unfold flC; rw [List.range_succ, List.flatMap_append]; simp [h]
theorem flC_len (c : Nat → Bool) (f : Nat → List (Int × Int)) (m : Nat) (hf : ∀ i, (f i).length ≤ m) : ∀ k, (flC c f k).length ≤ k * m
 | 0 => by simp [flC]
 | k + 1 => by
  have ih := flC_len c f m hf k
  have := hf k
  rw [Nat.add_mul, Nat.one_mul]
  by_cases h : c k = true
  ·rw [flC_yes f h, List.length_append]; omega
  ·rw [flC_no f h]; omega
theorem flC_mem {c : Nat → Bool} {f : Nat → List (Int × Int)} {k : Nat} {q : Int × Int} : q ∈ flC c f k ↔ ∃ i < k, c i = true ∧ q ∈ f i := by
 unfold flC
 simp only [List.mem_flatMap, List.mem_range]
 constructor
 ·rintro ⟨i, hi, h⟩
  split at h
  ·exact ⟨i, hi, by assumption, h⟩
  ·cases h
 ·rintro ⟨i, hi, h1, h2⟩
  exact ⟨i, hi, by rw [if_pos h1]; exact h2⟩
def cwM (V : Vw) (w : Nat) : Bool := writesM (V.ev.getD w ev0) && decide ((V.ev.getD w ev0).order ≠ 1)
def crM (V : Vw) (w r : Nat) : Bool := relM (V.ev.getD r ev0) && (decide (r = w) || fenceM (V.ev.getD r ev0) && poM V r w)
def caM (V : Vw) (b a : Nat) : Bool := acqM (V.ev.getD a ev0) && (decide (a = b) || fenceM (V.ev.getD a ev0) && poM V b a)
theorem swR_cr (V : Vw) (w r : Nat) : swR V w r = (cwM V w && crM V w r) := by unfold swR cwM crM; simp only [Bool.and_assoc]
def lA (V : Vw) (b r a : Nat) : List (Int × Int) := flC (caM V b) (fun a => [((r : Int), (a : Int))]) a
def lR (V : Vw) (n w b r : Nat) : List (Int × Int) := flC (crM V w) (fun r => lA V b r n) r
noncomputable def lB (V : Vw) (n w b : Nat) : List (Int × Int) := flC (rdrM V (seqM V n w)) (fun b => lR V n w b n) b
noncomputable def lW (V : Vw) (n w : Nat) : List (Int × Int) := flC (cwM V) (fun w => lB V n w n) w
noncomputable def lAll (V : Vw) (n w b r a : Nat) : List (Int × Int) := lW V n w ++ lB V n w b ++ lR V n w b r ++ lA V b r a
theorem lA_len (V : Vw) (b r a : Nat) : (lA V b r a).length ≤ a := by have := flC_len (caM V b) (fun a => [((r : Int), (a : Int))]) 1 (fun _ => by simp) a; unfold lA; omega
theorem lR_len (V : Vw) (n w b r : Nat) : (lR V n w b r).length ≤ r * n := flC_len _ _ _ (fun _ => lA_len _ _ _ _) _
theorem lB_len (V : Vw) (n w b : Nat) : (lB V n w b).length ≤ b * (n * n) := flC_len _ _ _ (fun _ => lR_len _ _ _ _ _) _
theorem lW_len (V : Vw) (n w : Nat) : (lW V n w).length ≤ w * (n * (n * n)) := flC_len _ _ _ (fun _ => lB_len _ _ _ _) _
theorem lAll_len (V : Vw) (n w b r a : Nat) (hn : n ≤ 62) (hw : w ≤ n) (hb : b ≤ n) (hr : r ≤ n) (ha : a ≤ n) : (lAll V n w b r a).length ≤ 100000000 := by
 have h1 := lW_len V n w
 have h2 := lB_len V n w b
 have h3 := lR_len V n w b r
 have h4 := lA_len V b r a
 have e2 : n * n ≤ 62 * 62 := Nat.mul_le_mul hn hn
 have e3 : n * (n * n) ≤ 62 * (62 * 62) := Nat.mul_le_mul hn e2
 have f1 : w * (n * (n * n)) ≤ 62 * (62 * (62 * 62)) := Nat.mul_le_mul (by omega) e3
 have f2 : b * (n * n) ≤ 62 * (62 * 62) := Nat.mul_le_mul (by omega) e2
 have f3 : r * n ≤ 62 * 62 := Nat.mul_le_mul (by omega) hn
 unfold lAll
 simp only [List.length_append]
 omega
theorem lAll_a1 (V : Vw) (n w b r a : Nat) (h : caM V b a = true) : lAll V n w b r (a + 1) = lAll V n w b r a ++ [((r : Int), (a : Int))] := by
 unfold lAll lA; rw [flC_yes _ h]; simp only [List.append_assoc]
theorem lAll_a0 (V : Vw) (n w b r a : Nat) (h : ¬ caM V b a = true) : lAll V n w b r (a + 1) = lAll V n w b r a := by
 unfold lAll lA; rw [flC_no _ h]
theorem lAll_r1 (V : Vw) (n w b r : Nat) (h : crM V w r = true) : lAll V n w b (r + 1) 0 = lAll V n w b r n := by
 unfold lAll lR; rw [flC_yes _ h]; simp only [List.append_assoc]; simp [lA, flC_zero]
theorem lAll_r0 (V : Vw) (n w b r : Nat) (h : ¬ crM V w r = true) : lAll V n w b (r + 1) 0 = lAll V n w b r 0 := by
 unfold lAll lR; rw [flC_no _ h]; simp [lA, flC_zero]
theorem lAll_b1 (V : Vw) (n w b : Nat) (h : rdrM V (seqM V n w) b = true) : lAll V n w (b + 1) 0 0 = lAll V n w b n 0 := by
 unfold lAll lB; rw [flC_yes _ h]; simp [lA, lR, flC_zero]
theorem lAll_b0 (V : Vw) (n w b : Nat) (h : ¬ rdrM V (seqM V n w) b = true) : lAll V n w (b + 1) 0 0 = lAll V n w b 0 0 := by
 unfold lAll lB; rw [flC_no _ h]; simp [lA, lR, flC_zero]
theorem lAll_w1 (V : Vw) (n w : Nat) (h : cwM V w = true) : lAll V n (w + 1) 0 0 0 = lAll V n w n 0 0 := by
 unfold lAll lW; rw [flC_yes _ h]; simp [lA, lR, lB, flC_zero]
theorem lAll_w0 (V : Vw) (n w : Nat) (h : ¬ cwM V w = true) : lAll V n (w + 1) 0 0 0 = lAll V n w 0 0 0 := by
 unfold lAll lW; rw [flC_no _ h]; simp [lA, lR, lB, flC_zero]
theorem lAll_mem (V : Vw) (n : Nat) (q : Int × Int) : q ∈ lAll V n n 0 0 0 ↔ ∃ w < n, cwM V w = true ∧ ∃ b < n, rdrM V (seqM V n w) b = true ∧ ∃ r < n, crM V w r = true ∧ ∃ a < n, caM V b a = true ∧ q = ((r : Int), (a : Int)) := by
 have e : lAll V n n 0 0 0 = lW V n n := by unfold lAll; simp [lA, lR, lB, flC_zero]
 rw [e]
 unfold lW; rw [flC_mem]
 refine exists_congr fun w => and_congr_right fun _ => and_congr_right fun _ => ?_
 unfold lB; rw [flC_mem]
 refine exists_congr fun b => and_congr_right fun _ => and_congr_right fun _ => ?_
 unfold lR; rw [flC_mem]
 refine exists_congr fun r => and_congr_right fun _ => and_congr_right fun _ => ?_
 unfold lA; rw [flC_mem]
 refine exists_congr fun a => and_congr_right fun _ => and_congr_right fun _ => ?_
 simp
theorem rowT_bit (V : Vw) (n r a : Nat) : ∀ w, (rowT V n w r).getLsbD a = true ↔ ∃ v < w, swR V v r = true ∧ (tgtM V n v).getLsbD a = true
 | 0 => by simp [rowT]
 | w + 1 => by
  have ih := rowT_bit V n r a w
  unfold rowT
  constructor
  ·intro h
   split at h
   ·rw [BitVec.getLsbD_or, Bool.or_eq_true] at h
    rcases h with h | h
    ·obtain ⟨v, hv, h1, h2⟩ := ih.1 h; exact ⟨v, by omega, h1, h2⟩
    ·exact ⟨w, by omega, by assumption, h⟩
   ·obtain ⟨v, hv, h1, h2⟩ := ih.1 h; exact ⟨v, by omega, h1, h2⟩
  ·rintro ⟨v, hv, h1, h2⟩
   by_cases hvw : v = w
   ·subst hvw
    rw [if_pos h1, BitVec.getLsbD_or, h2, Bool.or_true]
   ·have h3 := ih.2 ⟨v, by omega, h1, h2⟩
    split
    ·rw [BitVec.getLsbD_or, h3]; rfl
    ·exact h3
theorem ne0_bit (x : BitVec 64) : x ≠ 0#64 ↔ ∃ j, x.getLsbD j = true := by
 constructor
 ·intro h
  refine Classical.byContradiction fun hc => h (BitVec.eq_of_getLsbD_eq fun i hi => ?_)
  cases hx : x.getLsbD i with
  | true => exact absurd ⟨i, hx⟩ hc
  | false => simp
 ·rintro ⟨j, hj⟩ h
  subst h; simp at hj
theorem tgt_bit (V : Vw) (n w a : Nat) (hn : n ≤ 62) : (tgtM V n w).getLsbD a = true ↔ a < n ∧ ∃ b < n, rdrM V (seqM V n w) b = true ∧ caM V b a = true := by
 unfold tgtM
 rw [mask_bit _ _ (by omega)]
 simp only [Bool.and_eq_true, decide_eq_true_eq, behM, Bool.or_eq_true, ne0_bit, BitVec.getLsbD_and, mask_bit _ _ (show n ≤ 64 by omega), caM]
 constructor
 ·rintro ⟨h1, h2, ⟨h3, h4⟩ | ⟨h3, j, ⟨h4, h5⟩, h6, h7⟩⟩
  ·exact ⟨h1, a, h3, h4, h2, .inl rfl⟩
  ·exact ⟨h1, j, h4, h5, h2, .inr ⟨h3, h7⟩⟩
 ·rintro ⟨h1, b, h2, h3, h4, h5 | ⟨h5, h6⟩⟩
  ·subst h5; exact ⟨h1, h4, .inl ⟨h2, h3⟩⟩
  ·exact ⟨h1, h4, .inr ⟨h5, b, ⟨h2, h3⟩, h2, h6⟩⟩
theorem ofTo_sw (V : Vw) (n : Nat) (hn : n ≤ 62) : ofTo n (lAll V n n 0 0 0) (lAll V n n 0 0 0).length = swF V n := by
 unfold swF
 refine rowsEq (n := n) (by rw [ofTo_len]; simp) (relRows_len n _) fun i j => ?_
 rw [bit_ofTo n (by omega) _ (fun q hq => by
  obtain ⟨_, _, _, _, _, _, r, hr, _, a, ha, _, he⟩ := (lAll_mem V n q).1 hq
  exact ⟨r, hr, a, ha, he⟩) i j _ (Nat.le_refl _), List.take_length, bit_rel (by omega), Bool.eq_iff_iff, decide_eq_true_iff, lAll_mem]
 by_cases hi : i < n
 ·have e : bit (swRows V n) i j = (rowT V n n i).getLsbD j := by unfold bit swRows; rw [tab_get n _ i hi]
  simp only [Bool.and_eq_true, decide_eq_true_eq, Prod.mk.injEq, Int.ofNat_inj, hi, true_and, e, rowT_bit, tgt_bit V n _ _ hn, swR_cr]
  constructor
  ·rintro ⟨w, hw, h1, b, hb, h2, r, hr, h3, a, ha, h4, h5, h6⟩
   subst h5; subst h6
   exact ⟨ha, w, hw, ⟨h1, h3⟩, ha, b, hb, h2, h4⟩
  ·rintro ⟨_, w, hw, ⟨h1, h3⟩, ha, b, hb, h2, h4⟩
   exact ⟨w, hw, h1, b, hb, h2, i, hi, h3, j, ha, h4, rfl, rfl⟩
 ·simp only [hi, decide_false, Bool.false_and, Bool.false_eq_true, iff_false]
  rintro ⟨w, hw, h1, b, hb, h2, r, hr, h3, a, ha, h4, h5⟩
  simp only [Prod.mk.injEq, Int.ofNat_inj] at h5
  omega
end Go.AL.Rl

namespace Go.AL.Rl
open Go Go.AL Go.Proofs
set_option maxRecDepth 100000
set_option maxHeartbeats 3200000

structure Emb (V U : Vw) (n m : Nat) (f : Nat → Nat) : Prop where
 lt : ∀ i < n, f i < m
 inj : ∀ i < n, ∀ j < n, f i = f j → i = j
 ids : ∀ i < n, U.ids.getD (f i) id0 = V.ids.getD i id0
 ev : ∀ i < n, U.ev.getD (f i) ev0 = V.ev.getD i ev0
 fr : ∀ i < n, ∀ j < n, V.fr.getD i 0 = (j : Nat) → U.fr.getD (f i) 0 = (f j : Nat)
 pl : ∀ i < n, ∀ j < n, nearM V i j = true → 0 ≤ V.pl.getD i 0 → V.pl.getD i 0 < V.pl.getD j 0 → 0 ≤ U.pl.getD (f i) 0 ∧ U.pl.getD (f i) 0 < U.pl.getD (f j) 0
 upd : ∀ i < n, (V.ev.getD i ev0).kind = 3 → U.pl.getD (f i) 0 = U.pl.getD (U.fr.getD (f i) 0).toNat 0 + 1 → V.pl.getD i 0 = V.pl.getD (V.fr.getD i 0).toNat 0 + 1
theorem hb_fits (V : Vw) {n : Nat} (h : n ≤ 62) : Fits n (hbF V n) := fits_plus (fits_or2 (fits_poF V h) (fits_swF V h))
section
variable {V U : Vw} {n m : Nat} {f : Nat → Nat} (E : Emb V U n m f) (hV : Wf V n) (hU : Wf U m)
include E
include hV
include hU
omit E hV hU in
omit E hV in
end
end Go.AL.Rl

namespace Go.AL
open Go Go.RowKit
section
variable {P : Program} {γ : Nat → Option AV}

theorem HeapR.grow {B : Nat} {S : Nat → Prop} {ρ : List Loc} {h : List Blk} {w : World} (hh : HeapR B S γ ρ h w) (K : Nat) (hK : K < w.heap.size) (hB : B ≤ K) (hno : ∀ (b : Nat) (loc : Loc), ρ[b]? = some loc → ¬ loc.has K) :
  HeapR B (fun k => S k ∨ k = K) γ ρ h w ∧ Ext B S ρ w (fun k => S k ∨ k = K) ρ w := by
 refine ⟨⟨hh.len, fun b blk loc h1 h2 => (hh.blk b blk loc h1 h2).mono (fun k hk => .inl hk) (fun _ _ => rfl) (LocsUp.refl ρ) fun _ _ => rfl, fun b loc k h1 h2 => ?_, hh.inj, fun k hk => ?_, fun g x hg => ?_, hh.bsz, hh.sok⟩,
  Fr.refl w, fun _ _ => rfl, fun k hk => .inl hk, fun _ _ => rfl, LocsUp.refl ρ, fun k hk => ?_⟩
 ·obtain ⟨k1, k2, k3⟩ := hh.own b loc k h1 h2
  refine ⟨fun hs => ?_, k2, k3⟩
  rcases hs with hs | hs
  ·exact k1 hs
  ·exact hno b loc h1 (by rw [← hs]; exact h2)
 ·rcases hk with hk | hk
  ·exact hh.sle k hk
  ·rw [hk]; exact hK
 ·exact R.mono (S := S) (fun k hk => .inl hk) (fun _ _ => rfl) (ρ := none) (ρ' := none) trivial _ _ (hh.gok g x hg)
 ·rcases hk with hk | hk
  ·exact .inl hk
  ·rw [hk]; exact .inr hB
end
end Go.AL

namespace Go.AL
open Go Go.RowKit
section
variable {P : Program} {γ : Nat → Option AV} {τ : Nat → TI} {C : EC}

end
section
variable {P : Program} {γ : Nat → Option AV}
end
end Go.AL

namespace Go.AL
open Go Go.RowKit
section
variable {P : Program} {γ : Nat → Option AV}

theorem AWPr.step {n : Nat} {c : Code} {Q : Exit → St → Prop} {A A' : St} (hs : Step γ A A') (h : AWPr P γ n c Q A') : AWPr P γ n c Q A := fun B S ρ a w h0 => by
 obtain ⟨S', ρ', h1, h2⟩ := hs B S ρ a w h0
 exact wp_mono (h B S' ρ' a w h1) fun e a' w' ⟨S'', ρ'', A'', q1, q2, q3⟩ => ⟨S'', ρ'', A'', q1, q2, h2.takeL.transR q3⟩
theorem AWPl.step {n : Nat} {l : List Code} {Q : Exit → St → Prop} {A A' : St} (hs : Step γ A A') (hl : l.isEmpty = false) (h : AWPl P γ n l Q A') : AWPl P γ n l Q A := by
 cases l with
 | nil => cases hl
 | cons c r => exact AWPr.step hs h
section
variable {C : EC} {CQ : List Blk → QC} {T : Nat → TI} {D : Array Oper → (St → Prop) → St → Prop} {W : Code → (Exit → St → Prop) → St → Prop}
/-- to stop behind the first 'k' items -/
theorem Env.at (E : Env P γ C CQ T D W) {n : Nat} {l : List Code} {Q : Exit → St → Prop} {A : St} (k : Nat)
  (h : ∀ I : St → Prop, (∀ {A'}, AWPl P γ n (l.drop k) Q A' → I A') → vcl T γ C D W (l.take k) (thenE I Q) A) : AWPl P γ n l Q A := by
 rw [← List.take_append_drop k l]
 exact AWPl.app ((E.bl (h (fun A' => AWPl P γ n (l.drop k) Q A') fun hl => hl)).mono fun e A' h => by cases e <;> exact h)
end

theorem Step.heap {A : St} {h' : List Blk} (hr : ∀ B S ρ w, HeapR B S γ ρ A.h w → ∃ S' ρ', HeapR B S' γ ρ' h' w ∧ Ext B S ρ w S' ρ' w) : Step γ A ⟨A.n, A.s, h'⟩ := fun B S ρ a w hs => by
 obtain ⟨S', ρ', h1, h2⟩ := hr B S ρ w hs.heap
 exact ⟨S', ρ', hs.ext h2 h1, h2⟩

theorem HeapR.adopt {B : Nat} {S : Nat → Prop} {ρ : List Loc} {h : List Blk} {w : World} (hh : HeapR B S γ ρ h w) (loc : Loc) (blk : Blk) (hsub : loc.sub = [])
  (hk : ∀ K, loc.k = some K → ¬ S K ∧ K < w.heap.size ∧ B ≤ K ∧ ∀ (b : Nat) (l : Loc), ρ[b]? = some l → ¬ l.has K) (hb : BlkR S w (ρ ++ [loc]) loc blk) :
  HeapR B S γ (ρ ++ [loc]) (h ++ [blk]) w ∧ Ext B S ρ w S (ρ ++ [loc]) w := by
 have hup := LocsUp.append ρ [loc]
 have key : ∀ (b : Nat) (lc : Loc), (ρ ++ [loc])[b]? = some lc → (b < ρ.length ∧ ρ[b]? = some lc) ∨ (b = ρ.length ∧ lc = loc) := by
  intro b lc h1
  by_cases hlt : b < ρ.length
  ·rw [List.getElem?_append_left hlt] at h1; exact .inl ⟨hlt, h1⟩
  ·rw [List.getElem?_append_right (by omega)] at h1
   have e1 : b - ρ.length = 0 := by
    have := (List.getElem?_eq_some_iff.1 h1).1; simp at this; omega
   rw [e1] at h1; simp at h1; exact .inr ⟨by omega, h1.symm⟩
 refine ⟨⟨by simp [hh.len], fun b bk lc h1 h2 => ?_, fun b lc K h1 h2 => ?_, fun b b' lc lc' K h1 h2 h3 h4 => ?_, hh.sle, hh.gok, hh.bsz, fun b lc h1 => ?_⟩, Fr.refl w, fun _ _ => rfl, fun _ h => h, fun _ _ => rfl, hup, fun _ h => .inl h⟩
 ·rcases key b lc h2 with ⟨a1, a2⟩ | ⟨a1, rfl⟩
  ·rw [List.getElem?_append_left (by rw [← hh.len]; exact a1)] at h1
   exact (hh.blk b bk lc h1 a2).mono (fun _ h => h) (fun _ _ => rfl) hup fun _ _ => rfl
  ·rw [a1, hh.len] at h1
   simp at h1; subst h1; exact hb
 ·rcases key b lc h1 with ⟨a1, a2⟩ | ⟨a1, rfl⟩
  ·exact hh.own b lc K a2 h2
  ·obtain ⟨k1, k2, k3, _⟩ := hk K (Loc.has_nil hsub h2)
   exact ⟨k1, k2, k3⟩
 ·rcases key b lc h1 with ⟨a1, a2⟩ | ⟨a1, rfl⟩
  ·rcases key b' lc' h2 with ⟨c1, c2⟩ | ⟨c1, rfl⟩
   ·exact hh.inj b b' lc lc' K a2 c2 h3 h4
   ·exact absurd h3 ((hk K (Loc.has_nil hsub h4)).2.2.2 b lc a2)
  ·rcases key b' lc' h2 with ⟨c1, c2⟩ | ⟨c1, rfl⟩
   ·exact absurd h4 ((hk K (Loc.has_nil hsub h3)).2.2.2 b' lc' c2)
   ·omega
 ·rcases key b lc h1 with ⟨a1, a2⟩ | ⟨a1, rfl⟩
  ·exact hh.sok b lc a2
  ·exact .nil hsub
/-- what was one block's is the other's -/
theorem HeapR.move {B : Nat} {S : Nat → Prop} {ρ : List Loc} {h : List Blk} {w : World} (hh : HeapR B S γ ρ h w) {b b2 : Nat} {loc loc2 loc' loc2' : Loc} {blk' : Blk} (hne : b ≠ b2) (hb : ρ[b]? = some loc) (hb2 : ρ[b2]? = some loc2)
  (hup : loc.up loc') (hup2 : loc2.up loc2') (hk : ∀ K, loc'.has K → loc.has K ∨ loc2.has K) (hk2 : ∀ K, ¬ loc2'.has K) (hsok : loc'.SubOk) (hsub2 : loc2'.sub = [])
  (hblk : BlkR S w ((ρ.set b loc').set b2 loc2') loc' blk') : HeapR B S γ ((ρ.set b loc').set b2 loc2') ((h.set b blk').set b2 .any) w ∧ Ext B S ρ w S ((ρ.set b loc').set b2 loc2') w := by
 have hblt : b < ρ.length := (List.getElem?_eq_some_iff.1 hb).1
 have hblt2 : b2 < ρ.length := (List.getElem?_eq_some_iff.1 hb2).1
 have key : ∀ (i : Nat) (l : Loc), ((ρ.set b loc').set b2 loc2')[i]? = some l → (i = b ∧ l = loc') ∨ (i = b2 ∧ l = loc2') ∨ (i ≠ b ∧ i ≠ b2 ∧ ρ[i]? = some l) := by
  intro i l hl
  by_cases e2 : b2 = i
  ·subst e2; simp [hblt2] at hl; exact .inr (.inl ⟨rfl, hl.symm⟩)
  ·rw [List.getElem?_set_ne e2] at hl
   by_cases e : b = i
   ·subst e; simp [hblt] at hl; exact .inl ⟨rfl, hl.symm⟩
   ·rw [List.getElem?_set_ne e] at hl; exact .inr (.inr ⟨fun h => e h.symm, fun h => e2 h.symm, hl⟩)
 have hlocs : LocsUp ρ ((ρ.set b loc').set b2 loc2') := by
  intro i l hl
  by_cases e2 : b2 = i
  ·subst e2; rw [hb2] at hl; cases hl
   exact ⟨loc2', by simp [hblt2], hup2⟩
  ·by_cases e : b = i
   ·subst e; rw [hb] at hl; cases hl
    exact ⟨loc', by rw [List.getElem?_set_ne e2]; simp [hblt], hup⟩
   ·exact ⟨l, by rw [List.getElem?_set_ne e2, List.getElem?_set_ne e]; exact hl, l.up_refl⟩
 refine ⟨⟨by simp [hh.len], fun i bk l h1 h2 => ?_, fun i l K h1 h2 => ?_, fun i j l l' K h1 h2 h3 h4 => ?_, hh.sle, hh.gok, hh.bsz, fun i l h1 => ?_⟩, Fr.refl w, fun _ _ => rfl, fun _ h => h, fun _ _ => rfl, hlocs, fun _ h => .inl h⟩
 ·rcases key i l h2 with ⟨rfl, rfl⟩ | ⟨rfl, rfl⟩ | ⟨n1, n2, h2⟩
  ·rw [List.getElem?_set_ne (fun e => hne e.symm)] at h1
   have : i < h.length := by rw [← hh.len]; exact hblt
   simp [this] at h1; subst h1; exact hblk
  ·have : i < (h.set b blk').length := by rw [List.length_set, ← hh.len]; exact hblt2
   rw [List.getElem?_set_self this] at h1; cases h1; trivial
  ·rw [List.getElem?_set_ne (fun e => n2 e.symm), List.getElem?_set_ne (fun e => n1 e.symm)] at h1
   exact (hh.blk i bk l h1 h2).mono (fun _ h => h) (fun _ _ => rfl) hlocs fun _ _ => rfl
 ·rcases key i l h1 with ⟨rfl, rfl⟩ | ⟨rfl, rfl⟩ | ⟨n1, n2, h1⟩
  ·rcases hk K h2 with e | e
   ·exact hh.own i loc K hb e
   ·exact hh.own b2 loc2 K hb2 e
  ·exact absurd h2 (hk2 K)
  ·exact hh.own i l K h1 h2
 ·have none2 : ∀ (i : Nat) (l : Loc), i ≠ b → i ≠ b2 → ρ[i]? = some l → l.has K → ¬ loc'.has K := fun i l n1 n2 g1 g2 g3 => by
   rcases hk K g3 with e | e
   ·exact n1 (hh.inj i b l loc K g1 hb g2 e)
   ·exact n2 (hh.inj i b2 l loc2 K g1 hb2 g2 e)
  rcases key i l h1 with ⟨rfl, rfl⟩ | ⟨rfl, rfl⟩ | ⟨n1, n2, g1⟩
  ·rcases key j l' h2 with ⟨rfl, rfl⟩ | ⟨rfl, rfl⟩ | ⟨m1, m2, g2⟩
   ·rfl
   ·exact absurd h4 (hk2 K)
   ·exact absurd h3 (none2 j l' m1 m2 g2 h4)
  ·exact absurd h3 (hk2 K)
  ·rcases key j l' h2 with ⟨rfl, rfl⟩ | ⟨rfl, rfl⟩ | ⟨m1, m2, g2⟩
   ·exact absurd h4 (none2 i l n1 n2 g1 h3)
   ·exact absurd h4 (hk2 K)
   ·exact hh.inj i j l l' K g1 g2 h3 h4
 ·rcases key i l h1 with ⟨rfl, rfl⟩ | ⟨rfl, rfl⟩ | ⟨_, _, g1⟩
  ·exact hsok
  ·exact .nil hsub2
  ·exact hh.sok i l g1
theorem Loc.SubOk.set {l l' : Loc} (h : l.SubOk) {i : Nat} (hs : l'.sub = l.sub.set i none) (hk : l'.k = l.k) : l'.SubOk where
 out := fun K hK => by
  rw [hs] at hK
  rw [hk]
  rcases List.mem_or_eq_of_mem_set hK with hK | hK
  ·exact h.out K hK
  ·cases hK
 one := fun a c K ha hc => by
  have key : ∀ a, l'.sub[a]? = some (some K) → l.sub[a]? = some (some K) := fun a ha => by
   rw [hs, List.getElem?_set] at ha
   split at ha
   ·split at ha <;> cases ha
   ·exact ha
  exact h.one a c K (key a ha) (key c hc)
theorem Loc.has_set {l l' : Loc} {i K : Nat} (hs : l'.sub = l.sub.set i none) (hk : l'.k = l.k) (h : l'.has K) : l.has K := by
 rcases h with h | h
 ·exact .inl (by rw [← hk]; exact h)
 ·rw [hs] at h
  rcases List.mem_or_eq_of_mem_set h with h | h
  ·exact .inr h
  ·cases h
theorem HeapR.drop {B : Nat} {S : Nat → Prop} {ρ : List Loc} {h : List Blk} {w : World} (hh : HeapR B S γ ρ h w) {b g q : Nat} {ess : Unit → List LV} (hb : h[b]? = some (.nest g q ess none)) (i : Unit → Nat) {loc : Loc} (hl : ρ[b]? = some loc) :
  HeapR B S γ (ρ.set b { loc with sub := loc.sub.set (i ()) none }) (h.set b (.nest g q ess (some (i, .any)))) w ∧ Ext B S ρ w S (ρ.set b { loc with sub := loc.sub.set (i ()) none }) w := by
 obtain ⟨d1, d2, d3, evs, d4, d5, d6, d7⟩ := hh.blk b _ loc hb hl
 refine hh.updS (loc' := { loc with sub := loc.sub.set (i ()) none }) hl (.inl ⟨_, rfl⟩) (fun K hK => .inl (Loc.has_set (l := loc) (l' := { loc with sub := loc.sub.set (i ()) none }) rfl rfl hK)) (Fr.refl w) (fun _ _ _ => rfl) ⟨d1, d2, d3, evs, d4, d5, by simp [d6], fun p es v s g1 g2 g3 => ?_⟩ ((hh.sok b loc hl).set rfl rfl)
 have hpl : p < loc.sub.length := by have := (List.getElem?_eq_some_iff.1 g2).1; omega
 have hold : InR S w q es v loc.sub[p] := d7 p es v _ g1 g2 (List.getElem?_eq_getElem hpl)
 have g3 : (loc.sub.set (i ()) none)[p]? = some s := g3
 rw [List.getElem?_set] at g3
 split at g3
 ·rename_i e
  rw [if_pos (by omega)] at g3
  cases g3
  obtain ⟨a, cap, ievs, rfl, _⟩ := hold
  exact .inl ⟨e.symm, rfl, trivial, rfl⟩
 ·rename_i e
  rw [List.getElem?_eq_getElem hpl] at g3
  cases g3
  exact .inr ⟨fun h => e h.symm, hold⟩
theorem Step.drop {A : St} (b : Nat) {g q : Nat} {ess : Unit → List LV} (hb : A.h[b]? = some (.nest g q ess none)) (i : Unit → Nat) : Step γ A ⟨A.n, A.s, A.h.set b (.nest g q ess (some (i, .any)))⟩ :=
 Step.heap fun B S ρ w hh => by
  have hlt : b < ρ.length := by rw [hh.len]; exact (List.getElem?_eq_some_iff.1 hb).1
  have := hh.drop hb i (List.getElem?_eq_getElem hlt)
  exact ⟨_, _, this.1, this.2⟩
theorem Step.take {A : St} (b : Nat) {g q : Nat} {ess : Unit → List LV} (hb : A.h[b]? = some (.nest g q ess none)) (i : Unit → Nat) (hi : ∀ _ : Unit, i () < (ess ()).length) :
  Step γ A ⟨A.n, A.s, (A.h.set b (.nest g q ess (some (i, .sl A.h.length 0 q (fun _ => 0) fun _ => ((ess ()).getD (i ()) .nil).l.length)))) ++ [.run 0 q fun _ => (ess ()).getD (i ()) .nil]⟩ :=
 Step.heap fun B S ρ w hh => by
  have hlt : b < ρ.length := by rw [hh.len]; exact (List.getElem?_eq_some_iff.1 hb).1
  obtain ⟨loc, hl⟩ : ∃ loc, ρ[b]? = some loc := ⟨_, List.getElem?_eq_getElem hlt⟩
  obtain ⟨d1, d2, d3, evs, d4, d5, d6, d7⟩ := hh.blk b _ loc hb hl
  have hi := hi ()
  obtain ⟨p1, p2⟩ := hh.drop hb i hl
  have hie : (ess ())[i ()]? = some ((ess ()).getD (i ()) .nil) := by rw [List.getD_eq_getElem?_getD, List.getElem?_eq_getElem hi]; rfl
  have hve : evs[i ()]? = some evs[i ()] := List.getElem?_eq_getElem (by omega)
  have hse : loc.sub[i ()]? = some loc.sub[i ()] := List.getElem?_eq_getElem (by omega)
  have hin : InR S w q ((ess ()).getD (i ()) .nil) evs[i ()] loc.sub[i ()] := d7 _ _ _ _ hie hve hse
  generalize hes : (ess ()).getD (i ()) .nil = es at hin hie
  generalize hv : evs[i ()]'(by omega) = v at hin hve
  generalize hs : loc.sub[i ()]'(by omega) = s at hin hse
  obtain ⟨a, cap, ievs, rfl, c2, c3, c4, c5, c6⟩ := hin
  have hil : ievs.length = es.l.length := Rs_len ((RL_iff _ _ _ _).1 c4)
  -- the run that comes
  obtain ⟨l2, hl2, hbl, hr⟩ : ∃ l2 : Loc, (l2.sub = [] ∧ l2.k = s ∧ l2.box = false ∧ l2.g = 0 ∧ l2.e = q) ∧ (∀ ρ2, BlkR S w ρ2 l2 (.run 0 q fun _ => es)) ∧
    (∀ ρ2 : List Loc, R S w (some (ρ2 ++ [l2])) (.sl ρ2.length 0 q (fun _ => 0) fun _ => es.l.length) (.slice a ievs.length cap)) := by
   rcases c6 with ⟨rfl, c6⟩ | ⟨K, c, ty, rfl, r2, r3, r4, r5⟩
   ·have : ievs = [] := List.eq_nil_of_length_eq_zero (by omega)
    subst this
    exact ⟨⟨false, 0, none, q, 0, []⟩, ⟨rfl, rfl, rfl, rfl, rfl⟩, fun ρ2 => ⟨rfl, rfl, rfl, [], c4, fun e he => (by cases he), .inl ⟨rfl, rfl⟩⟩,
     fun ρ2 => ⟨_, _, a, cap, rfl, getElem?_concat _ _, rfl, rfl, Nat.le_refl _, by rw [← hil], by rw [← hil]; exact c2, c3, fun _ => .inl ⟨rfl, c6, rfl⟩⟩⟩
   ·exact ⟨⟨false, 0, some K, q, c.size, []⟩, ⟨rfl, rfl, rfl, rfl, rfl⟩, fun ρ2 => ⟨rfl, rfl, rfl, ievs, c4, c5, .inr ⟨K, c, ty, rfl, r4, rfl, Nat.le_trans (Nat.mul_le_mul_right _ c2) r3, r5⟩⟩,
     fun ρ2 => ⟨_, _, a, cap, rfl, getElem?_concat _ _, rfl, rfl, Nat.le_refl _, by rw [← hil], by rw [← hil]; exact c2, c3, fun _ => .inr ⟨K, rfl, by simpa using r2, by simpa using r3⟩⟩⟩
  obtain ⟨m1, m2, m3, m4, m5⟩ := hl2
  obtain ⟨q1, q2⟩ := p1.adopt l2 (.run 0 q fun _ => es) m1 (fun K hK => by
   rw [m2] at hK
   obtain ⟨k1, k2, k3⟩ := hh.own b loc K hl (.inr (by rw [← hK, ← hs]; exact List.getElem_mem _))
   refine ⟨k1, k2, k3, fun b' l' hb' hK' => ?_⟩
   by_cases e : b = b'
   ·subst e
    rw [List.getElem?_set_self hlt] at hb'; cases hb'
    rcases hK' with hK' | hK'
    ·exact (hh.sok b loc hl).out K (by rw [← hK]; exact List.mem_of_getElem? hse) hK'
    ·obtain ⟨j, hj, hj2⟩ := List.getElem_of_mem hK'
     have hj3 : (loc.sub.set (i ()) none)[j]? = some (some K) := by rw [← hj2]; exact List.getElem?_eq_getElem hj
     rw [List.getElem?_set] at hj3
     split at hj3
     ·split at hj3 <;> cases hj3
     ·rename_i ne
      exact ne ((hh.sok b loc hl).one j (i ()) K hj3 (by rw [hse, hK])).symm
   ·rw [List.getElem?_set_ne e] at hb'
    exact e (hh.inj b b' loc l' K hl hb' (.inr (by rw [← hK]; exact List.mem_of_getElem? hse)) hK')) (hbl _)
  have hρ : (ρ.set b { loc with sub := loc.sub.set (i ()) none }).length = A.h.length := by rw [List.length_set, hh.len]
  have hT := q1.retell b (.nest g q ess (some (i, .sl A.h.length 0 q (fun _ => 0) fun _ => ((ess ()).getD (i ()) .nil).l.length))) fun loc3 h3 => by
   rw [List.getElem?_append_left (by rw [List.length_set]; exact hlt), List.getElem?_set_self hlt] at h3
   cases h3
   refine ⟨d1, d2, d3, evs, d4, d5, by simp [d6], fun p es' v' s' g1 g2 g3 => ?_⟩
   have hpl : p < loc.sub.length := by have := (List.getElem?_eq_some_iff.1 g2).1; omega
   have hold : InR S w q es' v' loc.sub[p] := d7 p es' v' _ g1 g2 (List.getElem?_eq_getElem hpl)
   have g3 : (loc.sub.set (i ()) none)[p]? = some s' := g3
   rw [List.getElem?_set] at g3
   split at g3
   ·rename_i e
    rw [if_pos (by omega)] at g3
    cases g3
    rw [← e, hve] at g2
    cases g2
    refine .inl ⟨e.symm, rfl, ?_, rfl⟩
    have := hr (ρ.set b { loc with sub := loc.sub.set (i ()) none })
    rw [hρ] at this
    simp only [hes]
    exact this
   ·rename_i e
    rw [List.getElem?_eq_getElem hpl] at g3
    cases g3
    exact .inr ⟨fun h => e h.symm, hold⟩
  refine ⟨S, _, ?_, p2.trans q2⟩
  rw [List.set_append_left _ _ (by rw [List.length_set]; exact (List.getElem?_eq_some_iff.1 hb).1), List.set_set] at hT
  simp only [hes] at hT
  exact hT
end
end Go.AL

namespace Go.AL
open Go Go.RowKit
section
variable {P : Program} {γ : Nat → Option AV}

theorem Step.put {A : St} (b b2 : Nat) {g q g2 g3 : Nat} {ess : Unit → List LV} {i off len : Unit → Nat} {es : Unit → LV} (hb : A.h[b]? = some (.nest g q ess (some (i, .sl b2 g2 q off len)))) (hb2 : A.h[b2]? = some (.run g3 q es))
  (hc : ∀ _ : Unit, g3 = g2 ∧ off () = 0 ∧ len () = (es ()).l.length) :
  Step γ A ⟨A.n, A.s, (A.h.set b (.nest g q (fun _ => (ess ()).set (i ()) (es ())) none)).set b2 .any⟩ :=
 Step.heap fun B S ρ w hh => by
  obtain ⟨rfl, c0, c1⟩ := hc ()
  have hne : b ≠ b2 := fun e => by subst e; rw [hb] at hb2; cases hb2
  have hlt : b < ρ.length := by rw [hh.len]; exact (List.getElem?_eq_some_iff.1 hb).1
  have hlt2 : b2 < ρ.length := by rw [hh.len]; exact (List.getElem?_eq_some_iff.1 hb2).1
  obtain ⟨loc, hl⟩ : ∃ loc, ρ[b]? = some loc := ⟨_, List.getElem?_eq_getElem hlt⟩
  obtain ⟨loc2, hl2⟩ : ∃ loc, ρ[b2]? = some loc := ⟨_, List.getElem?_eq_getElem hlt2⟩
  obtain ⟨d1, d2, d3, evs, d4, d5, d6, d7⟩ := hh.blk b _ loc hb hl
  obtain ⟨f1, f2, f3, ievs, f4, f5, f6⟩ := hh.blk b2 _ loc2 hb2 hl2
  have hil : ievs.length = (es ()).l.length := Rs_len ((RL_iff _ _ _ _).1 f4)
  have hk2 : ∀ K, some K ∈ (loc.sub.set (i ()) loc2.k) → some K ∈ loc.sub ∨ loc2.k = some K := fun K hK => by
   rcases List.mem_or_eq_of_mem_set hK with hK | hK
   ·exact .inl hK
   ·exact .inr hK.symm
  have hsi : ∀ s, loc.sub[i ()]? = some s → s = none := fun s hs => by
   have hil' : i () < loc.sub.length := (List.getElem?_eq_some_iff.1 hs).1
   rcases d7 (i ()) _ _ s (List.getElem?_eq_getElem (by omega)) (List.getElem?_eq_getElem (by omega)) hs with ⟨_, h, _⟩ | ⟨h, _⟩
   ·exact h
   ·exact absurd rfl h
  have hsub : ∀ K, loc2.k = some K → ¬ some K ∈ loc.sub ∧ loc.k ≠ some K := fun K hK => ⟨fun h => hne (hh.inj b b2 loc loc2 K hl hl2 (.inr h) (.inl hK)), fun h => hne (hh.inj b b2 loc loc2 K hl hl2 (.inl h) (.inl hK))⟩
  have hm := hh.move (loc' := { loc with sub := loc.sub.set (i ()) loc2.k }) (loc2' := { loc2 with g := g3 + 1, k := none, size := 0, sub := [] }) (blk' := .nest g q (fun _ => (ess ()).set (i ()) (es ())) none) hne hl hl2 (.inl ⟨_, rfl⟩)
   (.inr (.inl ⟨f1, f1, by show loc2.g < g3 + 1; omega, rfl⟩))
   (fun K hK => by
    rcases hK with hK | hK
    ·exact .inl (.inl hK)
    ·rcases hk2 K hK with h | h
     ·exact .inl (.inr h)
     ·exact .inr (.inl h))
   (fun K hK => by rcases hK with hK | hK <;> first | (cases hK; done) | exact absurd hK (by simp))
   ⟨fun K hK hk => by
    rcases hk2 K hK with h | h
    ·exact (hh.sok b loc hl).out K h hk
    ·exact (hsub K h).2 hk, fun x y K hx hy => by
    have key : ∀ x, (loc.sub.set (i ()) loc2.k)[x]? = some (some K) → (x = i () ∧ loc2.k = some K) ∨ (x ≠ i () ∧ loc.sub[x]? = some (some K)) := fun x hx => by
     rw [List.getElem?_set] at hx
     split at hx
     ·rename_i e
      split at hx
      ·left; exact ⟨e.symm, by simpa using hx⟩
      ·cases hx
     ·rename_i e; exact .inr ⟨fun h => e h.symm, hx⟩
    rcases key x hx with ⟨x1, x2⟩ | ⟨x1, x2⟩ <;> rcases key y hy with ⟨y1, y2⟩ | ⟨y1, y2⟩
    ·omega
    ·exact absurd (List.mem_of_getElem? y2) (hsub K x2).1
    ·exact absurd (List.mem_of_getElem? x2) (hsub K y2).1
    ·exact (hh.sok b loc hl).one x y K x2 y2⟩ rfl
   ⟨d1, d2, d3, evs, d4, by simp [d5], by simp [d6], fun p es' v s g1 g2 g4 => by
    have hpl : p < evs.length := (List.getElem?_eq_some_iff.1 g2).1
    by_cases hp : p = i ()
    ·subst hp
     have g1 : ((ess ()).set (i ()) (es ()))[i ()]? = some es' := g1
     rw [List.getElem?_set_self (by omega)] at g1
     cases g1
     have g4 : (loc.sub.set (i ()) loc2.k)[i ()]? = some s := g4
     rw [List.getElem?_set_self (by omega)] at g4
     cases g4
     rcases d7 (i ()) _ _ _ (List.getElem?_eq_getElem (by omega)) g2 (List.getElem?_eq_getElem (by omega)) with ⟨_, _, hr, _⟩ | ⟨h, _⟩
     ·obtain ⟨l, lc, a, cap, e0, q1, q2, q3, q4, rfl, q6, q7, q8⟩ := hr
      cases e0
      rw [hl2] at q1; cases q1
      refine ⟨a, cap, ievs, by rw [c1, hil], by omega, q7, f4, f5, ?_⟩
      rcases q8 f2 with ⟨r1, r2, _⟩ | ⟨K, r1, r2, r3⟩
      ·exact .inl ⟨r1, r2⟩
      ·rcases f6 with ⟨e1, _⟩ | ⟨K', c, ty, e1, e2, e3, e4, e5⟩
       ·rw [r1] at e1; cases e1
       ·rw [r1] at e1; cases e1
        rw [c0, Nat.zero_mul] at r2
        rw [c0, Nat.zero_add, f3] at r3
        rw [f3] at e5
        exact .inr ⟨K, c, ty, r1, r2, by omega, e2, e5⟩
     ·exact absurd rfl h
    ·have g1 : ((ess ()).set (i ()) (es ()))[p]? = some es' := g1
     rw [List.getElem?_set_ne (fun e => hp e.symm)] at g1
     have g4 : (loc.sub.set (i ()) loc2.k)[p]? = some s := g4
     rw [List.getElem?_set_ne (fun e => hp e.symm)] at g4
     rcases d7 p es' v s g1 g2 g4 with ⟨h, _⟩ | ⟨_, h⟩
     ·exact absurd h hp
     ·exact h⟩
  exact ⟨S, _, hm.1, hm.2⟩

theorem Step.putE {A : St} (b b2 : Nat) {g q g2 g3 : Nat} {ess : Unit → List LV} {i off len : Unit → Nat} {es : Unit → LV} (ess' : Unit → List LV) (hb : A.h[b]? = some (.nest g q ess (some (i, .sl b2 g2 q off len)))) (hb2 : A.h[b2]? = some (.run g3 q es))
  (hc : ∀ _ : Unit, (g3 = g2 ∧ off () = 0 ∧ len () = (es ()).l.length) ∧ (ess ()).set (i ()) (es ()) = ess' ()) :
  Step γ A ⟨A.n, A.s, (A.h.set b (.nest g q ess' none)).set b2 .any⟩ := by
 have h := Step.put (γ := γ) b b2 hb hb2 fun _ => (hc ()).1
 have e1 : (fun _ : Unit => (ess ()).set (i ()) (es ())) = ess' := funext fun _ => (hc ()).2
 rw [e1] at h
 exact h

end
end Go.AL

namespace Go.AL
open Go Go.RowKit

section
variable {P : Program} {γ : Nat → Option AV} {τ : Nat → TI} {C : EC} {CQ : List Blk → QC}

def AWPx (P : Program) (γ : Nat → Option AV) (ro : Option Nat) (ds : List Deferred) (c : Code) (Q : Exit → St → Prop) (A : St) : Prop :=
 ∀ B S ρ a w n, Sim B S γ ρ A a w → c.wpIn (RF ro) n P (fun e a' w' => ∃ a0 S' ρ' A', a' = df ds a0 ∧ Q e A' ∧ Sim B S' γ ρ' A' a0 w' ∧ Ext B S ρ w S' ρ' w') (df ds a) w

variable {ro : Option Nat} {ds : List Deferred}
theorem AWPx.mono {c : Code} {Q Q' : Exit → St → Prop} {A : St} (h : AWPx P γ ro ds c Q A) (hq : ∀ e A, Q e A → Q' e A) : AWPx P γ ro ds c Q' A :=
 fun B S ρ a w n hs => wpIn_mono (h B S ρ a w n hs) fun e a' w' ⟨a0, S', ρ', A', h0, h1, h2, h3⟩ => ⟨a0, S', ρ', A', h0, hq _ _ h1, h2, h3⟩
theorem AWPx.skip {Q : Exit → St → Prop} {A : St} (h : Q .normal A) : AWPx P γ ro ds .skip Q A := fun B S ρ a w n hs => wpIn_skip ⟨a, S, ρ, A, rfl, h, hs, Ext.refl _ _ _ _⟩
theorem AWPx.exit {id : Nat} {Q : Exit → St → Prop} {A : St} (h : Q (.exit id) A) : AWPx P γ ro ds (.exit id) Q A := fun B S ρ a w n hs => wpIn_exit ⟨a, S, ρ, A, rfl, h, hs, Ext.refl _ _ _ _⟩
theorem AWPx.ret {Q : Exit → St → Prop} {A : St} (h : Q .ret A) : AWPx P γ ro ds .ret Q A := fun B S ρ a w n hs => wpIn_ret ⟨a, S, ρ, A, rfl, h, hs, Ext.refl _ _ _ _⟩
theorem AWPx.seq {x y : Code} {Q : Exit → St → Prop} {A : St} (h : AWPx P γ ro ds x (thenE (fun A => AWPx P γ ro ds y Q A) Q) A) : AWPx P γ ro ds (.seq x y) Q A := by
 intro B S ρ a w n hs
 refine wpIn_seq (wpIn_mono (h B S ρ a w n hs) fun e a' w' ⟨a0, S', ρ', A', h0, h1, h2, h3⟩ => ?_)
 cases e with
 | normal => subst h0; exact wpIn_mono (h1 B S' ρ' a0 w' n h2) fun e a'' w'' ⟨a1, S'', ρ'', A'', k0, k1, k2, k3⟩ => ⟨a1, S'', ρ'', A'', k0, k1, k2, h3.trans k3⟩
 | _ => exact ⟨a0, S', ρ', A', h0, h1, h2, h3⟩
theorem AWPx.cond {c : Operand} {x y : Code} {Q : Exit → St → Prop} {A : St} (h : br (A.ev γ c) (fun _ => AWPx P γ ro ds x Q A) (fun _ => AWPx P γ ro ds y Q A)) : AWPx P γ ro ds (.cond c x y) Q A := by
 intro B S ρ a w n hs
 obtain ⟨b, h1, h2⟩ := br_val h
 refine wpIn_cond (t := b) (by rw [df_eval]; exact h1 S w (some ρ) _ (hs.ev c)) ?_
 cases b
 ·exact h2 B S ρ a w n hs
 ·exact h2 B S ρ a w n hs
theorem AWPx.block {id : Nat} {c : Code} {Q : Exit → St → Prop} {A : St} (h : AWPx P γ ro ds c (inBlk id Q) A) : AWPx P γ ro ds (.block id c) Q A := by
 intro B S ρ a w n hs
 refine wpIn_block (wpIn_mono (h B S ρ a w n hs) fun e a' w' ⟨a0, S', ρ', A', h0, h1, h2, h3⟩ => ?_)
 cases e with
 | exit id' =>
  simp only [inBlk] at h1
  simp only [Exit.inBlock]
  split
  ·rename_i e; rw [if_pos e] at h1; exact ⟨a0, S', ρ', A', h0, h1, h2, h3⟩
  ·rename_i e; rw [if_neg e] at h1; exact ⟨a0, S', ρ', A', h0, h1, h2, h3⟩
 | _ => exact ⟨a0, S', ρ', A', h0, h1, h2, h3⟩

/-- what lies behind a region, told of its last state -/
def regQ (γ : Nat → Option AV) (B : Nat) (S : Nat → Prop) (ρ : List Loc) (w : World) (K : St → Prop) : Exit → Act → World → Prop := fun e a' w' => e = .normal ∧ ∃ S' ρ' A', K A' ∧ Sim B S' γ ρ' A' a' w' ∧ Ext B S ρ w S' ρ' w'

theorem AWPx.region {id : Nat} {ops : Array Oper} {Q : Exit → St → Prop} {A : St} (hd : ops.toList.all (fun o => !isDef o) = true) (hτ : ∀ t, τ t = tiOf P t) (hC : ∀ f args h Q, C f args h Q → PC P γ f args h Q) (hv : vops τ γ C ops.toList ops.toList A (Q .normal)) : AWPx P γ ro ds (.region id ops false) Q A := by
 intro B S ρ a w n hs
 refine wpIn_region_list (list_bridge (Q := regQ γ B S ρ w (Q .normal)) (fun e a w h => h.1) ?_ _ a w hd ?_)
 ·rintro a' w' ⟨_, S', ρ', A', h1, h2, h3⟩
  exact ⟨a', S', ρ', A', rfl, h1, h2, h3⟩
 ·exact vops_sound hτ hC _ A B S ρ a w hs hv fun S' ρ' A' _ _ h1 h2 h3 => ⟨rfl, S', ρ', A', h1, h2, h3⟩

theorem AWPx.draw {id : Nat} {ops : Array Oper} {Q : Exit → St → Prop} {A : St} (hd : ops.toList.all (fun o => !isDef o) = true) (hτ : ∀ t, τ t = tiOf P t) (hC : ∀ f args h Q, C f args h Q → PC P γ f args h Q) (hCQ : ∀ h f args k, CQ h f args k → QCalls P γ h f args k) (hm : P.follows .mixedOrders = true)
  (n0 : Nat) (hB : drawB ops n0 = true) (hv : vhd τ γ CQ ops (ops.toList.take n0) A fun A => vops τ γ C ops.toList (ops.toList.drop n0) A (Q .normal)) : AWPx P γ ro ds (.region id ops true) Q A := by
 intro B S ρ a w n hs
 refine wpIn_region_any hm (any_bridge (Q := regQ γ B S ρ w (Q .normal)) hd (fun e a w h => h.1) ?_ _ _ a _ (any_region_A n0 hB hs (vhd_sound hτ hCQ _ _ hv) fun S' A' a' w' hv' hs' hx => ?_))
 ·rintro a' w' ⟨_, S', ρ', A', h1, h2, h3⟩
  exact ⟨a', S', ρ', A', rfl, h1, h2, h3⟩
 ·exact vops_sound hτ hC _ A' B S' ρ a' w' hs' hv' fun S'' ρ'' A'' a'' w'' h1 h2 h3 => ⟨rfl, S'', ρ'', A'', h1, h2, hx.trans h3⟩

/-- no deferred call is put down -/
def noDef : Code → Bool
 | .seq x y => noDef x && noDef y
 | .cond _ x y => noDef x && noDef y
 | .block _ c => noDef c
 | .region _ ops _ => ops.toList.all fun o => !isDef o
 | .skip | .exit _ | .ret => true
 | _ => false

theorem vcx_sound {D : Array Oper → (St → Prop) → St → Prop} (hτ : ∀ t, τ t = tiOf P t) (hC : ∀ f args h Q, C f args h Q → PC P γ f args h Q)
  (hD : ∀ id ops K (Q : Exit → St → Prop) A, ops.toList.all (fun o => !isDef o) = true → (∀ A, K A → Q .normal A) → D ops K A → AWPx P γ ro ds (.region id ops true) Q A) :
  ∀ (c : Code) (Q : Exit → St → Prop) (A : St), noDef c = true → vc τ γ C D (fun _ _ _ => False) c Q A → AWPx P γ ro ds c Q A
 | .skip, Q, A, _, h => AWPx.skip h
 | .seq x y, Q, A, hd, h => by
  simp only [noDef, Bool.and_eq_true] at hd
  refine AWPx.seq ((vcx_sound hτ hC hD x _ _ hd.1 h).mono fun e A' h' => ?_)
  cases e with
  | normal => exact vcx_sound hτ hC hD y _ _ hd.2 h'
  | _ => exact h'
 | .cond c x y, Q, A, hd, h => by
  simp only [noDef, Bool.and_eq_true] at hd
  refine AWPx.cond ?_
  simp only [vc] at h
  generalize A.ev γ c = v at *
  cases v
  all_goals first | exact h.elim | skip
  all_goals simp only [br] at h ⊢
  all_goals first | exact vcx_sound hτ hC hD x _ _ hd.1 h | exact vcx_sound hτ hC hD y _ _ hd.2 h | skip
  exact ⟨fun u hu => vcx_sound hτ hC hD x _ _ hd.1 (h.1 u hu), fun u hu => vcx_sound hτ hC hD y _ _ hd.2 (h.2 u hu)⟩
 | .block id c, Q, A, hd, h => AWPx.block (vcx_sound hτ hC hD c _ _ hd h)
 | .exit id, Q, A, _, h => AWPx.exit h
 | .ret, Q, A, _, h => AWPx.ret h
 | .region id ops false, Q, A, hd, h => AWPx.region hd hτ hC h
 | .region id ops true, Q, A, hd, h => hD id ops _ Q A hd (fun _ h => h) h
 | .loop c, Q, A, _, h => h.elim
 | .scope c, Q, A, hd, h => by simp [noDef] at hd
 | .goto _, _, _, _, h => h.elim
 | .label _, Q, A, hd, h => by simp [noDef] at hd
 | .refuse _, _, _, _, h => h.elim
 | .rangeFunc .., _, _, _, h => h.elim

/-- what a walk of straight code may lean on -/
structure EnvX (P : Program) (γ : Nat → Option AV) (C : EC) (CQ : List Blk → QC) (T : Nat → TI) (D : Array Oper → (St → Prop) → St → Prop) : Prop where
 c : ∀ {f args h Q}, SCalls P γ f args h Q → C (.inl f) args h Q
 q : ∀ {h f args k}, QCalls P γ h f args k → CQ h f args k
 d : ∀ n {ops K A}, drawB ops n = true → vhd T γ CQ ops (ops.toList.take n) A (fun A => vops T γ C ops.toList (ops.toList.drop n) A K) → D ops K A

def Dx (P : Program) (γ : Nat → Option AV) (ops : Array Oper) (K : St → Prop) (A : St) : Prop := ops.toList.all (fun o => !isDef o) = true → ∀ ro ds id, AWPx P γ ro ds (.region id ops true) (thenE K fun _ _ => False) A
theorem EnvX.top {ty : Program → Nat → TI} (hτ : ∀ t, ty P t = tiOf P t) (hm : P.follows .mixedOrders = true) : EnvX P γ (PC P γ) (fun h f args k => QCalls P γ h f args k) (ty P) (Dx P γ) where
 c := fun h => h
 q := fun h => h
 d := fun n {ops K A} h1 h2 hd ro ds id => AWPx.draw (Q := thenE K fun _ _ => False) hd hτ (fun _ _ _ _ h => h) (fun _ _ _ _ h => h) hm n h1 h2
theorem EnvX.to {ty : Program → Nat → TI} (hτ : ∀ t, ty P t = tiOf P t) (hm : P.follows .mixedOrders = true) {c : Code} {Q : Exit → St → Prop} {A : St} (hd : noDef c = true) (h : vc (ty P) γ (PC P γ) (Dx P γ) (fun _ _ _ => False) c Q A) : AWPx P γ ro ds c Q A :=
 vcx_sound hτ (fun _ _ _ _ h => h) (fun id ops K Q A hd hK h => (h hd ro ds id).mono fun e A' he => by
  cases e with
  | normal => exact hK A' he
  | _ => exact he.elim) c Q A hd h
end
end Go.AL

namespace Go.AL
open Go Go.RowKit

section
variable {P : Program} {γ : Nat → Option AV}

def noCells (o : Obj) : Prop := ∀ c t f, o ≠ .cells c t f

theorem HeapR.addObj {B : Nat} {S : Nat → Prop} {ρ : List Loc} {h : List Blk} {w : World} (hh : HeapR B S γ ρ h w) (loc : Loc) (K : Nat) (hk : loc.k = some K) (hsub : loc.sub = []) (hS : ¬ S K) (hK : K < w.heap.size) (hB : B ≤ K)
  (hn : ∀ (b : Nat) (lc : Loc), ρ[b]? = some lc → ¬ lc.has K) (blk : Blk) (hb : BlkR S w (ρ ++ [loc]) loc blk) : HeapR B S γ (ρ ++ [loc]) (h ++ [blk]) w := by
 have hup := LocsUp.append ρ [loc]
 have key : ∀ (b : Nat) (lc : Loc), (ρ ++ [loc])[b]? = some lc → (b < ρ.length ∧ ρ[b]? = some lc) ∨ (b = ρ.length ∧ lc = loc) := by
  intro b lc h1
  by_cases hlt : b < ρ.length
  ·rw [List.getElem?_append_left hlt] at h1; exact .inl ⟨hlt, h1⟩
  ·rw [List.getElem?_append_right (by omega)] at h1
   have e1 : b - ρ.length = 0 := by
    have := (List.getElem?_eq_some_iff.1 h1).1; simp at this; omega
   rw [e1] at h1; simp at h1; exact .inr ⟨by omega, h1.symm⟩
 refine ⟨by simp [hh.len], fun b bk lc h1 h2 => ?_, fun b lc K h1 h2 => ?_, fun b b' lc lc' K' h1 h2 h3 h4 => ?_, hh.sle, hh.gok, hh.bsz, fun b lc h1 => ?_⟩
 ·rcases key b lc h2 with ⟨a1, a2⟩ | ⟨a1, rfl⟩
  ·rw [List.getElem?_append_left (by rw [← hh.len]; exact a1)] at h1
   exact (hh.blk b bk lc h1 a2).mono (fun _ h => h) (fun _ _ => rfl) hup fun _ _ => rfl
  ·rw [a1, hh.len] at h1
   simp at h1; subst h1; exact hb
 ·rcases key b lc h1 with ⟨a1, a2⟩ | ⟨a1, rfl⟩
  ·exact hh.own b lc K a2 h2
  ·have h2 := Loc.has_nil hsub h2; rw [hk] at h2; cases h2; exact ⟨hS, hK, hB⟩
 ·rcases key b lc h1 with ⟨a1, a2⟩ | ⟨a1, rfl⟩
  ·rcases key b' lc' h2 with ⟨c1, c2⟩ | ⟨c1, rfl⟩
   ·exact hh.inj b b' lc lc' K' a2 c2 h3 h4
   ·have h4 := Loc.has_nil hsub h4; rw [hk] at h4; cases h4; exact absurd h3 (hn b lc a2)
  ·have h3 := Loc.has_nil hsub h3; rw [hk] at h3; cases h3
   rcases key b' lc' h2 with ⟨c1, c2⟩ | ⟨c1, rfl⟩
   ·exact absurd h4 (hn b' lc' c2)
   ·omega
 ·rcases key b lc h1 with ⟨a1, a2⟩ | ⟨a1, rfl⟩
  ·exact hh.sok b lc a2
  ·exact .nil hsub

/-- a new object -/
theorem HeapR.allocObj {B : Nat} {S : Nat → Prop} {ρ : List Loc} {h : List Blk} {w : World} (hh : HeapR B S γ ρ h w) (o : Obj) (ho : noCells o) (s : Tr) (t : Array Value) (hs : ∀ n, R S w (some ρ) (s.get n) (t.getD n Go.undef)) :
  ∃ ρ', HeapR B S γ ρ' (h ++ [.obj w.heap.size o s t]) (w.alloc o) ∧ Ext B S ρ w S ρ' (w.alloc o) := by
 have hq : ExtQ S w S (w.alloc o) := ⟨Fr.alloc w o fun c t lo hi e => absurd e (ho c t (lo, hi)), fun k hk => Below.heap_alloc w _ k hk, fun _ h => h, fun _ h => .inl h⟩
 have hsz : (w.alloc o).heap.size = w.heap.size + 1 := World.size_alloc ..
 refine ⟨ρ ++ [⟨true, 0, some w.heap.size, 0, 0, []⟩], (hh.q hq).addObj _ w.heap.size rfl rfl (fun hk => by have := hh.sle _ hk; omega) (by omega) hh.bsz (fun b lc h1 h2 => by have := (hh.own b lc _ h1 h2).2.1; omega) _
  ⟨rfl, rfl, World.alloc_heap_new w o, fun n => ?_⟩, ?_⟩
 ·exact R.mono (fun _ h => h) (fun k hk => hq.same k (hh.sle k hk)) (ρ := some ρ) (ρ' := some (ρ ++ [_])) (LocsUp.append ρ _) _ _ (hs n)
 ·exact (hh.ext hq).trans ⟨Fr.refl _, fun _ _ => rfl, fun _ h => h, fun _ _ => rfl, LocsUp.append ρ _, fun _ h => .inl h⟩

/-- an object is turned into another -/
theorem HeapR.putObj {B : Nat} {S : Nat → Prop} {ρ : List Loc} {h : List Blk} {w : World} (hh : HeapR B S γ ρ h w) {b K : Nat} {o : Obj} (o' : Obj) {s : Tr} {t : Array Value} (hb : h[b]? = some (.obj K o s t)) (ho : noCells o) (ho' : noCells o') :
  w.heap[K]? = some o ∧ HeapR B S γ ρ (h.set b (.obj K o' s t)) (w.putObj K o') ∧ Ext B S ρ w S ρ (w.putObj K o') ∧ ∀ n, R S w (some ρ) (s.get n) (t.getD n Go.undef) := by
 have hblt : b < ρ.length := by rw [hh.len]; exact (List.getElem?_eq_some_iff.1 hb).1
 obtain ⟨loc, hloc⟩ : ∃ loc, ρ[b]? = some loc := ⟨_, List.getElem?_eq_getElem hblt⟩
 obtain ⟨k1, k2, k3, k4⟩ := hh.blk b _ loc hb hloc
 obtain ⟨m1, m2, m3⟩ := hh.own b loc K hloc (.inl k2)
 have same : SameOn S w (w.putObj K o') := fun k hk => World.putObj_heap_other (fun e => m1 (e ▸ hk))
 have fro : ∀ a, (w.putObj K o').frozen? a = w.frozen? a := fun a => by
  by_cases e : a.block = K
  ·simp only [World.frozen?, e, World.putObj_heap_same m2, k3]
   cases o' <;> first | exact absurd rfl (ho' _ _ _) | (cases o <;> first | exact absurd rfl (ho _ _ _) | rfl)
  ·simp only [World.frozen?, World.putObj_heap_other e]
 have fr : Fr w (w.putObj K o') := ⟨rfl, rfl, rfl, by simp, fun a _ => fro a⟩
 refine ⟨k3, ⟨by simp [hh.len], fun b' bk lc h1 h2 => ?_, fun b' lc K' h1 h2 => by have := hh.own b' lc K' h1 h2; simpa using this, hh.inj, fun k hk => by simpa using hh.sle k hk, fun g x hg => ?_, by simpa using hh.bsz, hh.sok⟩,
  ⟨fr, fun k hk => World.putObj_heap_other (by omega), fun _ h => h, same, LocsUp.refl ρ, fun _ h => .inl h⟩, k4⟩
 ·by_cases e : b = b'
  ·subst e
   rw [hloc] at h2; cases h2
   rw [List.getElem?_set_self (by rw [← hh.len]; exact hblt)] at h1
   cases h1
   exact ⟨k1, k2, World.putObj_heap_same m2, fun n => R.mono (fun _ h => h) same (ρ := some ρ) (ρ' := some ρ) (LocsUp.refl ρ) _ _ (k4 n)⟩
  ·rw [List.getElem?_set_ne e] at h1
   refine (hh.blk b' bk lc h1 h2).mono (fun _ h => h) same (LocsUp.refl ρ) fun K' hK' => World.putObj_heap_other fun e' => e ?_
   subst e'
   exact hh.inj b b' loc lc _ hloc h2 (.inl k2) hK'
 ·exact R.mono (fun _ h => h) same (ρ := none) (ρ' := none) trivial _ _ (hh.gok g x hg)
end
end Go.AL

namespace Go.AL
open Go Go.RowKit

/-- the loop's record -/
def recOf (fn : FuncId) (t : Array Value) (ps : Array Tmp) (asg bd : Code) (D : Nat) (st : LoopState) (pe : Option Code) : Obj :=
 .loop { state := st, pending := pe, fn, tmps := t, params := ps, assign := asg, body := bd, defers := D }
theorem recOf_nc {fn : FuncId} {t : Array Value} {ps : Array Tmp} {asg bd : Code} {D : Nat} {st : LoopState} {pe : Option Code} : noCells (recOf fn t ps asg bd D st pe) := fun _ _ _ h => by cases h

section
variable {P : Program} {γ : Nat → Option AV}

theorem sets_slots {S : Nat → Prop} {w : World} {ρ : List Loc} : ∀ (ps : List Tmp) (args : List AV) (vals : List Value) (s : Tr) (t : Array Value), Rs S w (some ρ) args vals → ps.length = args.length → (∀ p ∈ ps, p < t.size ∧ p + 1 < 1024) →
  (∀ n, R S w (some ρ) (s.get n) (t.getD n Go.undef)) → ∀ n, R S w (some ρ) ((sets (ps.zip args) s).get n) (((ps.zip vals).foldl (fun t (p, v) => t.setIfInBounds p v) t).getD n Go.undef)
 | [], args, vals, s, t, _, _, _, hs, n => by simpa [sets] using hs n
 | p :: ps, args, vals, s, t, hr, hl, hp, hs, n => by
  cases args with
  | nil => simp at hl
  | cons x args =>
   obtain ⟨v, vs, rfl, h1, h2⟩ := hr
   simp only [List.zip_cons_cons, sets, List.foldl_cons]
   refine sets_slots ps args vs _ _ h2 (by simpa using hl) (fun q hq => by have := hp q (List.mem_cons_of_mem _ hq); simpa using this) (fun m => ?_) n
   obtain ⟨hp1, hp2⟩ := hp p List.mem_cons_self
   rw [Tr.get_set' 10 s p m x (by omega)]
   by_cases e : m = p
   ·subst e
    rw [if_pos rfl]
    have : (t.setIfInBounds m v).getD m Go.undef = v := by simp [Array.getD, hp1]
    rw [this]; exact h1
   ·rw [if_neg e]
    have : (t.setIfInBounds p v).getD m Go.undef = t.getD m Go.undef := by
     rw [Array.getD_eq_getD_getElem?, Array.getD_eq_getD_getElem?, Array.getElem?_setIfInBounds_ne (Ne.symm e)]
    rw [this]; exact hs m

theorem foldl_size : ∀ (l : List (Tmp × Value)) (t : Array Value), (l.foldl (fun t (p, v) => t.setIfInBounds p v) t).size = t.size
 | [], t => rfl
 | (p, v) :: l, t => by rw [List.foldl_cons, foldl_size l]; simp

/-- what a round's body must leave -/
def endQ (b l : Nat) (oB oR : Obj) (oX : Option Obj) (s : Tr) (t : Array Value) (Q : AV → List Blk → Prop) : Exit → St → Prop
 | .normal, A => A.h[b]? = some (.obj l oB s t) ∧ Q .tt (A.h.set b (.obj l oR s t))
 | .ret, A => match oX with | some oX => A.h[b]? = some (.obj l oB s t) ∧ Q .ff (A.h.set b (.obj l oX s t)) | none => False
 | _, _ => False

theorem YCall.of_body {l D b fn n0 : Nat} {s : Tr} {t : Array Value} {ps : Array Tmp} {asg bd : Code} {H : List Blk} {args : List AV} {Q : AV → List Blk → Prop} (hn : t.size = n0) (hn0 : n0 ≤ 1000) (hps : ps.toList.length = args.length) (hp : ∀ p ∈ ps.toList, p < n0)
  (hb : H[b]? = some (.obj l (recOf fn t ps asg bd D .ready none) s t))
  (h : AWPx P γ (some l) [] asg (thenE (fun A => A.h[b]? = some (.obj l (recOf fn t ps asg bd D .ready none) s t) ∧
   AWPx P γ (some l) [] bd (endQ b l (recOf fn t ps asg bd D .busy none) (recOf fn t ps asg bd D .ready none) (some (recOf fn t ps asg bd D .done (some .ret))) s t Q) ⟨A.n, A.s, A.h.set b (.obj l (recOf fn t ps asg bd D .busy none) s t)⟩) fun _ _ => False) ⟨n0, sets (ps.toList.zip args) s, H⟩) : YCall P γ l args H Q := by
 intro B S ρ w vals hh hr
 have hblt : b < ρ.length := by rw [hh.len]; exact (List.getElem?_eq_some_iff.1 hb).1
 obtain ⟨_, _, hl, hslots⟩ := hh.blk b _ _ hb (List.getElem?_eq_getElem hblt)
 have hvl := Rs_len hr
 have hy := run_yield (P := P) (args := vals.toArray) hl (by show vals.toArray.size = ps.size; simp; rw [hvl, ← hps]; simp)
 refine ⟨_, _, _, _, hy, fun n => roundIn_of_wpIn (F := Fence.wide) trivial ?_⟩
 have hz : ∀ (vs : List Value), (ps.zip vs.toArray).foldl (fun t (p, v) => t.setIfInBounds p v) t = (ps.toList.zip vs).foldl (fun t (p, v) => t.setIfInBounds p v) t := fun vs => by
  rw [← Array.foldl_toList]; simp
 have hsim : Sim B S γ ρ ⟨n0, sets (ps.toList.zip args) s, H⟩ ⟨(ps.zip vals.toArray).foldl (fun t (p, v) => t.setIfInBounds p v) t, []⟩ w := by
  refine ⟨rfl, ?_, hn0, ?_, hh⟩
  ·show ((ps.zip vals.toArray).foldl (fun t (p, v) => t.setIfInBounds p v) t).size = n0
   rw [hz, foldl_size]; exact hn
  ·intro m
   show R S w (some ρ) ((sets (ps.toList.zip args) s).get m) (((ps.zip vals.toArray).foldl (fun t (p, v) => t.setIfInBounds p v) t).getD m Go.undef)
   rw [hz]
   exact sets_slots _ _ _ _ _ hr hps (fun p hp' => ⟨by rw [hn]; exact hp p hp', by have h9 : @LT.lt Nat _ p n0 := hp p hp'; exact (by omega : @LT.lt Nat _ (@HAdd.hAdd Nat Nat Nat _ p 1) 1024)⟩) hslots m
 refine wpIn_mono (h B S ρ _ w n hsim) fun e a1 w1 ⟨a0, S1, ρ1, A1, h0, h1, hs1, hx1⟩ => ?_
 cases e with
 | normal =>
  obtain ⟨hb1, hbody⟩ := h1
  obtain ⟨hl1, hh1, hxp, _⟩ := hs1.heap.putObj (recOf fn t ps asg bd D .busy none) hb1 recOf_nc recOf_nc
  refine ⟨_, run_beginRound hl1 rfl, ?_⟩
  subst h0
  refine wpIn_mono (hbody B S1 ρ1 a0 _ n ⟨hs1.nodef, hs1.size, hs1.small, fun m => hxp.R (hs1.slot m), hh1⟩) fun e a2 w2 ⟨a3, S2, ρ2, A2, h2, h3, hs2, hx2⟩ => ?_
  have hx := (hx1.trans hxp).trans hx2
  cases e with
  | normal =>
   obtain ⟨hb2, hQ⟩ := h3
   obtain ⟨hl2, hh2, hxq, _⟩ := hs2.heap.putObj (recOf fn t ps asg bd D .ready none) hb2 recOf_nc recOf_nc
   exact ⟨_, _, run_endRound none hl2, .tt, _, S2, ρ2, _, rfl, hQ, rfl, hh2, hx.trans hxq⟩
  | ret =>
   obtain ⟨hb2, hQ⟩ := h3
   obtain ⟨hl2, hh2, hxq, _⟩ := hs2.heap.putObj (recOf fn t ps asg bd D .done (some .ret)) hb2 recOf_nc recOf_nc
   exact ⟨_, _, run_endRound (some .ret) hl2, .ff, _, S2, ρ2, _, rfl, hQ, rfl, hh2, hx.trans hxq⟩
  | _ => exact h3.elim
 | _ => exact h1.elim
end
end Go.AL
