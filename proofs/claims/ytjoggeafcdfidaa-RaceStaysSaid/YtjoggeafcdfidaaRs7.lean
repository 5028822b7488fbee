import Derived.Test.YtjoggeafcdfidaaRs6
import Derived.OpenShut
import Derived.ReadAgain
import Derived.Deep.DeepHandedRow
import Derived.Lib.LaidTab
import Derived.ProofKit
import Derived.Test.YtjoggeafcdfidaaRows
set_option linter.unusedVariables false
set_option linter.unusedSimpArgs false
namespace Go.AL.Rl
open Go Go.AL Go.Proofs
set_option maxRecDepth 100000
set_option maxHeartbeats 3200000
variable {γ : Nat → Option AV}

theorem evL_set (l : List (List Ev)) (t : Nat) (x : List Ev) : (evL l).set t (evs x) = evL (l.set t x) := by simp [evL, List.map_set]
theorem idL_set (l : List (List EId)) (t : Nat) (x : List EId) : (idL l).set t (ids x) = idL (l.set t x) := by simp [idL, List.map_set]
theorem evL_get (l : List (List Ev)) (t : Nat) : (evL l).getD t .nil = evs (l.getD t []) := by
  unfold evL
  rcases Nat.lt_or_ge t l.length with h | h
  · simp [h]
  · simp [List.getElem?_eq_none h, evs, LV.of]
theorem idL_get (l : List (List EId)) (t : Nat) : (idL l).getD t .nil = ids (l.getD t []) := by
  unfold idL
  rcases Nat.lt_or_ge t l.length with h | h
  · simp [h]
  · simp [List.getElem?_eq_none h, ids, LV.of]
theorem one_len (f : AV → AV) (z x : AV) : (LV.of (List.map f (setAll (List.replicate (Nat.succ 0) z) [(0, x)]))).l.length = 1 := by simp [setAll]
theorem tn1 (t : Nat) : ((t : Int) + 1 - 1).toNat = t := by omega
theorem fine_nat {n : Nat} {e : Ev} (h : fineM n e = true) (hw : writesM e = true) : ∃ x : Nat, e.loc = (x : Int) ∧ x < n := by
  unfold fineM at h
  unfold writesM at hw
  simp only [Bool.and_eq_true, Bool.or_eq_true, decide_eq_true_eq] at h hw
  have hk : ¬ e.kind = 4 := by omega
  have h4 := h.2
  rw [if_neg hk, decide_eq_true_eq] at h4
  exact ⟨e.loc.toNat, by omega, by omega⟩
theorem rd_add {g : Gr} (hg : GOk g) (t : Nat) (e : Ev) (d : EId) (p : Int) : Rd (addG g t e d p) := by
  have hb := rd_short hg
  have h := rdb_ok hg
  have hs := hg.short
  have hm : ∀ {α : Type} (l : List (List α)) (i : Nat) (x : List α), (∀ y ∈ l, (y.length : Int) ≤ 9223372036854775807) → (x.length : Int) ≤ 9223372036854775807 → ∀ y ∈ l.set i x, (y.length : Int) ≤ 9223372036854775807 := fun l i x h1 h2 y hy => by
    rcases List.mem_or_eq_of_mem_set hy with hy | rfl
    · exact h1 y hy
    · exact h2
  have a1 := hs.at t
  have a2 : ((g.fr.getD t []).length : Int) * 16 ≤ 140737488351232 := by
    rcases Nat.lt_or_ge t g.fr.length with h1 | h1
    · have := h.frs _ (getD_mem (d := []) h1); omega
    · rw [List.getD_eq_getElem?_getD, List.getElem?_eq_none h1]; simp
  have a3 : ((g.ord.getD e.loc.toNat []).length : Int) * 16 ≤ 140737488351232 := by
    rcases Nat.lt_or_ge e.loc.toNat g.ord.length with h1 | h1
    · have := h.ords _ (getD_mem (d := []) h1); omega
    · rw [List.getD_eq_getElem?_getD, List.getElem?_eq_none h1]; simp
  refine ⟨hb.init, by show ((g.th.set t _).length : Int) ≤ _; rw [List.length_set]; exact hb.th, by show ((g.fr.set t _).length : Int) ≤ _; rw [List.length_set]; exact hb.fr, ?_, hm _ _ _ hb.ths (by rw [List.length_append]; simp only [List.length_cons, List.length_nil]; omega), hm _ _ _ hb.frs (by rw [List.length_append]; simp only [List.length_cons, List.length_nil]; omega), ?_⟩
  · show ((if writesM e = true then g.ord.set e.loc.toNat (addO g t e p) else g.ord).length : Int) ≤ _
    split
    · rw [List.length_set]; exact hb.ord
    · exact hb.ord
  · show ∀ y ∈ (if writesM e = true then g.ord.set e.loc.toNat (addO g t e p) else g.ord), _
    split
    · refine hm _ _ _ hb.ords ?_
      unfold addO
      simp only [List.length_append, List.length_take, List.length_drop, List.length_cons, List.length_nil]
      omega
    · exact hb.ords
theorem gcheck_iff {g : Gr} : gcheckM g = 0 ↔ GOk g := by
  constructor
  · intro h
    unfold gcheckM at h
    split at h
    · split at h
      · assumption
      · cases h
    · cases h
  · exact gcheck0
theorem radd_main (g : Gr) (hg : GOk g) (t : Nat) (ht : t < g.th.length) (hl : (g.th.getD t []).length ≠ 14) (e : Ev) (d : EId) (p : Int) :
    Pure Try.prog γ false 12 [aGr g, .i fun _ => (t : Int) + 1, aEv e, aId d, .i fun _ => p] (.tup [aGr (if addC g t e d p then addG g t e d p else ⟨[], [], [], []⟩), .i fun _ => if addC g t e d p then 0 else 2]) := by
  have hR := rd_short hg
  have kc := check14_ok (γ := γ) g hR
  rw [gcheck0 hg] at kc
  obtain ⟨n1, n2, n3, ko⟩ := rcopy_own (γ := γ) g (rdb_ok hg) hR
  have kf := fine_ok (γ := γ) e (addS g t e d)
  have kw := rwrites_ok (γ := γ) e
  have hs := hg.short
  have hth := hs.th
  have hle := hs.at t
  have hlf := hg.lfr
  have hlo := hg.lord
  have hin := hs.init
  have hol := ord56 hg e.loc.toNat
  obtain ⟨rG, hrG⟩ : ∃ r, r = if addC g t e d p then addG g t e d p else ⟨[], [], [], []⟩ := ⟨_, rfl⟩
  obtain ⟨rE, hrE⟩ : ∃ r : Int, r = if addC g t e d p then 0 else 2 := ⟨_, rfl⟩
  rw [← hrG, ← hrE]
  have hyes : addC g t e d p → rG = addG g t e d p ∧ rE = 0 := fun h => by rw [hrG, hrE, if_pos h, if_pos h]; exact ⟨rfl, rfl⟩
  have hno : ¬ addC g t e d p → rG = ⟨[], [], [], []⟩ ∧ rE = 2 := fun h => by rw [hrG, hrE, if_neg h, if_neg h]; exact ⟨rfl, rfl⟩
  clear hrG hrE
  refine Pure.go (ty := ty) ty_eq mo Try.func12 rfl Try.ntmps12 Try.results12 Try.call12 (by simp) fun P C CQ D W F E hF => ?_
  cbv
  skip
  repeat' (first
    | (refine E.c (SCalls.of_owns (ko) ?_ ?_); (· (cbv; (try simp only [nc] at *); first | done | (simp; done) | (simp (disch := (first | omega | (simp only [lnS]; omega))) only [rdT, rdS, tn1, anT]; first | done | omega | (refine ⟨?_, ?_⟩ <;> omega)) | (simp (disch := (first | omega | (simp only [lnS]; omega))) [rdT, rdS, tn1]; done))); cbv)
    | (refine E.c (SCalls.of_le (kc) ?_ ?_); (· (cbv; (try simp only [nc] at *); first | done | (simp; done) | (simp (disch := (first | omega | (simp only [lnS]; omega))) only [rdT, rdS, tn1, anT]; first | done | omega | (refine ⟨?_, ?_⟩ <;> omega)) | (simp (disch := (first | omega | (simp only [lnS]; omega))) [rdT, rdS, tn1]; done))); cbv)
    | (refine ⟨fun _ h_s => ?_, fun _ h_s => ?_⟩ <;> (cbv; (try simp only [nc] at *); try simp (disch := (first | omega | (simp only [lnS]; omega))) only [rdT, rdS, tn1, reduceCtorEq, trT] at h_s))
    | (refine hF ?_; intro _; clear hF)
    | (refine hF ?_; cbv; clear hF)
    | (refine ⟨fun _ => ?_, ?_⟩; (· ((try simp only [nc] at *); first | done | omega | exact ⟨by omega, rfl⟩ | (simp (disch := (first | omega | (simp only [lnS]; omega))) only [rdT, rdS, tn1]; first | done | omega | rfl | exact ⟨by omega, rfl⟩ | (simp; done) | (simp; omega)) | (intros; trivial))); (try (simp only [nc] at *)); (try simp (disch := (first | omega | (simp only [lnS]; omega))) only [rdT, rdS, tn1]); (try cbv))
    | fail
  )
  · exact absurd h_s (by simp)
  · exfalso; ((try simp only [nc] at *); omega)
  · exfalso; ((try simp only [nc] at *); omega)
  · exfalso; ((try simp only [nc] at *); omega)
  have q1 := evs_len (g.th.getD t [])
  have q2 := ids_len (g.fr.getD t [])
  have q3 : (g.fr.getD t []).length ≤ 14 := by have := (hg.events t ht).1; omega
  refine E.sb (Step.takeE 8 rfl (fun _ => t) (fun _ => evs (g.th.getD t [])) (fun _ => (g.th.getD t []).length) (fun _ => by rw [evL_len]; exact ht) fun _ => ⟨evL_get _ _, q1⟩) ?_
  refine E.st fun J hJ => E.de 13 [13] [] (by decide +kernel) ?_
  cbv
  skip
  skip
  repeat' (first
    | (refine ⟨fun _ h_s => ?_, fun _ h_s => ?_⟩ <;> (cbv; (try simp only [nc] at *); try simp (disch := (first | omega | (simp only [lnS]; omega))) only [rdT, rdS, tn1, reduceCtorEq, trT] at h_s))
    | (refine hF ?_; intro _; clear hF)
    | (refine hF ?_; cbv; clear hF)
    | (refine ⟨fun _ => ?_, ?_⟩; (· ((try simp only [nc] at *); first | done | omega | exact ⟨by omega, rfl⟩ | (simp (disch := (first | omega | (simp only [lnS]; omega))) only [rdT, rdS, tn1]; first | done | omega | rfl | exact ⟨by omega, rfl⟩ | (simp; done) | (simp; omega)) | (intros; trivial) | exact ⟨by first | trivial | rfl, by omega, by first | (rw [evL_len]; omega) | (rw [idL_len]; omega)⟩ | exact ⟨by first | trivial | rfl, by first | trivial | rfl, by first | trivial | rfl | (simp; done), by (simp only [one_len]; omega), by (simp only [one_len]; omega), by simp [setAll, AV.nrm, nrms, nrm1, AV.flat, AV.cells, AV.one]⟩)); (try (simp only [nc] at *)); (try simp (disch := (first | omega | (simp only [lnS]; omega))) only [rdT, rdS, tn1]); (try cbv))
    | fail
  )
  refine hJ (Step.putE 8 13 (fun _ => evL (addS g t e d).th) rfl rfl fun _ => ⟨⟨rfl, rfl, ?_⟩, ?_⟩) ?_
  · simp [LV.l_of]
  · show (evL g.th).set t _ = evL (g.th.set t _)
    rw [← evL_set]
    congr 1
    simp [evs, setAll, AV.nrm, nrms, nrm1]
  cbv
  refine E.sb (Step.takeE 9 rfl (fun _ => t) (fun _ => ids (g.fr.getD t [])) (fun _ => (g.fr.getD t []).length) (fun _ => by rw [idL_len]; omega) fun _ => ⟨idL_get _ _, q2⟩) ?_
  refine E.st fun J2 hJ2 => E.de 13 [14] [] (by decide +kernel) ?_
  cbv
  repeat' (first
    | (refine ⟨fun _ h_s => ?_, fun _ h_s => ?_⟩ <;> (cbv; (try simp only [nc] at *); try simp (disch := (first | omega | (simp only [lnS]; omega))) only [rdT, rdS, tn1, reduceCtorEq, trT] at h_s))
    | (refine hF ?_; intro _; clear hF)
    | (refine hF ?_; cbv; clear hF)
    | (refine ⟨fun _ => ?_, ?_⟩; (· ((try simp only [nc] at *); first | done | omega | exact ⟨by omega, rfl⟩ | (simp (disch := (first | omega | (simp only [lnS]; omega))) only [rdT, rdS, tn1]; first | done | omega | rfl | exact ⟨by omega, rfl⟩ | (simp; done) | (simp; omega)) | (intros; trivial) | exact ⟨by first | trivial | rfl, by omega, by first | (rw [evL_len]; omega) | (rw [idL_len]; omega)⟩ | exact ⟨by first | trivial | rfl, by first | trivial | rfl, by first | trivial | rfl | (simp; done), by (simp only [one_len]; omega), by (simp only [one_len]; omega), by simp [setAll, AV.nrm, nrms, nrm1, AV.flat, AV.cells, AV.one]⟩)); (try (simp only [nc] at *)); (try simp (disch := (first | omega | (simp only [lnS]; omega))) only [rdT, rdS, tn1]); (try cbv))
    | fail
  )
  refine hJ2 (Step.putE 9 14 (fun _ => idL (addS g t e d).fr) rfl rfl fun _ => ⟨⟨rfl, rfl, ?_⟩, ?_⟩) ?_
  · simp [LV.l_of]
  · show (idL g.fr).set t _ = idL (g.fr.set t _)
    rw [← idL_set]
    congr 1
    simp [ids, setAll, AV.nrm, nrms, nrm1]
  cbv
  have hinit : (addS g t e d).init = g.init := rfl
  have hS1 : (evss (addS g t e d).th).l = (evL (addS g t e d).th).map fun x => .vs 5 fun _ => x := evss_L _
  have hS2 : (idss (addS g t e d).fr).l = (idL (addS g t e d).fr).map fun x => .vs 2 fun _ => x := idss_L _
  have hS3 : (idss g.ord).l = (idL g.ord).map fun x => .vs 2 fun _ => x := idss_L _
  have hS4 : (addS g t e d).ord = g.ord := rfl
  have hS5 : (evL (addS g t e d).th).length = g.th.length := by rw [evL_len]; simp [addS]
  have hS6 : (idL (addS g t e d).fr).length = g.fr.length := by rw [idL_len]; simp [addS]
  have hS7 : (idL g.ord).length = g.ord.length := idL_len _
  have hS8 : List.take g.init.length (is g.init).l = (is g.init).l := List.take_of_length_le (by simp)
  by_cases hf : fineM g.init.length e = true
  · rw [show fineM ((addS g t e d).init.length : Int) e = true from hf] at kf
    refine E.c (SCalls.of_bare kf rfl ?_ ?_)
    · cbv; simp [hinit, hS1, hS2, hS3, hS4, hS5, hS6, hS7, hS8]
    cbv
    by_cases hw : writesM e = true
    · rw [hw] at kw
      obtain ⟨x, hx, hx2⟩ := fine_nat hf hw
      repeat' (first
        | (refine E.c (SCalls.of_le (kw) ?_ ?_); (· (cbv; (try simp only [nc] at *); first | done | (simp; done) | (simp (disch := (first | omega | (simp only [lnS]; omega))) only [rdT, rdS, tn1, anT]; first | done | omega | (refine ⟨?_, ?_⟩ <;> omega)) | (simp (disch := (first | omega | (simp only [lnS]; omega))) [rdT, rdS, tn1]; done))); cbv)
        | (refine ⟨fun _ h_s => ?_, fun _ h_s => ?_⟩ <;> (cbv; (try simp only [nc] at *); try simp (disch := (first | omega | (simp only [lnS]; omega))) only [rdT, rdS, tn1, reduceCtorEq, trT] at h_s))
        | (refine hF ?_; intro _; clear hF)
        | (refine hF ?_; cbv; clear hF)
        | (refine ⟨fun _ => ?_, ?_⟩; (· ((try simp only [nc] at *); first | done | omega | exact ⟨by omega, rfl⟩ | (simp (disch := (first | omega | (simp only [lnS]; omega))) only [rdT, rdS, tn1]; first | done | omega | rfl | exact ⟨by omega, rfl⟩ | (simp; done) | (simp; omega)) | (intros; trivial) | exact ⟨by first | trivial | rfl, by omega, by first | (rw [evL_len]; omega) | (rw [idL_len]; omega)⟩ | exact ⟨by first | trivial | rfl, by first | trivial | rfl, by first | trivial | rfl | (simp; done), by (simp only [one_len]; omega), by (simp only [one_len]; omega), by simp [setAll, AV.nrm, nrms, nrm1, AV.flat, AV.cells, AV.one]⟩)); (try (simp only [nc] at *)); (try simp (disch := (first | omega | (simp only [lnS]; omega))) only [rdT, rdS, tn1]); (try cbv))
        | fail
      )
      · obtain ⟨z1, z2⟩ := hno fun h => by (have := h.2.1; rw [if_pos hw] at this; ((try simp only [nc] at *); omega))
        rw [z1, z2]
        simp [is, evss, idss, LV.of, LV.l]
      · obtain ⟨z1, z2⟩ := hno fun h => by (have h' := h.2.1; rw [if_pos hw] at h'; (try simp only [nc] at *); omega)
        rw [z1, z2]
        simp [is, evss, idss, LV.of, LV.l]
      refine E.sb (Step.drop 10 rfl (fun _ => e.loc.toNat)) ?_
      refine E.st fun J3 hJ3 => E.de 18 [] [some 2] (by decide +kernel) ?_
      cbv
      skip
      repeat' (first
        | (refine ⟨fun _ h_s => ?_, fun _ h_s => ?_⟩ <;> (cbv; (try simp only [nc] at *); try simp (disch := (first | omega | (simp only [lnS]; omega))) only [rdT, rdS, tn1, reduceCtorEq, trT] at h_s))
        | (refine hF ?_; intro _; clear hF)
        | (refine hF ?_; cbv; clear hF)
        | (refine ⟨fun _ => ?_, ?_⟩; (· ((try simp only [nc] at *); first | done | omega | exact ⟨by omega, rfl⟩ | (simp (disch := (first | omega | (simp only [lnS]; omega))) only [rdT, rdS, tn1]; first | done | omega | rfl | exact ⟨by omega, rfl⟩ | (simp; done) | (simp; omega)) | (intros; trivial) | exact ⟨by first | trivial | rfl, by omega, by first | (rw [evL_len]; omega) | (rw [idL_len]; omega)⟩ | exact ⟨by first | trivial | rfl, by first | trivial | rfl, by first | trivial | rfl | (simp; done), by (simp only [one_len]; omega), by (simp only [one_len]; omega), by simp [setAll, AV.nrm, nrms, nrm1, AV.flat, AV.cells, AV.one]⟩ | exact ⟨by first | trivial | rfl, by first | trivial | rfl, by first | trivial | rfl | (first | (simp only [LV.l_of, LV.l, List.length_append, List.length_take, List.length_drop, List.length_nil, ids_len, List.length_map, setAll, List.length_set, List.length_replicate]; done) | (simp only [LV.l_of, LV.l, List.length_append, List.length_take, List.length_drop, List.length_nil, ids_len, List.length_map, setAll, List.length_set, List.length_replicate]; omega)), by (first | (simp only [LV.l_of, LV.l, List.length_append, List.length_take, List.length_drop, List.length_nil, ids_len, List.length_map, setAll, List.length_set, List.length_replicate]; done) | (simp only [LV.l_of, LV.l, List.length_append, List.length_take, List.length_drop, List.length_nil, ids_len, List.length_map, setAll, List.length_set, List.length_replicate]; omega)), by (first | (simp only [LV.l_of, LV.l, List.length_append, List.length_take, List.length_drop, List.length_nil, ids_len, List.length_map, setAll, List.length_set, List.length_replicate]; done) | (simp only [LV.l_of, LV.l, List.length_append, List.length_take, List.length_drop, List.length_nil, ids_len, List.length_map, setAll, List.length_set, List.length_replicate]; omega)), by first | (simp [setAll, AV.nrm, nrms, nrm1, AV.flat, AV.cells, AV.one]; done) | exact fun v hv => id_flat _ v (List.mem_of_mem_take (by simpa using hv)) | exact fun v hv => id_flat _ v (List.mem_of_mem_drop (List.mem_of_mem_take (by simpa using hv)))⟩)); (try (simp only [nc] at *)); (try simp (disch := (first | omega | (simp only [lnS]; omega))) only [rdT, rdS, tn1]); (try cbv))
        | fail
      )
      obtain ⟨H, hH⟩ : ∃ H, H = addG g t e d p := ⟨_, rfl⟩
      have hHi : H.init = g.init := by rw [hH]; rfl
      have hHt : H.th = (addS g t e d).th := by rw [hH]; rfl
      have hHf : H.fr = (addS g t e d).fr := by rw [hH]; rfl
      have hHo : H.ord = g.ord.set e.loc.toNat (addO g t e p) := by rw [hH]; exact if_pos hw
      have hS9 : (idss H.ord).l = (idL H.ord).map fun x => .vs 2 fun _ => x := idss_L _
      have hS10 : (idL H.ord).length = g.ord.length := by rw [idL_len, hHo, List.length_set]
      have kb := check14_ok (γ := γ) H (by rw [hH]; exact rd_add hg t e d p)
      refine hJ3 (Step.putE 10 15 (fun _ => idL H.ord) rfl rfl fun _ => ⟨⟨rfl, rfl, ?_⟩, ?_⟩) ?_
      · simp only [LV.l_of, LV.l, List.length_append, List.length_take, List.length_drop, List.length_nil, ids_len, List.length_map, setAll, List.length_set, List.length_replicate]
      · show (idL g.ord).set e.loc.toNat _ = idL H.ord
        rw [hHo, ← idL_set]
        congr 1
        unfold addO
        simp [ids, LV.l, setAll, AV.nrm, nrms, nrm1, List.map_take, List.map_drop]
        first | done | rw [List.take_of_length_le (l := List.drop _ _) (by simp; omega)] | rw [List.take_of_length_le (l := List.drop _ _) (by simp)]
      cbv
      refine E.c (SCalls.of_bare kb rfl ?_ ?_)
      · cbv; simp [hHi, hHt, hHf, hS1, hS2, hS5, hS6, hS8, hS9, hS10]
      cbv
      repeat' (first
        | (refine ⟨fun _ h_s => ?_, fun _ h_s => ?_⟩ <;> (cbv; (try simp only [nc] at *); try simp (disch := (first | omega | (simp only [lnS]; omega))) only [rdT, rdS, tn1, reduceCtorEq, trT] at h_s))
        | (refine hF ?_; intro _; clear hF)
        | (refine hF ?_; cbv; clear hF)
        | (refine ⟨fun _ => ?_, ?_⟩; (· ((try simp only [nc] at *); first | done | omega | exact ⟨by omega, rfl⟩ | (simp (disch := (first | omega | (simp only [lnS]; omega))) only [rdT, rdS, tn1]; first | done | omega | rfl | exact ⟨by omega, rfl⟩ | (simp; done) | (simp; omega)) | (intros; trivial) | exact ⟨by first | trivial | rfl, by omega, by first | (rw [evL_len]; omega) | (rw [idL_len]; omega)⟩ | exact ⟨by first | trivial | rfl, by first | trivial | rfl, by first | trivial | rfl | (simp; done), by (simp only [one_len]; omega), by (simp only [one_len]; omega), by simp [setAll, AV.nrm, nrms, nrm1, AV.flat, AV.cells, AV.one]⟩ | exact ⟨by first | trivial | rfl, by first | trivial | rfl, by first | trivial | rfl | (first | (simp only [LV.l_of, LV.l, List.length_append, List.length_take, List.length_drop, List.length_nil, ids_len, List.length_map, setAll, List.length_set, List.length_replicate]; done) | (simp only [LV.l_of, LV.l, List.length_append, List.length_take, List.length_drop, List.length_nil, ids_len, List.length_map, setAll, List.length_set, List.length_replicate]; omega)), by (first | (simp only [LV.l_of, LV.l, List.length_append, List.length_take, List.length_drop, List.length_nil, ids_len, List.length_map, setAll, List.length_set, List.length_replicate]; done) | (simp only [LV.l_of, LV.l, List.length_append, List.length_take, List.length_drop, List.length_nil, ids_len, List.length_map, setAll, List.length_set, List.length_replicate]; omega)), by (first | (simp only [LV.l_of, LV.l, List.length_append, List.length_take, List.length_drop, List.length_nil, ids_len, List.length_map, setAll, List.length_set, List.length_replicate]; done) | (simp only [LV.l_of, LV.l, List.length_append, List.length_take, List.length_drop, List.length_nil, ids_len, List.length_map, setAll, List.length_set, List.length_replicate]; omega)), by first | (simp [setAll, AV.nrm, nrms, nrm1, AV.flat, AV.cells, AV.one]; done) | exact fun v hv => id_flat _ v (List.mem_of_mem_take (by simpa using hv)) | exact fun v hv => id_flat _ v (List.mem_of_mem_drop (List.mem_of_mem_take (by simpa using hv)))⟩)); (try (simp only [nc] at *)); (try simp (disch := (first | omega | (simp only [lnS]; omega))) only [rdT, rdS, tn1]); (try cbv))
        | fail
      )
      · obtain ⟨z1, z2⟩ := hno fun h => by (have h3 : GOk H := (by rw [hH]; exact h.2.2); exact h_s (gcheck0 h3))
        rw [z1, z2]
        simp [is, evss, idss, LV.of, LV.l]
      · obtain ⟨z1, z2⟩ := hyes ⟨hf, by rw [if_pos hw]; (try simp only [nc] at *); omega, by rw [← hH]; exact gcheck_iff.1 h_s⟩
        rw [z1, z2, ← hH]
        simp [hHi, hHt, hHf, hS1, hS2, hS5, hS6, hS8, hS9, hS10]
    · rw [show writesM e = false by simpa using hw] at kw
      repeat' (first
        | (refine E.c (SCalls.of_le (kw) ?_ ?_); (· (cbv; (try simp only [nc] at *); first | done | (simp; done) | (simp (disch := (first | omega | (simp only [lnS]; omega))) only [rdT, rdS, tn1, anT]; first | done | omega | (refine ⟨?_, ?_⟩ <;> omega)) | (simp (disch := (first | omega | (simp only [lnS]; omega))) [rdT, rdS, tn1]; done))); cbv)
        | (refine ⟨fun _ h_s => ?_, fun _ h_s => ?_⟩ <;> (cbv; (try simp only [nc] at *); try simp (disch := (first | omega | (simp only [lnS]; omega))) only [rdT, rdS, tn1, reduceCtorEq, trT] at h_s))
        | (refine hF ?_; intro _; clear hF)
        | (refine hF ?_; cbv; clear hF)
        | (refine ⟨fun _ => ?_, ?_⟩; (· ((try simp only [nc] at *); first | done | omega | exact ⟨by omega, rfl⟩ | (simp (disch := (first | omega | (simp only [lnS]; omega))) only [rdT, rdS, tn1]; first | done | omega | rfl | exact ⟨by omega, rfl⟩ | (simp; done) | (simp; omega)) | (intros; trivial) | exact ⟨by first | trivial | rfl, by omega, by first | (rw [evL_len]; omega) | (rw [idL_len]; omega)⟩ | exact ⟨by first | trivial | rfl, by first | trivial | rfl, by first | trivial | rfl | (simp; done), by (simp only [one_len]; omega), by (simp only [one_len]; omega), by simp [setAll, AV.nrm, nrms, nrm1, AV.flat, AV.cells, AV.one]⟩ | exact ⟨by first | trivial | rfl, by first | trivial | rfl, by first | trivial | rfl | (first | (simp only [LV.l_of, LV.l, List.length_append, List.length_take, List.length_drop, List.length_nil, ids_len, List.length_map, setAll, List.length_set, List.length_replicate]; done) | (simp only [LV.l_of, LV.l, List.length_append, List.length_take, List.length_drop, List.length_nil, ids_len, List.length_map, setAll, List.length_set, List.length_replicate]; omega)), by (first | (simp only [LV.l_of, LV.l, List.length_append, List.length_take, List.length_drop, List.length_nil, ids_len, List.length_map, setAll, List.length_set, List.length_replicate]; done) | (simp only [LV.l_of, LV.l, List.length_append, List.length_take, List.length_drop, List.length_nil, ids_len, List.length_map, setAll, List.length_set, List.length_replicate]; omega)), by (first | (simp only [LV.l_of, LV.l, List.length_append, List.length_take, List.length_drop, List.length_nil, ids_len, List.length_map, setAll, List.length_set, List.length_replicate]; done) | (simp only [LV.l_of, LV.l, List.length_append, List.length_take, List.length_drop, List.length_nil, ids_len, List.length_map, setAll, List.length_set, List.length_replicate]; omega)), by first | (simp [setAll, AV.nrm, nrms, nrm1, AV.flat, AV.cells, AV.one]; done) | exact fun v hv => id_flat _ v (List.mem_of_mem_take (by simpa using hv)) | exact fun v hv => id_flat _ v (List.mem_of_mem_drop (List.mem_of_mem_take (by simpa using hv)))⟩)); (try (simp only [nc] at *)); (try simp (disch := (first | omega | (simp only [lnS]; omega))) only [rdT, rdS, tn1]); (try cbv))
        | fail
      )
      · obtain ⟨z1, z2⟩ := hno fun h => by (have h' := h.2.1; rw [if_neg hw] at h'; exact h_s h')
        rw [z1, z2]
        simp [is, evss, idss, LV.of, LV.l]
      obtain ⟨H, hH⟩ : ∃ H, H = addG g t e d p := ⟨_, rfl⟩
      have hHi : H.init = g.init := by rw [hH]; rfl
      have hHt : H.th = (addS g t e d).th := by rw [hH]; rfl
      have hHf : H.fr = (addS g t e d).fr := by rw [hH]; rfl
      have hHo : H.ord = g.ord := by rw [hH]; exact if_neg hw
      have kb := check14_ok (γ := γ) H (by rw [hH]; exact rd_add hg t e d p)
      refine E.c (SCalls.of_bare kb rfl ?_ ?_)
      · cbv; simp [hHi, hHt, hHf, hHo, hS1, hS2, hS3, hS5, hS6, hS7, hS8]
      cbv
      repeat' (first
        | (refine ⟨fun _ h_s => ?_, fun _ h_s => ?_⟩ <;> (cbv; (try simp only [nc] at *); try simp (disch := (first | omega | (simp only [lnS]; omega))) only [rdT, rdS, tn1, reduceCtorEq, trT] at h_s))
        | (refine hF ?_; intro _; clear hF)
        | (refine hF ?_; cbv; clear hF)
        | (refine ⟨fun _ => ?_, ?_⟩; (· ((try simp only [nc] at *); first | done | omega | exact ⟨by omega, rfl⟩ | (simp (disch := (first | omega | (simp only [lnS]; omega))) only [rdT, rdS, tn1]; first | done | omega | rfl | exact ⟨by omega, rfl⟩ | (simp; done) | (simp; omega)) | (intros; trivial) | exact ⟨by first | trivial | rfl, by omega, by first | (rw [evL_len]; omega) | (rw [idL_len]; omega)⟩ | exact ⟨by first | trivial | rfl, by first | trivial | rfl, by first | trivial | rfl | (simp; done), by (simp only [one_len]; omega), by (simp only [one_len]; omega), by simp [setAll, AV.nrm, nrms, nrm1, AV.flat, AV.cells, AV.one]⟩ | exact ⟨by first | trivial | rfl, by first | trivial | rfl, by first | trivial | rfl | (first | (simp only [LV.l_of, LV.l, List.length_append, List.length_take, List.length_drop, List.length_nil, ids_len, List.length_map, setAll, List.length_set, List.length_replicate]; done) | (simp only [LV.l_of, LV.l, List.length_append, List.length_take, List.length_drop, List.length_nil, ids_len, List.length_map, setAll, List.length_set, List.length_replicate]; omega)), by (first | (simp only [LV.l_of, LV.l, List.length_append, List.length_take, List.length_drop, List.length_nil, ids_len, List.length_map, setAll, List.length_set, List.length_replicate]; done) | (simp only [LV.l_of, LV.l, List.length_append, List.length_take, List.length_drop, List.length_nil, ids_len, List.length_map, setAll, List.length_set, List.length_replicate]; omega)), by (first | (simp only [LV.l_of, LV.l, List.length_append, List.length_take, List.length_drop, List.length_nil, ids_len, List.length_map, setAll, List.length_set, List.length_replicate]; done) | (simp only [LV.l_of, LV.l, List.length_append, List.length_take, List.length_drop, List.length_nil, ids_len, List.length_map, setAll, List.length_set, List.length_replicate]; omega)), by first | (simp [setAll, AV.nrm, nrms, nrm1, AV.flat, AV.cells, AV.one]; done) | exact fun v hv => id_flat _ v (List.mem_of_mem_take (by simpa using hv)) | exact fun v hv => id_flat _ v (List.mem_of_mem_drop (List.mem_of_mem_take (by simpa using hv)))⟩)); (try (simp only [nc] at *)); (try simp (disch := (first | omega | (simp only [lnS]; omega))) only [rdT, rdS, tn1]); (try cbv))
        | fail
      )
      · obtain ⟨z1, z2⟩ := hno fun h => by (have h3 : GOk H := (by rw [hH]; exact h.2.2); exact h_s (gcheck0 h3))
        rw [z1, z2]
        simp [is, evss, idss, LV.of, LV.l]
      · obtain ⟨z1, z2⟩ := hyes ⟨hf, by rw [if_neg hw]; assumption, by rw [← hH]; exact gcheck_iff.1 h_s⟩
        rw [z1, z2, ← hH]
        simp [hHi, hHt, hHf, hHo, hS1, hS2, hS3, hS5, hS6, hS7, hS8]
  · rw [show fineM ((addS g t e d).init.length : Int) e = false by simpa [hinit] using hf] at kf
    refine E.c (SCalls.of_bare kf rfl ?_ ?_)
    · cbv; simp [hinit, hS1, hS2, hS3, hS4, hS5, hS6, hS7, hS8]
    cbv
    repeat' (first
      | (refine ⟨fun _ h_s => ?_, fun _ h_s => ?_⟩ <;> (cbv; (try simp only [nc] at *); try simp (disch := (first | omega | (simp only [lnS]; omega))) only [rdT, rdS, tn1, reduceCtorEq, trT] at h_s))
      | (refine hF ?_; intro _; clear hF)
      | (refine hF ?_; cbv; clear hF)
      | (refine ⟨fun _ => ?_, ?_⟩; (· ((try simp only [nc] at *); first | done | omega | exact ⟨by omega, rfl⟩ | (simp (disch := (first | omega | (simp only [lnS]; omega))) only [rdT, rdS, tn1]; first | done | omega | rfl | exact ⟨by omega, rfl⟩ | (simp; done) | (simp; omega)) | (intros; trivial) | exact ⟨by first | trivial | rfl, by omega, by first | (rw [evL_len]; omega) | (rw [idL_len]; omega)⟩ | exact ⟨by first | trivial | rfl, by first | trivial | rfl, by first | trivial | rfl | (simp; done), by (simp only [one_len]; omega), by (simp only [one_len]; omega), by simp [setAll, AV.nrm, nrms, nrm1, AV.flat, AV.cells, AV.one]⟩ | exact ⟨by first | trivial | rfl, by first | trivial | rfl, by first | trivial | rfl | (first | (simp only [LV.l_of, LV.l, List.length_append, List.length_take, List.length_drop, List.length_nil, ids_len, List.length_map, setAll, List.length_set, List.length_replicate]; done) | (simp only [LV.l_of, LV.l, List.length_append, List.length_take, List.length_drop, List.length_nil, ids_len, List.length_map, setAll, List.length_set, List.length_replicate]; omega)), by (first | (simp only [LV.l_of, LV.l, List.length_append, List.length_take, List.length_drop, List.length_nil, ids_len, List.length_map, setAll, List.length_set, List.length_replicate]; done) | (simp only [LV.l_of, LV.l, List.length_append, List.length_take, List.length_drop, List.length_nil, ids_len, List.length_map, setAll, List.length_set, List.length_replicate]; omega)), by (first | (simp only [LV.l_of, LV.l, List.length_append, List.length_take, List.length_drop, List.length_nil, ids_len, List.length_map, setAll, List.length_set, List.length_replicate]; done) | (simp only [LV.l_of, LV.l, List.length_append, List.length_take, List.length_drop, List.length_nil, ids_len, List.length_map, setAll, List.length_set, List.length_replicate]; omega)), by first | (simp [setAll, AV.nrm, nrms, nrm1, AV.flat, AV.cells, AV.one]; done) | exact fun v hv => id_flat _ v (List.mem_of_mem_take (by simpa using hv)) | exact fun v hv => id_flat _ v (List.mem_of_mem_drop (List.mem_of_mem_take (by simpa using hv)))⟩)); (try (simp only [nc] at *)); (try simp (disch := (first | omega | (simp only [lnS]; omega))) only [rdT, rdS, tn1]); (try cbv))
      | fail
    )
    obtain ⟨z1, z2⟩ := hno fun h => hf h.1
    rw [z1, z2]
    simp [is, evss, idss, LV.of, LV.l]
theorem radd_ok (g : Gr) (hR : Rd g) (thread : Int) (e : Ev) (d : EId) (p : Int) :
    Pure Try.prog γ false 12 [aGr g, .i fun _ => thread, aEv e, aId d, .i fun _ => p] (.tup [aGr (addR g thread e d p), .i fun _ => addE g thread e d p]) := by
  have kc := check14_ok (γ := γ) g hR
  by_cases hg : GOk g
  · have hs := hg.short
    have hth := hs.th
    by_cases h1 : 1 ≤ thread ∧ thread ≤ (g.th.length : Nat)
    · obtain ⟨t, ht⟩ : ∃ t : Nat, thread = (t : Int) + 1 := ⟨(thread - 1).toNat, by omega⟩
      subst ht
      have ht : t < g.th.length := by omega
      have e1 : ((t : Int) + 1 - 1).toNat = t := by omega
      by_cases hl : (g.th.getD t []).length = 14
      · have ee : addE g ((t : Int) + 1) e d p = 3 := by unfold addE; rw [if_pos hg, if_pos h1, e1, if_pos hl]
        have er : addR g ((t : Int) + 1) e d p = ⟨[], [], [], []⟩ := by unfold addR; rw [ee]; rfl
        rw [ee, er]
        rw [gcheck0 hg] at kc
        refine Pure.go (ty := ty) ty_eq mo Try.func12 rfl Try.ntmps12 Try.results12 Try.call12 (by simp) fun P C CQ D W F E hF => ?_
        cbv
        repeat' (first
          | (refine E.c (SCalls.of_le (kc) ?_ ?_); (· (cbv; (try simp only [nc] at *); first | done | (simp; done) | (simp (disch := (first | omega | (simp only [lnS]; omega))) only [rdT, rdS, tn1, anT]; first | done | omega | (refine ⟨?_, ?_⟩ <;> omega)) | (simp (disch := (first | omega | (simp only [lnS]; omega))) [rdT, rdS, tn1]; done))); cbv)
          | (refine ⟨fun _ h_s => ?_, fun _ h_s => ?_⟩ <;> (cbv; (try simp only [nc] at *); try simp (disch := (first | omega | (simp only [lnS]; omega))) only [rdT, rdS, tn1, reduceCtorEq, trT] at h_s))
          | (refine hF ?_; intro _; clear hF)
          | (refine hF ?_; cbv; clear hF)
          | (refine ⟨fun _ => ?_, ?_⟩; (· ((try simp only [nc] at *); first | done | omega | exact ⟨by omega, rfl⟩ | (simp (disch := (first | omega | (simp only [lnS]; omega))) only [rdT, rdS, tn1]; first | done | omega | rfl | exact ⟨by omega, rfl⟩ | (simp; done) | (simp; omega)) | (intros; trivial) | exact ⟨by first | trivial | rfl, by omega, by first | (rw [evL_len]; omega) | (rw [idL_len]; omega)⟩ | exact ⟨by first | trivial | rfl, by first | trivial | rfl, by first | trivial | rfl | (simp; done), by (simp only [one_len]; omega), by (simp only [one_len]; omega), by simp [setAll, AV.nrm, nrms, nrm1, AV.flat, AV.cells, AV.one]⟩ | exact ⟨by first | trivial | rfl, by first | trivial | rfl, by first | trivial | rfl | (first | (simp only [LV.l_of, LV.l, List.length_append, List.length_take, List.length_drop, List.length_nil, ids_len, List.length_map, setAll, List.length_set, List.length_replicate]; done) | (simp only [LV.l_of, LV.l, List.length_append, List.length_take, List.length_drop, List.length_nil, ids_len, List.length_map, setAll, List.length_set, List.length_replicate]; omega)), by (first | (simp only [LV.l_of, LV.l, List.length_append, List.length_take, List.length_drop, List.length_nil, ids_len, List.length_map, setAll, List.length_set, List.length_replicate]; done) | (simp only [LV.l_of, LV.l, List.length_append, List.length_take, List.length_drop, List.length_nil, ids_len, List.length_map, setAll, List.length_set, List.length_replicate]; omega)), by (first | (simp only [LV.l_of, LV.l, List.length_append, List.length_take, List.length_drop, List.length_nil, ids_len, List.length_map, setAll, List.length_set, List.length_replicate]; done) | (simp only [LV.l_of, LV.l, List.length_append, List.length_take, List.length_drop, List.length_nil, ids_len, List.length_map, setAll, List.length_set, List.length_replicate]; omega)), by first | (simp [setAll, AV.nrm, nrms, nrm1, AV.flat, AV.cells, AV.one]; done) | exact fun v hv => id_flat _ v (List.mem_of_mem_take (by simpa using hv)) | exact fun v hv => id_flat _ v (List.mem_of_mem_drop (List.mem_of_mem_take (by simpa using hv)))⟩)); (try (simp only [nc] at *)); (try simp (disch := (first | omega | (simp only [lnS]; omega))) only [rdT, rdS, tn1]); (try cbv))
          | fail
        )
        all_goals first
          | (exfalso; revert h_s; simp; done)
          | (exfalso; ((try simp only [nc] at *); omega))
          | (simp [is, evss, idss, LV.of, LV.l]; done)
          | (exfalso; rw [hl] at h_s; simp at h_s; done)
      · have ee : addE g ((t : Int) + 1) e d p = if addC g t e d p then 0 else 2 := by unfold addE; rw [if_pos hg, if_pos h1, e1, if_neg hl]
        have er : addR g ((t : Int) + 1) e d p = if addC g t e d p then addG g t e d p else ⟨[], [], [], []⟩ := by
          unfold addR; rw [ee, e1]
          by_cases hc : addC g t e d p
          · rw [if_pos hc, if_pos hc, if_pos rfl]
          · rw [if_neg hc, if_neg hc, if_neg (by omega)]
        rw [ee, er]
        exact radd_main g hg t ht hl e d p
    · have ee : addE g thread e d p = 9 := by unfold addE; rw [if_pos hg, if_neg h1]
      have er : addR g thread e d p = ⟨[], [], [], []⟩ := by unfold addR; rw [ee]; rfl
      rw [ee, er]
      rw [gcheck0 hg] at kc
      refine Pure.go (ty := ty) ty_eq mo Try.func12 rfl Try.ntmps12 Try.results12 Try.call12 (by simp) fun P C CQ D W F E hF => ?_
      cbv
      repeat' (first
        | (refine E.c (SCalls.of_le (kc) ?_ ?_); (· (cbv; (try simp only [nc] at *); first | done | (simp; done) | (simp (disch := (first | omega | (simp only [lnS]; omega))) only [rdT, rdS, tn1, anT]; first | done | omega | (refine ⟨?_, ?_⟩ <;> omega)) | (simp (disch := (first | omega | (simp only [lnS]; omega))) [rdT, rdS, tn1]; done))); cbv)
        | (refine ⟨fun _ h_s => ?_, fun _ h_s => ?_⟩ <;> (cbv; (try simp only [nc] at *); try simp (disch := (first | omega | (simp only [lnS]; omega))) only [rdT, rdS, tn1, reduceCtorEq, trT] at h_s))
        | (refine hF ?_; intro _; clear hF)
        | (refine hF ?_; cbv; clear hF)
        | (refine ⟨fun _ => ?_, ?_⟩; (· ((try simp only [nc] at *); first | done | omega | exact ⟨by omega, rfl⟩ | (simp (disch := (first | omega | (simp only [lnS]; omega))) only [rdT, rdS, tn1]; first | done | omega | rfl | exact ⟨by omega, rfl⟩ | (simp; done) | (simp; omega)) | (intros; trivial) | exact ⟨by first | trivial | rfl, by omega, by first | (rw [evL_len]; omega) | (rw [idL_len]; omega)⟩ | exact ⟨by first | trivial | rfl, by first | trivial | rfl, by first | trivial | rfl | (simp; done), by (simp only [one_len]; omega), by (simp only [one_len]; omega), by simp [setAll, AV.nrm, nrms, nrm1, AV.flat, AV.cells, AV.one]⟩ | exact ⟨by first | trivial | rfl, by first | trivial | rfl, by first | trivial | rfl | (first | (simp only [LV.l_of, LV.l, List.length_append, List.length_take, List.length_drop, List.length_nil, ids_len, List.length_map, setAll, List.length_set, List.length_replicate]; done) | (simp only [LV.l_of, LV.l, List.length_append, List.length_take, List.length_drop, List.length_nil, ids_len, List.length_map, setAll, List.length_set, List.length_replicate]; omega)), by (first | (simp only [LV.l_of, LV.l, List.length_append, List.length_take, List.length_drop, List.length_nil, ids_len, List.length_map, setAll, List.length_set, List.length_replicate]; done) | (simp only [LV.l_of, LV.l, List.length_append, List.length_take, List.length_drop, List.length_nil, ids_len, List.length_map, setAll, List.length_set, List.length_replicate]; omega)), by (first | (simp only [LV.l_of, LV.l, List.length_append, List.length_take, List.length_drop, List.length_nil, ids_len, List.length_map, setAll, List.length_set, List.length_replicate]; done) | (simp only [LV.l_of, LV.l, List.length_append, List.length_take, List.length_drop, List.length_nil, ids_len, List.length_map, setAll, List.length_set, List.length_replicate]; omega)), by first | (simp [setAll, AV.nrm, nrms, nrm1, AV.flat, AV.cells, AV.one]; done) | exact fun v hv => id_flat _ v (List.mem_of_mem_take (by simpa using hv)) | exact fun v hv => id_flat _ v (List.mem_of_mem_drop (List.mem_of_mem_take (by simpa using hv)))⟩)); (try (simp only [nc] at *)); (try simp (disch := (first | omega | (simp only [lnS]; omega))) only [rdT, rdS, tn1]); (try cbv))
        | fail
      )
      all_goals first
        | (exfalso; revert h_s; simp; done)
        | (simp [is, evss, idss, LV.of, LV.l]; done)
        | (exfalso; ((try simp only [nc] at *); omega))
        | (exfalso; exact h1 (by ((try simp only [nc] at *); omega)))
  · have ee : addE g thread e d p = 2 := by unfold addE; rw [if_neg hg]
    have er : addR g thread e d p = ⟨[], [], [], []⟩ := by unfold addR; rw [ee]; rfl
    rw [ee, er]
    have hc : gcheckM g ≠ 0 := fun h => hg (gcheck_iff.1 h)
    refine Pure.go (ty := ty) ty_eq mo Try.func12 rfl Try.ntmps12 Try.results12 Try.call12 (by simp) fun P C CQ D W F E hF => ?_
    cbv
    repeat' (first
      | (refine E.c (SCalls.of_le (kc) ?_ ?_); (· (cbv; (try simp only [nc] at *); first | done | (simp; done) | (simp (disch := (first | omega | (simp only [lnS]; omega))) only [rdT, rdS, tn1, anT]; first | done | omega | (refine ⟨?_, ?_⟩ <;> omega)) | (simp (disch := (first | omega | (simp only [lnS]; omega))) [rdT, rdS, tn1]; done))); cbv)
      | (refine ⟨fun _ h_s => ?_, fun _ h_s => ?_⟩ <;> (cbv; (try simp only [nc] at *); try simp (disch := (first | omega | (simp only [lnS]; omega))) only [rdT, rdS, tn1, reduceCtorEq, trT] at h_s))
      | (refine hF ?_; intro _; clear hF)
      | (refine hF ?_; cbv; clear hF)
      | (refine ⟨fun _ => ?_, ?_⟩; (· ((try simp only [nc] at *); first | done | omega | exact ⟨by omega, rfl⟩ | (simp (disch := (first | omega | (simp only [lnS]; omega))) only [rdT, rdS, tn1]; first | done | omega | rfl | exact ⟨by omega, rfl⟩ | (simp; done) | (simp; omega)) | (intros; trivial) | exact ⟨by first | trivial | rfl, by omega, by first | (rw [evL_len]; omega) | (rw [idL_len]; omega)⟩ | exact ⟨by first | trivial | rfl, by first | trivial | rfl, by first | trivial | rfl | (simp; done), by (simp only [one_len]; omega), by (simp only [one_len]; omega), by simp [setAll, AV.nrm, nrms, nrm1, AV.flat, AV.cells, AV.one]⟩ | exact ⟨by first | trivial | rfl, by first | trivial | rfl, by first | trivial | rfl | (first | (simp only [LV.l_of, LV.l, List.length_append, List.length_take, List.length_drop, List.length_nil, ids_len, List.length_map, setAll, List.length_set, List.length_replicate]; done) | (simp only [LV.l_of, LV.l, List.length_append, List.length_take, List.length_drop, List.length_nil, ids_len, List.length_map, setAll, List.length_set, List.length_replicate]; omega)), by (first | (simp only [LV.l_of, LV.l, List.length_append, List.length_take, List.length_drop, List.length_nil, ids_len, List.length_map, setAll, List.length_set, List.length_replicate]; done) | (simp only [LV.l_of, LV.l, List.length_append, List.length_take, List.length_drop, List.length_nil, ids_len, List.length_map, setAll, List.length_set, List.length_replicate]; omega)), by (first | (simp only [LV.l_of, LV.l, List.length_append, List.length_take, List.length_drop, List.length_nil, ids_len, List.length_map, setAll, List.length_set, List.length_replicate]; done) | (simp only [LV.l_of, LV.l, List.length_append, List.length_take, List.length_drop, List.length_nil, ids_len, List.length_map, setAll, List.length_set, List.length_replicate]; omega)), by first | (simp [setAll, AV.nrm, nrms, nrm1, AV.flat, AV.cells, AV.one]; done) | exact fun v hv => id_flat _ v (List.mem_of_mem_take (by simpa using hv)) | exact fun v hv => id_flat _ v (List.mem_of_mem_drop (List.mem_of_mem_take (by simpa using hv)))⟩)); (try (simp only [nc] at *)); (try simp (disch := (first | omega | (simp only [lnS]; omega))) only [rdT, rdS, tn1]); (try cbv))
      | fail
    )
    all_goals first
      | (simp [is, evss, idss, LV.of, LV.l]; done)
      | (exfalso; exact hc h_s)
      | (exfalso; ((try simp only [nc] at *); omega))
end Go.AL.Rl

namespace Go.AL.Rl
open Go Go.AL Go.Proofs
set_option maxRecDepth 100000
set_option maxHeartbeats 1600000

structure Tail (V U : Vw) (n m : Nat) (f : Nat → Nat) (N : Nat) : Prop where
  cov : ∀ a < m, (∃ i < n, a = f i) ∨ a = N
  nim : ∀ i < n, f i ≠ N
  po : ∀ b < m, poM U N b = false
  rf : ∀ b < m, U.fr.getD b 0 ≠ (N : Nat)
  frn : ∀ i < n, V.fr.getD i 0 < 0 → U.fr.getD (f i) 0 < 0
  pln : ∀ i < n, 0 ≤ U.pl.getD (f i) 0 → 0 ≤ V.pl.getD i 0
  plu : ∀ i < n, ∀ j < n, nearM V i j = true → 0 ≤ V.pl.getD i 0 → V.pl.getD i 0 = V.pl.getD j 0 → i = j
  plh : ∀ i < n, ∀ j < n, nearM V i j = true → 0 ≤ V.pl.getD i 0 → 0 ≤ U.pl.getD (f j) 0 → 0 ≤ V.pl.getD j 0
section
variable {V U : Vw} {n m : Nat} {f : Nat → Nat} {N : Nat} (E : Emb V U n m f) (Y : Tail V U n m f N) (hV : Wf V n) (hU : Wf U m)
include E Y
theorem t_img {a b : Nat} (ha : a < m) (hb : b < m) (h : poM U a b = true) : ∃ i < n, a = f i := by
  have _hE := E
  rcases Y.cov a ha with h1 | h1
  · exact h1
  · subst h1; rw [Y.po b hb] at h; cases h
include hV
theorem t_seq {w : Nat} {x : Nat} (h : InSeq U m (f w) x) (hw : w < n) : (∃ s < n, x = f s ∧ InSeq V n w s) ∨ x = N := by
  induction h with
  | base => exact .inl ⟨w, hw, rfl, .base⟩
  | @step i hi hk hs ih =>
    rcases Y.cov i hi with ⟨s, hs1, rfl⟩ | h1
    · left
      refine ⟨s, hs1, rfl, ?_⟩
      rw [E.ev s hs1] at hk
      have hr : readsM (V.ev.getD s ev0) = true := by unfold readsM; rw [hk]; rfl
      have h1 := hV.frg s hs1 hr
      have h2 := hV.frl s hs1
      have e := E.fr s hs1 (V.fr.getD s 0).toNat (by omega) (by omega)
      refine .step hs1 hk ?_
      rw [e] at ih
      have e3 : ((f (V.fr.getD s 0).toNat : Nat) : Int).toNat = f (V.fr.getD s 0).toNat := by omega
      rw [e3] at ih
      rcases ih with ⟨s', k1, k2, k3⟩ | k
      · rw [E.inj _ (by omega) s' k1 k2]; exact k3
      · exact absurd k (Y.nim _ (by omega))
    · exact .inr h1
include hU
theorem t_sw {i j : Nat} (hi : i < n) (hj : j < n) (h : bit (swF U m) (f i) (f j) = true) : bit (swF V n) i j = true := by
  rw [sw_iffE hU.small] at h
  obtain ⟨_, _, w, hw, h1, b, hb, h2, h3⟩ := h
  rw [sw_iffE hV.small]
  -- who reads
  have hbi : ∃ b' < n, b = f b' := by
    unfold caM at h3
    simp only [Bool.and_eq_true, Bool.or_eq_true, decide_eq_true_eq] at h3
    rcases h3.2 with h4 | h4
    · exact ⟨j, hj, h4.symm⟩
    · exact t_img E Y hb (E.lt j hj) h4.2
  obtain ⟨b', hb', rfl⟩ := hbi
  unfold rdrM at h2
  rw [E.ev b' hb'] at h2
  simp only [Bool.and_eq_true, decide_eq_true_eq] at h2
  have h0 := hV.frg b' hb' h2.1.1
  have hl := hV.frl b' hb'
  have e := E.fr b' hb' (V.fr.getD b' 0).toNat (by omega) (by omega)
  rw [e] at h2
  have e3 : ((f (V.fr.getD b' 0).toNat : Nat) : Int).toNat = f (V.fr.getD b' 0).toNat := by omega
  rw [e3] at h2
  have hs := (seq_bit (by have := hU.small; omega) hw _).1 h2.2
  -- who writes first
  have hwi : ∃ w' < n, w = f w' := by
    rcases Y.cov w hw with h4 | h4
    · exact h4
    · exfalso
      subst h4
      -- nobody reads from it
      have key : ∀ x, InSeq U m w x → x = w := fun x hx => by
        induction hx with
        | base => rfl
        | @step i hi hk hs ih =>
          have hr : readsM (U.ev.getD i ev0) = true := by unfold readsM; rw [hk]; rfl
          have := hU.frg i hi hr
          have := Y.rf i hi
          omega
      have := key _ hs
      exact Y.nim _ (by omega) this
  obtain ⟨w', hw', rfl⟩ := hwi
  refine ⟨hi, hj, w', hw', ?_, b', hb', ?_, ?_⟩
  · unfold swR at h1 ⊢
    rw [E.ev w' hw', E.ev i hi, e_po E hi hw'] at h1
    simp only [Bool.and_eq_true, Bool.or_eq_true, decide_eq_true_eq] at h1 ⊢
    exact ⟨h1.1, h1.2.imp (fun h => E.inj i hi w' hw' h) id⟩
  · unfold rdrM
    simp only [Bool.and_eq_true, decide_eq_true_eq]
    refine ⟨h2.1, (seq_bit (by have := hV.small; omega) hw' _).2 ?_⟩
    rcases t_seq E Y hV hs hw' with ⟨s, k1, k2, k3⟩ | k
    · rw [E.inj _ (by omega) s k1 k2]; exact k3
    · exact absurd k (Y.nim _ (by omega))
  · unfold caM at h3 ⊢
    rw [E.ev j hj, e_po E hb' hj] at h3
    simp only [Bool.and_eq_true, Bool.or_eq_true, decide_eq_true_eq] at h3 ⊢
    exact ⟨h3.1, h3.2.imp (fun h => E.inj j hj b' hb' h) id⟩
/-- nothing leads on from it -/
theorem t_swN {b : Nat} (h : bit (swF U m) N b = true) : False := by
  have _hE := E
  have _hV := hV
  rw [sw_iffE hU.small] at h
  obtain ⟨_, hbm, w, hw, h1, b', hb', h2, h3⟩ := h
  unfold swR at h1
  simp only [Bool.and_eq_true, Bool.or_eq_true, decide_eq_true_eq] at h1
  have hw2 : N = w := by
    rcases h1.2 with h4 | h4
    · exact h4
    · rw [Y.po w hw] at h4; cases h4.2
  subst hw2
  unfold rdrM at h2
  simp only [Bool.and_eq_true, decide_eq_true_eq] at h2
  have hs := (seq_bit (by have := hU.small; omega) hw _).1 h2.2
  have key : ∀ x, InSeq U m N x → x = N := fun x hx => by
    induction hx with
    | base => rfl
    | @step i hi hk hs ih =>
      have hr : readsM (U.ev.getD i ev0) = true := by unfold readsM; rw [hk]; rfl
      have := hU.frg i hi hr
      have := Y.rf i hi
      omega
  have h5 := key _ hs
  have h6 := hU.frg b' hb' h2.1.1
  have h7 := Y.rf b' hb'
  omega
theorem t_hb {i j : Nat} (hi : i < n) (hj : j < n) (h : bit (hbF U m) (f i) (f j) = true) : bit (hbF V n) i j = true := by
  have hfV := fits_or2 (fits_poF V hV.small) (fits_swF V hV.small)
  have hfU := fits_or2 (fits_poF U hU.small) (fits_swF U hU.small)
  have key : bit (hbF U m) (f i) (f j) = true → ∀ j' < n, f j = f j' → ∃ i' < n, f i = f i' ∧ bit (hbF V n) i' j' = true := fun h =>
    plus_least (fun a b => ∀ j' < n, b = f j' → ∃ i' < n, a = f i' ∧ bit (hbF V n) i' j' = true) (fun a b hab j' hj' e => by
      subst e
      rw [bit_or2 (fits_poF U hU.small) (fits_swF U hU.small)] at hab
      rcases hab with hab | hab
      · unfold poF at hab
        rw [bit_relI hU.small] at hab
        obtain ⟨i', hi', rfl⟩ := t_img E Y hab.1 hab.2.1 hab.2.2
        refine ⟨i', hi', rfl, plus_edge ?_⟩
        rw [bit_or2 (fits_poF V hV.small) (fits_swF V hV.small)]
        left
        unfold poF
        rw [bit_relI hV.small]
        exact ⟨hi', hj', by rw [← e_po E hi' hj']; exact hab.2.2⟩
      · have ha : a < m := ((sw_iffE hU.small).1 hab).1
        rcases Y.cov a ha with ⟨i', hi', rfl⟩ | h1
        · refine ⟨i', hi', rfl, plus_edge ?_⟩
          rw [bit_or2 (fits_poF V hV.small) (fits_swF V hV.small)]
          exact .inr (t_sw E Y hV hU hi' hj' hab)
        · subst h1
          exact (t_swN E Y hV hU hab).elim) (fun a k b h1 h2 j' hj' e => by
      obtain ⟨k', hk', e1, q1⟩ := h2 j' hj' e
      obtain ⟨i', hi', e2, q2⟩ := h1 k' hk' e1
      exact ⟨i', hi', e2, plus_trans hfV q2 q1⟩) h
  obtain ⟨i', hi', e1, e2⟩ := key h j hj rfl
  rw [E.inj i hi i' hi' e1]
  exact e2
end
end Go.AL.Rl

namespace Go.AL.Rl
open Go Go.AL Go.Proofs
set_option maxRecDepth 100000
set_option maxHeartbeats 1600000

theorem gr_ext {a b : Gr} (h1 : a.init = b.init) (h2 : a.th = b.th) (h3 : a.fr = b.fr) (h4 : a.ord = b.ord) : a = b := by cases a; cases b; simp_all
theorem getD_set' {α : Type} (l : List α) (i j : Nat) (x d : α) (hi : i < l.length) : (l.set i x).getD j d = if j = i then x else l.getD j d := by
  rw [List.getD_eq_getElem?_getD, List.getElem?_set, List.getD_eq_getElem?_getD]
  by_cases e : i = j
  · subst e; simp [hi]
  · rw [if_neg e, if_neg fun h => e h.symm]
theorem getD_app1 {α : Type} (l : List α) (x d : α) {j : Nat} (hj : j < l.length) : (l ++ [x]).getD j d = l.getD j d := by
  rw [List.getD_eq_getElem?_getD, List.getElem?_append_left hj, List.getD_eq_getElem?_getD]
theorem gD' {α : Type} {l : List α} {i : Nat} {d : α} (h : i < l.length) : l.getD i d = l[i] := by simp [h]
abbrev newD (g : Gr) (t : Nat) : EId := ⟨(t : Int) + 1, ((g.th.getD t []).length : Int)⟩
section
variable {g : Gr} {t : Nat} {e : Ev} {d : EId} {p : Int} (hg : GOk g) (ht : t < g.th.length) (hh : GOk (addG g t e d p))
theorem add_thl : (addG g t e d p).th.length = g.th.length := by show (g.th.set t _).length = _; simp
include ht
theorem add_th (s : Nat) : (addG g t e d p).th.getD s [] = if s = t then g.th.getD t [] ++ [e] else g.th.getD s [] := getD_set' _ _ _ _ _ ht
theorem add_len_le (s : Nat) : (g.th.getD s []).length ≤ ((addG g t e d p).th.getD s []).length := by
  rw [add_th ht]
  split
  · rename_i h; subst h; simp
  · exact Nat.le_refl _
theorem add_get (s j : Nat) (hj : j < (g.th.getD s []).length) : ((addG g t e d p).th.getD s []).getD j ev0 = (g.th.getD s []).getD j ev0 := by
  rw [add_th ht]
  split
  · rename_i h; subst h; exact getD_app1 _ _ _ hj
  · rfl
theorem add_evT {x : EId} (h : evT g x) : evT (addG g t e d p) x := by
  obtain ⟨h1, h2, h3, h4⟩ := h
  refine ⟨h1, by rw [add_thl]; exact h2, h3, ?_⟩
  have := add_len_le (g := g) (e := e) (d := d) (p := p) ht (x.t - 1).toNat
  omega
theorem add_event {x : EId} (h : x ∈ idsG g) : eventM (addG g t e d p) x = eventM g x := by
  rw [idsG_mem] at h
  by_cases h0 : x.t = 0
  · unfold eventM
    rw [if_pos h0, if_pos h0]
    rfl
  · have hT : evT g x := by
      unfold eventM at h
      rw [if_neg h0] at h
      split at h
      · rename_i hc; exact ⟨by omega, hc.2.1, hc.2.2.1, hc.2.2.2⟩
      · cases h
    rw [event_T hT, event_T (add_evT ht hT)]
    obtain ⟨h1, h2, h3, h4⟩ := hT
    rw [add_get ht _ _ (by omega)]
theorem add_cases {x : EId} (h : evT (addG g t e d p) x) : evT g x ∨ x = newD g t := by
  obtain ⟨h1, h2, h3, h4⟩ := h
  rw [add_thl] at h2
  rw [add_th ht] at h4
  split at h4
  · rename_i e1
    rw [List.length_append] at h4
    simp only [List.length_cons, List.length_nil] at h4
    by_cases h5 : x.i < ((g.th.getD t []).length : Nat)
    · left; exact ⟨h1, h2, h3, by rw [e1]; exact h5⟩
    · right; exact EId.ext' (by simp only; omega) (by simp only; omega)
  · left; exact ⟨h1, h2, h3, h4⟩
theorem new_not : newD g t ∉ idsG g := by
  have _ht := ht
  rw [idsG_mem]
  unfold eventM
  rw [if_neg (by simp only; omega)]
  have e1 : ((t : Int) + 1 - 1).toNat = t := by omega
  rw [if_neg (by simp only [e1]; omega)]
  simp
theorem new_evT : evT (addG g t e d p) (newD g t) := by
  refine ⟨by simp only; omega, by rw [add_thl]; simp only; omega, by simp only; omega, ?_⟩
  have e1 : ((newD g t).t - 1).toNat = t := by simp only; omega
  rw [e1, add_th ht, if_pos rfl, List.length_append]
  simp only [List.length_cons, List.length_nil]
  omega
include hg
theorem add_src {x : EId} (h : evT g x) : srcOf (addG g t e d p) x = srcOf g x := by
  obtain ⟨h1, h2, h3, h4⟩ := h
  have hf := hg.lfr
  unfold srcOf
  have : (addG g t e d p).fr.getD (x.t - 1).toNat [] = if (x.t - 1).toNat = t then g.fr.getD t [] ++ [d] else g.fr.getD (x.t - 1).toNat [] := getD_set' _ _ _ _ _ (by omega)
  rw [this]
  split
  · rename_i e1
    have h5 := (hg.events t ht).1
    rw [e1] at h4 ⊢
    exact getD_app1 _ _ _ (by omega)
  · rfl
theorem src_in {x : EId} (h : evT g x) (hr : readsM ((eventM g x).getD ev0) = true) : srcOf g x ∈ idsG g := by
  have _ht := ht
  have hx : x ∈ idsG g := idsG_mem.2 (by rw [event_T h]; rfl)
  obtain ⟨w, hw, _⟩ := source_mem (src_ok hg hx (evT_t h)) hr
  exact idsG_mem.2 (by rw [hw]; rfl)
theorem add_cl : ClG (addG g t e d p) (idsT g g.th.length) := by
  refine ⟨idsT_nodup g _, fun x hx => add_evT ht (evT_iff.2 hx), fun x hx a ha hah => ?_⟩
  have hx := evT_iff.2 hx
  rw [← evT_iff]
  rcases add_cases ht ha with h1 | h1
  · exact h1
  · exfalso
    subst h1
    rcases hah with ⟨h2, h3⟩ | ⟨h2, h3⟩
    · obtain ⟨b1, b2, b3, b4⟩ := hx
      simp only at h2 h3
      have e1 : (x.t - 1).toNat = t := by omega
      rw [e1] at b4
      omega
    · have hxi : x ∈ idsG g := idsG_mem.2 (by rw [event_T hx]; rfl)
      rw [add_event ht hxi] at h2
      rw [add_src hg ht hx] at h3
      have := src_in hg ht hx h2
      rw [h3] at this
      exact new_not ht this
include hh
theorem add_kQ (s : Nat) (hs : s < g.th.length) : kQ (addG g t e d p) (idsT g g.th.length) s = (g.th.getD s []).length := by
  have hC := add_cl (e := e) (d := d) (p := p) hg ht
  have hs' : s < (addG g t e d p).th.length := by rw [add_thl]; exact hs
  have hle := add_len_le (g := g) (e := e) (d := d) (p := p) ht s
  have hk := kQ_le hh hC s hs'
  have key : ∀ j < ((addG g t e d p).th.getD s []).length, (j < (g.th.getD s []).length ↔ j < kQ (addG g t e d p) (idsT g g.th.length) s) := fun j hj => by
    rw [← k_in hh hC s j hs' hj, ← evT_iff, evT_mk]
    exact ⟨fun h => ⟨hs, h⟩, fun h => h.2⟩
  rcases Nat.lt_trichotomy (kQ (addG g t e d p) (idsT g g.th.length) s) (g.th.getD s []).length with h | h | h
  · have := (key (kQ (addG g t e d p) (idsT g g.th.length) s) (by omega)).1 h
    omega
  · exact h
  · have := (key (g.th.getD s []).length (by omega)).2 h
    omega
theorem add_keep : keepM (addG g t e d p) (idsT g g.th.length) = g := by
  have hC := add_cl (e := e) (d := d) (p := p) hg ht
  have hlf := hg.lfr
  refine gr_ext rfl ?_ ?_ ?_
  · refine List.ext_getElem (by show ((List.range _).map _).length = _; rw [List.length_map, List.length_range, add_thl]) fun s h1 h2 => ?_
    have h3 := kth hh hC s (by rw [add_thl]; exact h2)
    rw [add_kQ hg ht hh s h2] at h3
    rw [← gD' (d := []) h1, h3, ← gD' (d := []) h2, add_th ht]
    split
    · rename_i e1; subst e1; simp
    · simp
  · refine List.ext_getElem (by show ((List.range _).map _).length = _; rw [List.length_map, List.length_range, add_thl, hlf]) fun s h1 h2 => ?_
    have hs : s < g.th.length := by omega
    have h3 := kfr hh hC s (by rw [add_thl]; exact hs)
    rw [add_kQ hg ht hh s hs] at h3
    have h5 := (hg.events s hs).1
    have h6 : (addG g t e d p).fr.getD s [] = if s = t then g.fr.getD t [] ++ [d] else g.fr.getD s [] := getD_set' _ _ _ _ _ (by omega)
    rw [← gD' (d := []) h1, h3, ← gD' (d := []) h2, h6, ← h5]
    split
    · rename_i e1; subst e1; simp
    · simp
  · have hin : ∀ x < g.ord.length, ∀ y ∈ g.ord.getD x [], y ∈ idsT g g.th.length := fun x hx y hy => by
      have h1 := hg.orders x (by have := hg.lord; omega)
      obtain ⟨i, hi, rfl⟩ := List.getElem_of_mem hy
      unfold orderedM at h1
      simp only [Bool.and_eq_true, decide_eq_true_eq] at h1
      obtain ⟨ev, he, h0, _⟩ := isW_event (h1.1 i hi).1
      rw [gD' hi] at he h0
      rw [← evT_iff]
      unfold eventM at he
      rw [if_neg h0] at he
      split at he
      · rename_i hc; exact ⟨by omega, hc.2.1, hc.2.2.1, hc.2.2.2⟩
      · cases he
    have hself : ∀ x < g.ord.length, keepO (idsT g g.th.length) (g.ord.getD x []) = g.ord.getD x [] := fun x hx => by
      unfold keepO
      rw [List.filter_eq_self]
      intro y hy
      exact decide_eq_true (hin x hx y hy)
    have hnew : newD g t ∉ idsT g g.th.length := fun h => new_not ht (idsG_mem.2 (by rw [event_T (evT_iff.2 h)]; rfl))
    show List.map (keepO _) (if writesM e = true then g.ord.set e.loc.toNat (addO g t e p) else g.ord) = g.ord
    by_cases hw : writesM e = true
    · rw [if_pos hw]
      refine List.ext_getElem (by simp) fun x h1 h2 => ?_
      rw [List.getElem_map, List.getElem_set]
      split
      · rename_i e1
        rw [← gD' (d := []) h2]
        have hs := hself x h2
        unfold addO
        rw [e1]
        unfold keepO at *
        rw [List.filter_append, List.filter_append, List.filter_cons_of_neg (by simp only [decide_eq_true_eq]; exact hnew), List.filter_nil, List.append_nil, ← List.filter_append, List.take_append_drop]
        exact hs
      · rw [← gD' (d := []) h2]; exact hself x h2
    · rw [if_neg hw]
      refine List.ext_getElem (by simp) fun x h1 h2 => ?_
      rw [List.getElem_map, ← gD' (d := []) h2]; exact hself x h2
abbrev addF (g : Gr) (t : Nat) (e : Ev) (d : EId) (p : Int) (i : Nat) : Nat := numOf (idsG (addG g t e d p)) ((idsG g).getD i id0)
theorem add_emb : Emb (viewG g) (viewG (addG g t e d p)) (nG g) (nG (addG g t e d p)) (addF g t e d p) := by
  have := k_emb hh (add_cl (e := e) (d := d) (p := p) hg ht)
  rw [add_keep hg ht hh] at this
  exact this
theorem add_tail : Tail (viewG g) (viewG (addG g t e d p)) (nG g) (nG (addG g t e d p)) (addF g t e d p) (numOf (idsG (addG g t e d p)) (newD g t)) := by
  have E := add_emb hg ht hh
  have hN : newD g t ∈ idsG (addG g t e d p) := idsG_mem.2 (by rw [event_T (new_evT ht)]; rfl)
  have hsub : ∀ x ∈ idsG g, x ∈ idsG (addG g t e d p) := fun x hx => idsG_mem.2 (by rw [add_event ht hx]; exact idsG_mem.1 hx)
  have hids : ∀ a < nG (addG g t e d p), (idsG (addG g t e d p)).getD a id0 ∈ idsG g ∨ (idsG (addG g t e d p)).getD a id0 = newD g t := fun a ha => by
    have hm := getD_mem (d := id0) ha
    by_cases h0 : ((idsG (addG g t e d p)).getD a id0).t = 0
    · left
      rw [idsG_mem] at hm ⊢
      unfold eventM at hm ⊢
      rw [if_pos h0] at hm ⊢
      exact hm
    · have hT : evT (addG g t e d p) ((idsG (addG g t e d p)).getD a id0) := by
        have h := idsG_mem.1 hm
        unfold eventM at h
        rw [if_neg h0] at h
        split at h
        · rename_i hc; exact ⟨by omega, hc.2.1, hc.2.2.1, hc.2.2.2⟩
        · cases h
      rcases add_cases ht hT with h1 | h1
      · exact .inl (idsG_mem.2 (by rw [event_T h1]; rfl))
      · exact .inr h1
  refine ⟨fun a ha => ?_, fun i hi h => ?_, fun b hb => ?_, fun b hb h => ?_, fun i hi h => ?_, fun i hi h => ?_, fun i hi j hj h1 h2 h3 => ?_, fun i hi j hj h1 h2 h3 => ?_⟩
  · rcases hids a ha with h1 | h1
    · left
      refine ⟨numOf (idsG g) ((idsG (addG g t e d p)).getD a id0), numOf_lt h1, ?_⟩
      show a = numOf _ _
      rw [numOf_get h1, numOf_at (idsG_nodup _) ha]
    · right
      rw [← h1, numOf_at (idsG_nodup _) ha]
  · have hm := getD_mem (d := id0) hi
    have h1 := numOf_get (hsub _ hm)
    have h2 := numOf_get hN
    rw [show numOf (idsG (addG g t e d p)) ((idsG g).getD i id0) = _ from h, h2] at h1
    exact new_not ht (h1 ▸ hm)
  · unfold poM
    show (decide (((idsG (addG g t e d p)).getD b id0).t ≠ 0) && (decide (((idsG (addG g t e d p)).getD (numOf (idsG (addG g t e d p)) (newD g t)) id0).t = 0) || decide (((idsG (addG g t e d p)).getD (numOf (idsG (addG g t e d p)) (newD g t)) id0).t = ((idsG (addG g t e d p)).getD b id0).t) && decide (((idsG (addG g t e d p)).getD (numOf (idsG (addG g t e d p)) (newD g t)) id0).i < ((idsG (addG g t e d p)).getD b id0).i))) = false
    rw [numOf_get hN]
    generalize hx : (idsG (addG g t e d p)).getD b id0 = x
    have hm := getD_mem (d := id0) hb
    have hb' := hids b hb
    rw [hx] at hb'
    rw [Bool.eq_false_iff]
    intro h
    simp only [Bool.and_eq_true, Bool.or_eq_true, decide_eq_true_eq] at h
    obtain ⟨h1, h2⟩ := h
    rcases h2 with h2 | ⟨h2, h3⟩
    · omega
    · rcases hb' with h4 | h4
      · rw [idsG_mem] at h4
        unfold eventM at h4
        rw [if_neg h1] at h4
        split at h4
        · rename_i hc
          have e1 : (x.t - 1).toNat = t := by omega
          rw [e1] at hc
          omega
        · cases h4
      · rw [h4] at h3; simp only at h3; omega
  · have hr : readsM ((viewG (addG g t e d p)).ev.getD b ev0) = true := (fr_iff hh b hb).1 (by rw [h]; omega)
    obtain ⟨w, e1, hw, hne, _⟩ := src_of hh b hb hr
    have hev := vev hh b hb
    have h0 : ((idsG (addG g t e d p)).getD b id0).t ≠ 0 := fun h0 => by rw [init_reads hev h0] at hr; cases hr
    rw [vfr hh b hb] at h
    unfold frOf at h
    rw [if_neg h0, hev, Option.getD_some, if_pos hr] at h
    have hT : evT (addG g t e d p) ((idsG (addG g t e d p)).getD b id0) := by
      unfold eventM at hev
      rw [if_neg h0] at hev
      split at hev
      · rename_i hc; exact ⟨by omega, hc.2.1, hc.2.2.1, hc.2.2.2⟩
      · cases hev
    have hsm : srcOf (addG g t e d p) ((idsG (addG g t e d p)).getD b id0) ∈ idsG (addG g t e d p) := by
      obtain ⟨w', hw', _⟩ := source_mem (src_ok hh (getD_mem hb) h0) (by rw [hev]; exact hr)
      exact idsG_mem.2 (by rw [hw']; rfl)
    have hsn : srcOf (addG g t e d p) ((idsG (addG g t e d p)).getD b id0) = newD g t := by
      rw [← numOf_get hsm, ← numOf_get hN]
      congr 1
      omega
    rcases add_cases ht hT with h1 | h1
    · rw [add_src hg ht h1] at hsn
      have hxi : (idsG (addG g t e d p)).getD b id0 ∈ idsG g := idsG_mem.2 (by rw [event_T h1]; rfl)
      have := src_in hg ht h1 (by rw [← add_event (e := e) (d := d) (p := p) ht hxi, hev]; exact hr)
      rw [hsn] at this
      exact new_not ht this
    · rw [vfr hh b hb] at e1
      unfold frOf at e1
      rw [if_neg h0, hev, Option.getD_some, if_pos hr, hsn, ← h1, numOf_at (idsG_nodup _) hb] at e1
      omega
  · have h1 : ¬ readsM ((viewG g).ev.getD i ev0) = true := fun h2 => by have := (fr_iff hg i hi).2 h2; omega
    rw [← E.ev i hi] at h1
    have h3 : ¬ 0 ≤ (viewG (addG g t e d p)).fr.getD (addF g t e d p i) 0 := fun h2 => h1 ((fr_iff hh _ (E.lt i hi)).1 h2)
    omega
  · have h1 := (pl_iff hh _ (E.lt i hi)).1 h
    rw [E.ev i hi] at h1
    exact (pl_iff hg i hi).2 h1
  · have hwi := (pl_iff hg i hi).1 h2
    have hwj := (pl_iff hg j hj).1 (by omega)
    unfold nearM at h1
    simp only [Bool.and_eq_true, decide_eq_true_eq] at h1
    exact pl_inj hg i j hi hj hwi hwj h1.2 h3
  · have hwj := (pl_iff hh _ (E.lt j hj)).1 h3
    rw [E.ev j hj] at hwj
    exact (pl_iff hg j hj).2 hwj
end
end Go.AL.Rl

namespace Go.AL.Rl
open Go Go.AL Go.Proofs
set_option maxRecDepth 100000
set_option maxHeartbeats 3200000
variable {γ : Nat → Option AV}

end Go.AL.Rl

namespace Go.AL.Rl
open Go Go.AL Go.Proofs
set_option maxRecDepth 100000
set_option maxHeartbeats 3200000
variable {γ : Nat → Option AV}

theorem hasM_bit {n : Nat} {rows : List (BitVec 64)} (hf : Fits n rows) {x y : Nat} (hx : x < n) (hy : y < n) : hasM (n : Nat) rows (x : Nat) (y : Nat) = bit rows x y := by
  unfold hasM
  rw [decide_eq_true ⟨hf, by omega, by omega, by omega, by omega⟩, Bool.true_and, Int.toNat_natCast, Int.toNat_natCast]
section
variable {g : Gr} {t : Nat} {e : Ev} {d : EId} {p : Int} (hg : GOk g) (ht : t < g.th.length) (hh : GOk (addG g t e d p)) {x y : Nat} (hx : x < nG g) (hy : y < nG g)
include hg ht hh hx hy
theorem grow_hb : hasM (nG (addG g t e d p) : Nat) (hbF (viewG (addG g t e d p)) (nG (addG g t e d p))) (addF g t e d p x : Nat) (addF g t e d p y : Nat) = hasM (nG g : Nat) (hbF (viewG g) (nG g)) (x : Nat) (y : Nat) := by
  have E := add_emb hg ht hh
  have Y := add_tail hg ht hh
  have hV := viewG_wf hg
  have hU := viewG_wf hh
  rw [hasM_bit (hb_fits _ hU.small) (E.lt x hx) (E.lt y hy), hasM_bit (hb_fits _ hV.small) hx hy, Bool.eq_iff_iff]
  exact ⟨t_hb E Y hV hU hx hy, e_hb E hV hU⟩
end
end Go.AL.Rl

namespace Go.AL.Rl
open Go Go.AL Go.Proofs
set_option maxRecDepth 100000
set_option maxHeartbeats 3200000

theorem rpB_mem {v : RV} {a : Nat} {p : Nat × Nat} : ∀ b, p ∈ rpB v a b → p.1 = a ∧ a < p.2 ∧ p.2 < b ∧ oneM v a p.2 = true
  | 0, h => by simp [rpB] at h
  | b + 1, h => by
    rw [rpB, List.mem_append] at h
    rcases h with h | h
    · obtain ⟨h1, h2, h3, h4⟩ := rpB_mem b h
      exact ⟨h1, h2, by omega, h4⟩
    · split at h
      · rename_i hc
        have : p = (a, b) := by simpa using h
        subst this
        exact ⟨rfl, hc.1, Nat.lt_succ_self _, hc.2⟩
      · simp at h
theorem rpA_mem {v : RV} {m : Nat} {p : Nat × Nat} : ∀ a, p ∈ rpA v m a → p.1 < p.2 ∧ p.2 < m ∧ oneM v p.1 p.2 = true
  | 0, h => by simp [rpA] at h
  | a + 1, h => by
    rw [rpA, List.mem_append] at h
    rcases h with h | h
    · exact rpA_mem a h
    · obtain ⟨h1, h2, h3, h4⟩ := rpB_mem m h
      rw [h1]; exact ⟨h2, h3, h4⟩
theorem races_mem {v : RV} {i : Nat} (h : i < (racesV v).length) : ∃ a b, a < b ∧ b < v.ids.length ∧ oneM v a b = true ∧ (racesV v).getD i rc0 = ⟨(rAt v a).loc, v.ids.getD a id0, v.ids.getD b id0⟩ := by
  have hm : (racesV v).getD i rc0 ∈ racesV v := by rw [gD' h]; exact List.getElem_mem h
  unfold racesV at hm
  rw [List.mem_map] at hm
  obtain ⟨p, hp, e⟩ := hm
  obtain ⟨h1, h2, h3⟩ := rpA_mem _ hp
  exact ⟨p.1, p.2, h1, h2, h3, e.symm⟩
theorem races_len {g : Gr} (h : GOk g) : (racesV (rvG g)).length ≤ 4096 := by
  have hw := rvG_wf h
  have hl : (rvG g).ids.length ≤ 64 := by have := hw.big; have := hw.small; have := hw.sh; omega
  unfold racesV
  rw [List.length_map]
  exact Nat.le_trans (rpA_len _ _ _) (Nat.mul_le_mul hl hl)
theorem oneM_iff {v : RV} {a b : Nat} : oneM v a b = true ↔ (v.ids.getD a id0).t ≠ (v.ids.getD b id0).t ∧ (rAt v a).kind ≠ 4 ∧ (rAt v b).kind ≠ 4 ∧ (rAt v a).loc = (rAt v b).loc ∧ (rWr (rAt v a) = true ∨ rWr (rAt v b) = true) ∧ (rPl (rAt v a) = true ∨ rPl (rAt v b) = true) ∧ rAhead v a b = false ∧ rAhead v b a = false := by
  unfold oneM
  simp only [Bool.and_eq_true, Bool.not_eq_true', Bool.or_eq_false_iff, Bool.or_eq_true, decide_eq_false_iff_not, ne_eq, Classical.not_not, and_assoc]
theorem idsG_getT {g : Gr} {k : Nat} : (idsG g).getD (g.init.length + k) id0 = (idsT g g.th.length).getD k id0 := by
  unfold idsG
  rw [List.getD_eq_getElem?_getD, List.getElem?_append_right (by rw [idsI_len]; omega), idsI_len, Nat.add_sub_cancel_left, ← List.getD_eq_getElem?_getD]
theorem idsT_inG {g : Gr} {d : EId} (h : d ∈ idsT g g.th.length) : d ∈ idsG g := by unfold idsG; exact List.mem_append_right _ h
theorem numG_T {g : Gr} {k : Nat} (hk : k < (idsT g g.th.length).length) : numOf (idsG g) ((idsT g g.th.length).getD k id0) = g.init.length + k := by
  have hl : g.init.length + k < (idsG g).length := by unfold idsG; rw [List.length_append, idsI_len]; omega
  have := numOf_at (idsG_nodup g) hl
  rwa [idsG_getT] at this
theorem numI_T {g : Gr} {d : EId} (h : d ∈ idsT g g.th.length) : ∃ k, k < (idsT g g.th.length).length ∧ (idsT g g.th.length).getD k id0 = d ∧ numI (idsT g g.th.length) d = (k : Nat) := by
  have h1 := numOf_lt h
  have h2 := numOf_get h
  refine ⟨_, h1, h2, numI_at h1 h2 fun j hj he => ?_⟩
  have := getD_inj (idsT_nodup g _) (by omega) h1 (he.trans h2.symm)
  omega
theorem one_keep {g h : Gr} {a b : Nat} (ha : a < (idsT g g.th.length).length) (hb : b < (idsT g g.th.length).length)
    (m1 : (idsT g g.th.length).getD a id0 ∈ idsT h h.th.length) (m2 : (idsT g g.th.length).getD b id0 ∈ idsT h h.th.length)
    (ev : ∀ k < (idsT g g.th.length).length, ∀ e, eventM h ((idsT g g.th.length).getD k id0) = some e → e.kind = ((evsT g g.th.length).getD k ev0).kind ∧ e.loc = ((evsT g g.th.length).getD k ev0).loc ∧ (((evsT g g.th.length).getD k ev0).order = 1 → e.order = 1))
    (hbb : ∀ i < (idsT g g.th.length).length, ∀ j < (idsT g g.th.length).length, bit (hbF (viewG h) (nG h)) (numOf (idsG h) ((idsT g g.th.length).getD i id0)) (numOf (idsG h) ((idsT g g.th.length).getD j id0)) = true → bit (hbF (viewG g) (nG g)) (g.init.length + i) (g.init.length + j) = true)
    (h1 : oneM (rvG g) a b = true) : btM (rvG h) ((idsT g g.th.length).getD a id0) ((idsT g g.th.length).getD b id0) = true := by
  obtain ⟨x, hx, ex, nx⟩ := numI_T m1
  obtain ⟨y, hy, ey, ny⟩ := numI_T m2
  have e1 := evsT_get h h.th.length x (Nat.le_refl _) hx
  have e2 := evsT_get h h.th.length y (Nat.le_refl _) hy
  rw [ex] at e1
  rw [ey] at e2
  have q1 := ev a ha _ e1
  have q2 := ev b hb _ e2
  have p1 := hbb a ha b hb
  have p2 := hbb b hb a ha
  have gx := numG_T hx
  have gy := numG_T hy
  rw [ex] at gx
  rw [ey] at gy
  rw [gx, gy] at p1 p2
  rw [oneM_iff] at h1
  unfold btM
  show (decide (0 ≤ numI (idsT h h.th.length) _) && decide (0 ≤ numI (idsT h h.th.length) _) && oneM (rvG h) (numI (idsT h h.th.length) _).toNat (numI (idsT h h.th.length) _).toNat) = true
  rw [nx, ny, Int.toNat_natCast, Int.toNat_natCast]
  simp only [Bool.and_eq_true, decide_eq_true_eq]
  refine ⟨⟨by omega, by omega⟩, oneM_iff.2 ?_⟩
  obtain ⟨c1, c2, c3, c4, c5, c6, c7, c8⟩ := h1
  have sh : ∀ g : Gr, (rvG g).sh.toNat = g.init.length := fun g => Int.toNat_natCast _
  unfold rAhead at c7 c8 ⊢
  unfold rWr rPl rAt at *
  rw [sh] at c7 c8
  rw [sh]
  simp only [rvG] at *
  rw [Nat.add_comm a, Nat.add_comm b] at c7
  rw [Nat.add_comm a, Nat.add_comm b] at c8
  rw [Nat.add_comm x, Nat.add_comm y]
  rw [ex, ey]
  refine ⟨c1, by rw [q1.1]; exact c2, by rw [q2.1]; exact c3, by rw [q1.2.1, q2.2.1]; exact c4, by simp only [q1.1, q2.1]; exact c5, ?_, ?_, ?_⟩
  · exact c6.imp (fun h => decide_eq_true (q1.2.2 (of_decide_eq_true h))) fun h => decide_eq_true (q2.2.2 (of_decide_eq_true h))
  · exact Bool.eq_false_iff.2 fun h => by rw [p1 h] at c7; cases c7
  · exact Bool.eq_false_iff.2 fun h => by rw [p2 h] at c8; cases c8

section
variable {g : Gr} {t : Nat} {e : Ev} {d : EId} {p : Int} (hg : GOk g) (ht : t < g.th.length) (hh : GOk (addG g t e d p))
include hg ht hh
theorem stays_one {a b : Nat} (ha : a < (idsT g g.th.length).length) (hb : b < (idsT g g.th.length).length) (h1 : oneM (rvG g) a b = true) :
    btM (rvG (addG g t e d p)) ((idsT g g.th.length).getD a id0) ((idsT g g.th.length).getD b id0) = true := by
  have hin : ∀ k < (idsT g g.th.length).length, (idsT g g.th.length).getD k id0 ∈ idsT (addG g t e d p) (addG g t e d p).th.length := fun k hk => by
    have hm : (idsT g g.th.length).getD k id0 ∈ idsT g g.th.length := getD_mem hk
    rw [idsT_mem] at hm ⊢
    obtain ⟨m1, m2, m3, m4⟩ := hm
    have := add_len_le (e := e) (d := d) (p := p) ht (((idsT g g.th.length).getD k id0).t - 1).toNat
    refine ⟨m1, ?_, m3, by omega⟩
    rw [add_thl]; exact m2
  refine one_keep ha hb (hin a ha) (hin b hb) (fun k hk e' he' => ?_) (fun i hi j hj hbit => ?_) h1
  · have hm : (idsT g g.th.length).getD k id0 ∈ idsT g g.th.length := getD_mem hk
    have h2 := evsT_get g g.th.length k (Nat.le_refl _) hk
    rw [add_event ht (idsT_inG hm), h2] at he'
    cases he'
    exact ⟨rfl, rfl, id⟩
  · have hl : ∀ k < (idsT g g.th.length).length, g.init.length + k < nG g := fun k hk => by unfold nG idsG; rw [List.length_append, idsI_len]; omega
    have hgr := grow_hb (e := e) (d := d) (p := p) hg ht hh (hl i hi) (hl j hj)
    have E := add_emb (e := e) (d := d) (p := p) hg ht hh
    have hV := viewG_wf hg
    have hU := viewG_wf hh
    rw [hasM_bit (hb_fits _ hU.small) (E.lt _ (hl i hi)) (E.lt _ (hl j hj)), hasM_bit (hb_fits _ hV.small) (hl i hi) (hl j hj)] at hgr
    rw [← hgr]
    unfold addF
    rw [idsG_getT, idsG_getT]
    exact hbit
end
end Go.AL.Rl

namespace Go.AL.Rl
open Go Go.AL Go.Proofs
set_option maxRecDepth 100000
set_option maxHeartbeats 3200000
variable {γ : Nat → Option AV}

structure RcOk (g : Gr) (r : Rc) : Prop where
  thr : r.a.t ≠ r.b.t
  ord : ((eventM g r.a).getD ev0).order = 1 ∨ ((eventM g r.b).getD ev0).order = 1
  kind : ((eventM g r.a).getD ev0).kind ≠ 1 ∨ ((eventM g r.b).getD ev0).kind ≠ 1
theorem races_ok {g : Gr} (h : GOk g) {i : Nat} (hi : i < (racesV (rvG g)).length) : RcOk g ((racesV (rvG g)).getD i rc0) := by
  obtain ⟨a, b, hab, hb, ho, e⟩ := races_mem hi
  have hw := rvG_wf h
  rw [e]
  obtain ⟨c1, c2, c3, c4, c5, c6, c7, c8⟩ := oneM_iff.1 ho
  have e1 := evsT_get g g.th.length a (Nat.le_refl _) (Nat.lt_trans hab hb)
  have e2 := evsT_get g g.th.length b (Nat.le_refl _) hb
  refine ⟨c1, ?_, ?_⟩
  · show ((eventM g ((idsT g g.th.length).getD a id0)).getD ev0).order = 1 ∨ ((eventM g ((idsT g g.th.length).getD b id0)).getD ev0).order = 1
    rw [e1, e2]
    exact c6.imp (fun h => of_decide_eq_true h) fun h => of_decide_eq_true h
  · show ((eventM g ((idsT g g.th.length).getD a id0)).getD ev0).kind ≠ 1 ∨ ((eventM g ((idsT g g.th.length).getD b id0)).getD ev0).kind ≠ 1
    rw [e1, e2]
    unfold rWr rAt at c5
    simp only [Bool.or_eq_true, decide_eq_true_eq] at c5
    show ((evsT g g.th.length).getD a ev0).kind ≠ 1 ∨ ((evsT g g.th.length).getD b ev0).kind ≠ 1
    change (((evsT g g.th.length).getD a ev0).kind = 2 ∨ ((evsT g g.th.length).getD a ev0).kind = 3) ∨ (((evsT g g.th.length).getD b ev0).kind = 2 ∨ ((evsT g g.th.length).getD b ev0).kind = 3) at c5
    omega
theorem raceStays_ok (g : Gr) (hR : Rd g) (thread : Int) (e : Ev) (d : EId) (p : Int) : Pure Try.prog γ false 3 [aGr g, .i fun _ => thread, aEv e, aId d, .i fun _ => p] (.b fun _ => true) := by
  have kl := lives17_ok (γ := γ)
  have ki := light_ok (γ := γ) g hR 60 (by omega) (by omega)
  have kc := check14_ok (γ := γ) g hR
  have ka := radd_ok (γ := γ) g hR thread e d p
  by_cases hli : lightM 60 g = true
  · rw [hli] at ki
    by_cases hg : GOk g
    · have hc0 := gcheck0 hg
      rw [hc0] at kc
      have kr := rall_yes (γ := γ) g hR hg
      have ke := fun x => rEvent_ok (γ := γ) g hR hg x
      have ro := fun i (hi : i < (racesV (rvG g)).length) => races_ok hg hi
      have rl := races_len hg
      have rb : addE g thread e d p = 0 → GOk (addR g thread e d p) ∧ ∀ i < (racesV (rvG g)).length, btM (rvG (addR g thread e d p)) ((racesV (rvG g)).getD i rc0).a ((racesV (rvG g)).getD i rc0).b = true := fun hE => by
        have h1 : 1 ≤ thread ∧ thread ≤ (g.th.length : Nat) := by
          unfold addE at hE
          rw [if_pos hg] at hE
          split at hE
          · assumption
          · omega
        obtain ⟨t, ht⟩ : ∃ t : Nat, thread = (t : Int) + 1 := ⟨(thread - 1).toNat, by omega⟩
        subst ht
        have ht : t < g.th.length := by omega
        have e1 : ((t : Int) + 1 - 1).toNat = t := by omega
        have hc : addC g t e d p := by
          unfold addE at hE
          rw [if_pos hg, if_pos h1, e1] at hE
          split at hE
          · omega
          · split at hE
            · assumption
            · omega
        have er : addR g ((t : Int) + 1) e d p = addG g t e d p := by unfold addR; rw [if_pos hE, e1]
        rw [er]
        refine ⟨hc.2.2, fun i hi => ?_⟩
        obtain ⟨a, b, hab, hb, ho, e⟩ := races_mem hi
        rw [e]
        exact stays_one hg ht hc.2.2 (Nat.lt_trans hab hb) hb ho
      have rk : addE g thread e d p = 0 → ∀ x y, Pure Try.prog γ false 14 [aGr (addR g thread e d p), aId x, aId y] (.b fun _ => btM (rvG (addR g thread e d p)) x y) := fun hE x y =>
        rbetween_yes _ (rd_short (rb hE).1) (rb hE).1 x y
      generalize rvG (addR g thread e d p) = vh at *
      generalize addR g thread e d p = h at *
      generalize addE g thread e d p = E0 at *
      generalize racesV (rvG g) = L at *
      refine Pure.go (ty := ty) ty_eq mo Try.func3 rfl Try.ntmps3 Try.results3 Try.call3 (by simp) fun P C CQ D W F E hF => ?_
      cbv
      skip
      repeat' (first
        | (refine E.c (SCalls.of_le (ka) ?_ ?_); (· (cbv; (try simp only [nc] at *); first | done | (simp; done) | (simp (disch := (first | omega | (simp only [lnS, rcs_len]; omega))) only [rdT, rdS, rcs_len, rcs_at, anT]; first | done | omega | (refine ⟨?_, ?_⟩ <;> omega)) | (simp (disch := (first | omega | (simp only [lnS, rcs_len]; omega))) [rdT, rdS, rcs_len, rcs_at]; done))); cbv)
        | (refine E.c (SCalls.of_le (kr) ?_ ?_); (· (cbv; (try simp only [nc] at *); first | done | (simp; done) | (simp (disch := (first | omega | (simp only [lnS, rcs_len]; omega))) only [rdT, rdS, rcs_len, rcs_at, anT]; first | done | omega | (refine ⟨?_, ?_⟩ <;> omega)) | (simp (disch := (first | omega | (simp only [lnS, rcs_len]; omega))) [rdT, rdS, rcs_len, rcs_at]; done))); cbv)
        | (refine E.c (SCalls.of_le (kc) ?_ ?_); (· (cbv; (try simp only [nc] at *); first | done | (simp; done) | (simp (disch := (first | omega | (simp only [lnS, rcs_len]; omega))) only [rdT, rdS, rcs_len, rcs_at, anT]; first | done | omega | (refine ⟨?_, ?_⟩ <;> omega)) | (simp (disch := (first | omega | (simp only [lnS, rcs_len]; omega))) [rdT, rdS, rcs_len, rcs_at]; done))); cbv)
        | (refine E.c (SCalls.of_le (ki) ?_ ?_); (· (cbv; (try simp only [nc] at *); first | done | (simp; done) | (simp (disch := (first | omega | (simp only [lnS, rcs_len]; omega))) only [rdT, rdS, rcs_len, rcs_at, anT]; first | done | omega | (refine ⟨?_, ?_⟩ <;> omega)) | (simp (disch := (first | omega | (simp only [lnS, rcs_len]; omega))) [rdT, rdS, rcs_len, rcs_at]; done))); cbv)
        | (refine E.c (SCalls.of_le (kl) ?_ ?_); (· (cbv; (try simp only [nc] at *); first | done | (simp; done) | (simp (disch := (first | omega | (simp only [lnS, rcs_len]; omega))) only [rdT, rdS, rcs_len, rcs_at, anT]; first | done | omega | (refine ⟨?_, ?_⟩ <;> omega)) | (simp (disch := (first | omega | (simp only [lnS, rcs_len]; omega))) [rdT, rdS, rcs_len, rcs_at]; done))); cbv)
        | (refine ⟨fun _ h_s => ?_, fun _ h_s => ?_⟩ <;> (cbv; (try simp only [nc] at *); try simp (disch := (first | omega | (simp only [lnS, rcs_len]; omega))) only [rdT, rdS, rcs_len, rcs_at, reduceCtorEq, trT] at h_s))
        | (refine hF ?_; intro _; clear hF)
        | (refine hF ?_; cbv; clear hF)
        | (refine ⟨fun _ => ?_, ?_⟩; (· ((try simp only [nc] at *); first | done | omega | exact ⟨by omega, rfl⟩ | (simp (disch := (first | omega | (simp only [lnS, rcs_len]; omega))) only [rdT, rdS, rcs_len, rcs_at]; first | done | omega | rfl | exact ⟨by omega, rfl⟩ | (simp; done) | (simp; omega)) | (intros; trivial))); (try (simp only [nc] at *)); (try simp (disch := (first | omega | (simp only [lnS, rcs_len]; omega))) only [rdT, rdS, rcs_len, rcs_at]); (try cbv))
        | (refine E.d 48 (by decide +kernel) ?_; cbv; (fail_if_success guard_target =~ False))
        | fail
      )
      · rfl
      · exfalso; revert h_s; simp
      refine E.loopS (ι := Nat) (fun i => i ≤ L.length) (fun i => L.length - i) (fun i => [(15, .i fun _ => ((i : Nat) : Int))]) (fun i h => h) 0 (fun _ => by first | rfl | simp) (Nat.zero_le _) ?_ fun i hi I hI => ?_
      · cbv; simp
      cbv
      have r1 := ke (L.getD i rc0).a
      have r2 := ke (L.getD i rc0).b
      have q1 := fun hi => (ro i hi).thr
      have q2 := fun hi => (ro i hi).ord
      have q3 := fun hi => (ro i hi).kind
      have r4 := fun hE => rk hE (L.getD i rc0).a (L.getD i rc0).b
      have r5 := fun hE => (rb hE).2 i
      generalize (eventM g (L.getD i rc0).a).getD ev0 = A1 at *
      generalize (eventM g (L.getD i rc0).b).getD ev0 = A2 at *
      generalize (eventM g (L.getD i rc0).a).isSome = A3 at *
      generalize (eventM g (L.getD i rc0).b).isSome = A4 at *
      repeat' (first
        | (refine hI (i + 1) ?_ ?_ ?_; rotate_left 1; (· ((try simp only [nc] at *); omega)); (cbv; clear hI; (try clear hF); (try simp only [nc] at *); (try simp (disch := (first | omega | (simp only [lnS, rcs_len]; omega))) only [rdT, rdS, rcs_len, rcs_at, anT])); rotate_left 1; (try ((try simp only [nc] at *); omega)))
        | ((first | refine E.c (SCalls.of_le (r4 (by assumption)) ?_ ?_) | refine E.q (QCalls.of_le (r4 (by assumption)) ?_ ?_)); (· (cbv; (try simp only [nc] at *); first | done | (simp; done) | (simp (disch := (first | omega | (simp only [lnS, rcs_len]; omega))) only [rdT, rdS, rcs_len, rcs_at, anT]; first | done | omega | (refine ⟨?_, ?_⟩ <;> omega)) | (simp (disch := (first | omega | (simp only [lnS, rcs_len]; omega))) [rdT, rdS, rcs_len, rcs_at]; done))); cbv)
        | ((first | refine E.c (SCalls.of_le (r2) ?_ ?_) | refine E.q (QCalls.of_le (r2) ?_ ?_)); (· (cbv; (try simp only [nc] at *); first | done | (simp; done) | (simp (disch := (first | omega | (simp only [lnS, rcs_len]; omega))) only [rdT, rdS, rcs_len, rcs_at, anT]; first | done | omega | (refine ⟨?_, ?_⟩ <;> omega)) | (simp (disch := (first | omega | (simp only [lnS, rcs_len]; omega))) [rdT, rdS, rcs_len, rcs_at]; done))); cbv)
        | ((first | refine E.c (SCalls.of_le (r1) ?_ ?_) | refine E.q (QCalls.of_le (r1) ?_ ?_)); (· (cbv; (try simp only [nc] at *); first | done | (simp; done) | (simp (disch := (first | omega | (simp only [lnS, rcs_len]; omega))) only [rdT, rdS, rcs_len, rcs_at, anT]; first | done | omega | (refine ⟨?_, ?_⟩ <;> omega)) | (simp (disch := (first | omega | (simp only [lnS, rcs_len]; omega))) [rdT, rdS, rcs_len, rcs_at]; done))); cbv)
        | (refine E.de 12 [] [none] (by decide +kernel) ?_; cbv; (fail_if_success guard_target =~ False))
        | (refine ⟨fun _ h_s => ?_, fun _ h_s => ?_⟩ <;> (cbv; (try simp only [nc] at *); try simp (disch := (first | omega | (simp only [lnS, rcs_len]; omega))) only [rdT, rdS, rcs_len, rcs_at, reduceCtorEq, trT] at h_s))
        | (refine hF ?_; intro _; clear hF)
        | (refine hF ?_; cbv; clear hF)
        | (refine ⟨fun _ => ?_, ?_⟩; (· ((try simp only [nc] at *); first | done | omega | exact ⟨by omega, rfl⟩ | (simp (disch := (first | omega | (simp only [lnS, rcs_len]; omega))) only [rdT, rdS, rcs_len, rcs_at]; first | done | omega | rfl | exact ⟨by omega, rfl⟩ | (simp; done) | (simp; omega)) | (intros; trivial))); (try (simp only [nc] at *)); (try simp (disch := (first | omega | (simp only [lnS, rcs_len]; omega))) only [rdT, rdS, rcs_len, rcs_at]); (try cbv))
        | (refine E.d 48 (by decide +kernel) ?_; cbv; (fail_if_success guard_target =~ False))
        | fail
      )
      all_goals first
        | (push_cast; rfl)
        | rfl
        | (exfalso
           have hi2 : i < L.length := by ((try simp only [nc] at *); omega)
           have q1 := q1 hi2
           have q2 := q2 hi2
           have q3 := q3 hi2
           have r5 := fun hE => r5 hE hi2
           clear kl ki kc ka kr ke ro r1 r2 r4 rk rb hI
           first
             | omega
             | (simp_all; done)
             | (simp_all; omega))
    · have hc : gcheckM g ≠ 0 := by unfold gcheckM; split <;> simp [hg]
      generalize gcheckM g = c0 at *
      refine Pure.go (ty := ty) ty_eq mo Try.func3 rfl Try.ntmps3 Try.results3 Try.call3 (by simp) fun P C CQ D W F E hF => ?_
      cbv
      repeat' (first
        | (refine E.c (SCalls.of_le (kc) ?_ ?_); (· (cbv; (try simp only [nc] at *); first | done | (simp; done) | (simp (disch := (first | omega | (simp only [lnS, rcs_len]; omega))) only [rdT, rdS, rcs_len, rcs_at, anT]; first | done | omega | (refine ⟨?_, ?_⟩ <;> omega)) | (simp (disch := (first | omega | (simp only [lnS, rcs_len]; omega))) [rdT, rdS, rcs_len, rcs_at]; done))); cbv)
        | (refine E.c (SCalls.of_le (ki) ?_ ?_); (· (cbv; (try simp only [nc] at *); first | done | (simp; done) | (simp (disch := (first | omega | (simp only [lnS, rcs_len]; omega))) only [rdT, rdS, rcs_len, rcs_at, anT]; first | done | omega | (refine ⟨?_, ?_⟩ <;> omega)) | (simp (disch := (first | omega | (simp only [lnS, rcs_len]; omega))) [rdT, rdS, rcs_len, rcs_at]; done))); cbv)
        | (refine E.c (SCalls.of_le (kl) ?_ ?_); (· (cbv; (try simp only [nc] at *); first | done | (simp; done) | (simp (disch := (first | omega | (simp only [lnS, rcs_len]; omega))) only [rdT, rdS, rcs_len, rcs_at, anT]; first | done | omega | (refine ⟨?_, ?_⟩ <;> omega)) | (simp (disch := (first | omega | (simp only [lnS, rcs_len]; omega))) [rdT, rdS, rcs_len, rcs_at]; done))); cbv)
        | (refine ⟨fun _ h_s => ?_, fun _ h_s => ?_⟩ <;> (cbv; (try simp only [nc] at *); try simp (disch := (first | omega | (simp only [lnS, rcs_len]; omega))) only [rdT, rdS, rcs_len, rcs_at, reduceCtorEq, trT] at h_s))
        | (refine hF ?_; intro _; clear hF)
        | (refine hF ?_; cbv; clear hF)
        | (refine ⟨fun _ => ?_, ?_⟩; (· ((try simp only [nc] at *); first | done | omega | exact ⟨by omega, rfl⟩ | (simp (disch := (first | omega | (simp only [lnS, rcs_len]; omega))) only [rdT, rdS, rcs_len, rcs_at]; first | done | omega | rfl | exact ⟨by omega, rfl⟩ | (simp; done) | (simp; omega)) | (intros; trivial))); (try (simp only [nc] at *)); (try simp (disch := (first | omega | (simp only [lnS, rcs_len]; omega))) only [rdT, rdS, rcs_len, rcs_at]); (try cbv))
        | (refine E.d 48 (by decide +kernel) ?_; cbv; (fail_if_success guard_target =~ False))
        | fail
      )
      all_goals first
        | rfl
        | (exfalso; ((try simp only [nc] at *); omega))
  · rw [show lightM 60 g = false by simpa using hli] at ki
    refine Pure.go (ty := ty) ty_eq mo Try.func3 rfl Try.ntmps3 Try.results3 Try.call3 (by simp) fun P C CQ D W F E hF => ?_
    cbv
    repeat' (first
      | (refine E.c (SCalls.of_le (ki) ?_ ?_); (· (cbv; (try simp only [nc] at *); first | done | (simp; done) | (simp (disch := (first | omega | (simp only [lnS, rcs_len]; omega))) only [rdT, rdS, rcs_len, rcs_at, anT]; first | done | omega | (refine ⟨?_, ?_⟩ <;> omega)) | (simp (disch := (first | omega | (simp only [lnS, rcs_len]; omega))) [rdT, rdS, rcs_len, rcs_at]; done))); cbv)
      | (refine E.c (SCalls.of_le (kl) ?_ ?_); (· (cbv; (try simp only [nc] at *); first | done | (simp; done) | (simp (disch := (first | omega | (simp only [lnS, rcs_len]; omega))) only [rdT, rdS, rcs_len, rcs_at, anT]; first | done | omega | (refine ⟨?_, ?_⟩ <;> omega)) | (simp (disch := (first | omega | (simp only [lnS, rcs_len]; omega))) [rdT, rdS, rcs_len, rcs_at]; done))); cbv)
      | (refine ⟨fun _ h_s => ?_, fun _ h_s => ?_⟩ <;> (cbv; (try simp only [nc] at *); try simp (disch := (first | omega | (simp only [lnS, rcs_len]; omega))) only [rdT, rdS, rcs_len, rcs_at, reduceCtorEq, trT] at h_s))
      | (refine hF ?_; intro _; clear hF)
      | (refine hF ?_; cbv; clear hF)
      | (refine ⟨fun _ => ?_, ?_⟩; (· ((try simp only [nc] at *); first | done | omega | exact ⟨by omega, rfl⟩ | (simp (disch := (first | omega | (simp only [lnS, rcs_len]; omega))) only [rdT, rdS, rcs_len, rcs_at]; first | done | omega | rfl | exact ⟨by omega, rfl⟩ | (simp; done) | (simp; omega)) | (intros; trivial))); (try (simp only [nc] at *)); (try simp (disch := (first | omega | (simp only [lnS, rcs_len]; omega))) only [rdT, rdS, rcs_len, rcs_at]); (try cbv))
      | (refine E.d 48 (by decide +kernel) ?_; cbv; (fail_if_success guard_target =~ False))
      | fail
    )
    all_goals first
      | rfl
      | (exfalso; ((try simp only [nc] at *); omega))
end Go.AL.Rl

namespace Go.AL
open Go Go.RowKit Go.ChangeShapes Go.WideShapes

section
variable {H : Type} {enc : TypeId × Value → H} {P : Program} {w : World} {spare : Nat → Bool} {held : Bool}

abbrev Old (w : World) : Nat → Prop := fun k => k < w.heap.size

/-- Whatever reads by the type 't' is told by an 'a'. -/
def Dec (P : Program) (t : TypeId) (α : Type) (en : α → List AV) (ok : α → Prop) : Prop :=
  ∀ {H : Type} (enc : TypeId × Value → H) (w : World) (spare : Nat → Bool) (held : Bool) (fuel : Nat) (cs : List Value) (x : DataW H × List MemPlace),
    DataW.trod enc P w 0 spare held fuel t cs = some x → ∃ a, ok a ∧ Rs (Old w) w none (en a) cs

theorem Dec.int {t : TypeId} (ht : P.underlying t = some (.int .i64)) : Dec P t Int (fun n => [.i fun _ => n]) fun n => -9223372036854775808 ≤ n ∧ n ≤ 9223372036854775807 := by
  intro H enc w spare held fuel cs x h
  obtain ⟨n, rfl, _, h2⟩ := DataW.trod_int ht h
  exact ⟨n, bounds_i64 h2, _, _, rfl, rfl, rfl⟩
theorem Dec.u64 {t : TypeId} (ht : P.underlying t = some (.int .u64)) : Dec P t (BitVec 64) (fun n => [.u fun _ => n]) fun _ => True := by
  intro H enc w spare held fuel cs x h
  obtain ⟨n, rfl, _, h2⟩ := DataW.trod_int ht h
  have := bounds_u64 h2
  refine ⟨BitVec.ofInt 64 n, trivial, _, _, rfl, ?_, rfl⟩
  simp only [R]
  congr 1
  simp only [BitVec.toNat_ofInt]
  omega
theorem Dec.bool {t : TypeId} (ht : P.underlying t = some .bool) : Dec P t Bool (fun b => [.b fun _ => b]) fun _ => True := by
  intro H enc w spare held fuel cs x h
  obtain ⟨b, rfl, _⟩ := DataW.trod_bool ht h
  exact ⟨b, trivial, _, _, rfl, rfl, rfl⟩

theorem cells?_get {w : World} {a : Addr} {n : Nat} {cs : List Value} (h : w.cells? 0 a n = some cs) : cs.length = n ∧ ∀ (i : Nat) (c : Value), cs[i]? = some c → w.cell? (a.add i) = some c := by
  simp only [World.cells?, Nat.zero_le, if_true] at h
  have hl : cs.length = n := by have := mapM_some_length h; simpa using this
  refine ⟨hl, fun i c hc => ?_⟩
  have hi : i < n := by have := (List.getElem?_eq_some_iff.1 hc).1; omega
  rw [mapM_some_get h i i (by simp [hi])]; exact hc

theorem list_of_all {α β : Type} {R' : α → β → Prop} : ∀ (l : List β), (∀ b ∈ l, ∃ a, R' a b) → ∃ r : List α, r.length = l.length ∧ ∀ (i : Nat) (a : α) (b : β), r[i]? = some a → l[i]? = some b → R' a b
  | [], _ => ⟨[], rfl, fun i a b h => by simp at h⟩
  | b :: l, h => by
    obtain ⟨a, ha⟩ := h b (by simp)
    obtain ⟨r, h1, h2⟩ := list_of_all l fun b hb => h b (by simp [hb])
    refine ⟨a :: r, by simp [h1], fun i a' b' ha' hb' => ?_⟩
    cases i with
    | zero => simp at ha' hb'; subst ha'; subst hb'; exact ha
    | succ i => exact h2 i a' b' (by simpa using ha') (by simpa using hb')

/-- the elements' values: 'mk' is '.agg' or the one cell -/
structure Elem (mk : List AV → AV) (k : Nat) : Prop where
  val : ∀ {S : Nat → Prop} {w : World} {l : List AV} {cs : List Value}, cs.length = k → l.all AV.one = true → Rs S w none l cs → ∃ v, v.cells.toList = cs ∧ R S w none (mk l) v
theorem Elem.agg (k : Nat) : Elem .agg k := ⟨fun {S w l cs} _ _ h => ⟨.agg cs.toArray, by simp [Value.cells], cs, rfl, h⟩⟩
theorem Elem.one : Elem (fun l => l.headD .any) 1 := ⟨fun {S w l cs} hl h1 h => by
  match cs, hl with
  | [c], _ =>
    match l, h with
    | x :: _, ⟨v, _, e, hx, hr⟩ =>
      cases e
      simp only [List.all_cons, Bool.and_eq_true] at h1
      exact ⟨c, by rw [cells_of_one (R_one hx h1.1)], hx⟩⟩

theorem Dec.slice {t e : TypeId} (ht : P.underlying t = some (.slice e)) {k : Nat} (hk : P.cellsOf e = k) (hk0 : 0 < k) {α : Type} {en : α → List AV} {ok : α → Prop} {mk : List AV → AV} (he : Dec P e α en ok) (hone : ∀ a, (en a).all AV.one = true) (hm : Elem mk k) :
    Dec P t (List α) (fun l => [.vs k fun _ => LV.of (l.map fun a => mk (en a))]) fun l => l.length ≤ maxLen ∧ ∀ a ∈ l, ok a := by
  subst hk
  intro H enc w spare held fuel cs x h
  rcases DataW.trod_slice ht h with ⟨rfl, _⟩ | ⟨a, len, cap, elems, rest, n, rfl, rfl, rfl, _, h2, h3, h4, h5, _⟩
  · exact ⟨[], ⟨by simp, by simp⟩, _, _, rfl, ⟨none, 0, [], rfl, Nat.le_refl _, rfl, .inl rfl⟩, rfl⟩
  · have key : ∀ i : Nat, i < len → ∃ (c : List Value) (a' : α), w.cells? 0 (a.add (i * P.cellsOf e)) (P.cellsOf e) = some c ∧ ok a' ∧ Rs (Old w) w none (en a') c := by
      intro i hi
      have := h5 i hi
      rw [List.getElem?_eq_getElem (by omega)] at this
      simp only [Option.bind_eq_some_iff] at this
      obtain ⟨c, hc, hd⟩ := this
      obtain ⟨a', ha, hr⟩ := he _ _ _ _ _ _ _ hd
      exact ⟨c, a', hc, ha, hr⟩
    have hlist := list_of_all (R' := fun (q : α × Value) (i : Nat) => ok q.1 ∧ q.2.cells.size = P.cellsOf e ∧ (∀ (j : Nat) (c : Value), q.2.cells[j]? = some c → w.cell? ((a.add (i * P.cellsOf e)).add j) = some c) ∧ R (Old w) w none (mk (en q.1)) q.2) (List.range len) fun i hi => by
      obtain ⟨c, a', hc, ha, hr⟩ := key i (by simpa using hi)
      obtain ⟨hl, hg⟩ := cells?_get hc
      obtain ⟨v, hv, hr'⟩ := hm.val hl (hone a') hr
      refine ⟨(a', v), ha, by rw [← Array.length_toList, hv]; exact hl, fun j c' hj => hg j c' ?_, hr'⟩
      rw [← hv]; simpa using hj
    obtain ⟨qs, hq1, hq2⟩ := hlist
    rw [List.length_range] at hq1
    have hq : ∀ (i : Nat) (q : α × Value), qs[i]? = some q → ok q.1 ∧ q.2.cells.size = P.cellsOf e ∧ (∀ (j : Nat) (c : Value), q.2.cells[j]? = some c → w.cell? ((a.add (i * P.cellsOf e)).add j) = some c) ∧ R (Old w) w none (mk (en q.1)) q.2 := fun i q hi =>
      hq2 i q i hi (by
        have := (List.getElem?_eq_some_iff.1 hi).1
        rw [List.getElem?_range (by omega)])
    refine ⟨qs.map (·.1), ⟨by simp; omega, fun a' ha' => ?_⟩, _, _, rfl, ⟨some a, cap, qs.map (·.2), by simp [hq1], by simp; omega, ?_, ?_⟩, rfl⟩
    · obtain ⟨q, hqm, rfl⟩ := List.mem_map.1 ha'
      obtain ⟨i, hi, rfl⟩ := List.mem_iff_getElem.1 hqm
      exact (hq i _ (List.getElem?_eq_getElem hi)).1
    · rw [RL_iff, LV.l_of, Rs_iff]
      refine ⟨by simp, fun i c v hc hv => ?_⟩
      simp only [List.map_map, List.getElem?_map, Option.map_eq_some_iff] at hc hv
      obtain ⟨q, hq', rfl⟩ := hc
      obtain ⟨q', hq'', rfl⟩ := hv
      rw [hq'] at hq''; cases hq''
      exact (hq i q hq').2.2.2
    · cases hqs : qs with
      | nil => exact .inl rfl
      | cons q0 qr =>
        right
        have hlen : 0 < len := by rw [← hq1, hqs]; simp
        obtain ⟨_, hsz, hcell, _⟩ := hq 0 q0 (by rw [hqs]; rfl)
        have hc0 : ∃ c, q0.2.cells[0]? = some c := ⟨_, Array.getElem?_eq_getElem (by omega)⟩
        obtain ⟨c, hc⟩ := hc0
        have hw := hcell 0 c hc
        have ha0 : a.spot = none ∧ a.block < w.heap.size := by
          simp only [Nat.zero_mul, Addr.add, if_true] at hw
          unfold World.cell? at hw
          split at hw
          · rename_i hb
            split at hw
            · cases hw
            · rename_i hs
              exact ⟨by simpa using hs, (Array.getElem?_eq_some_iff.1 hb).1⟩
          · cases hw
        refine ⟨a, rfl, ha0.1, ha0.2, fun i ev hi => ?_⟩
        rw [← hqs] at hi
        simp only [List.getElem?_map, Option.map_eq_some_iff] at hi
        obtain ⟨q, hq', rfl⟩ := hi
        obtain ⟨_, h1, h2, _⟩ := hq i q hq'
        refine ⟨h1, fun j c hj => ?_⟩
        have := h2 j c hj
        have ea : (a.add (i * P.cellsOf e)).add j = ⟨a.block, a.off + (i * P.cellsOf e + j), none⟩ := by
          obtain ⟨b, o, s⟩ := a
          simp only at ha0
          obtain ⟨rfl, _⟩ := ha0
          simp only [Addr.add]
          by_cases h0 : i * P.cellsOf e = 0 <;> by_cases h1 : j = 0 <;> simp [h0, h1] <;> omega
        rw [← ea]; exact this

/-- fields, one behind the other -/
theorem Dec.fields {t : TypeId} {fs : List Field} {a : Array Field} (ht : P.underlying t = some (.struct a)) (hfs : a.toList = fs) {α : Type} {en : α → List AV} {ok : α → Prop}
    (h : ∀ {H : Type} (enc : TypeId × Value → H) (w : World) (spare : Nat → Bool) (held : Bool) (n : Nat) (cs : List Value), cs.length = P.cellsOf t →
      (∀ f ∈ fs, ∃ x, DataW.trod enc P w 0 spare held n f.type ((cs.drop f.offset).take (P.cellsOf f.type)) = some x) → ∃ a, ok a ∧ Rs (Old w) w none (en a) cs) : Dec P t α en ok := by
  intro H enc w spare held fuel cs x hx
  obtain ⟨xs, n, rfl, rfl, h1, h2, h3⟩ := DataW.trod_struct ht hx
  refine h enc w spare held n cs h1 fun f hf => ?_
  rw [← hfs] at hf
  obtain ⟨i, hi, rfl⟩ := List.mem_iff_getElem.1 hf
  have hi' : i < a.size := by simpa using hi
  have := h3 i a[i] (Array.getElem?_eq_getElem hi')
  rw [List.getElem?_eq_getElem (by omega)] at this
  exact ⟨_, by simpa using this⟩
theorem cut3 (cs : List Value) (o s n : Nat) (h : cs.length = n) (ho : o + s = n) : cs = cs.take o ++ (cs.drop o).take s := by
  have : (cs.drop o).take s = cs.drop o := List.take_of_length_le (by simp; omega)
  rw [this, List.take_append_drop]

theorem Dec.struct2 {t : TypeId} {a : Array Field} (ht : P.underlying t = some (.struct a)) {t0 t1 : TypeId} {s0 s1 : Nat} (hfs : a.toList.map (fun f => (f.type, f.offset)) = [(t0, 0), (t1, s0)]) (h0 : P.cellsOf t0 = s0) (h1 : P.cellsOf t1 = s1) (hs : P.cellsOf t = s0 + s1)
    {α β : Type} {e0 : α → List AV} {e1 : β → List AV} {k0 : α → Prop} {k1 : β → Prop} (d0 : Dec P t0 α e0 k0) (d1 : Dec P t1 β e1 k1) : Dec P t (α × β) (fun p => e0 p.1 ++ e1 p.2) fun p => k0 p.1 ∧ k1 p.2 := by
  refine Dec.fields ht rfl fun {H} enc w spare held n cs hl hf => ?_
  have get : ∀ t o, (t, o) ∈ a.toList.map (fun f => (f.type, f.offset)) → ∃ x, DataW.trod enc P w 0 spare held n t ((cs.drop o).take (P.cellsOf t)) = some x := fun t o hm => by
    obtain ⟨f, hf1, hf2⟩ := List.mem_map.1 hm
    cases hf2
    exact hf f hf1
  rw [hfs] at get
  obtain ⟨x0, g0⟩ := get t0 0 (by simp)
  obtain ⟨x1, g1⟩ := get t1 s0 (by simp)
  obtain ⟨a0, o0, r0⟩ := d0 _ _ _ _ _ _ _ g0
  obtain ⟨a1, o1, r1⟩ := d1 _ _ _ _ _ _ _ g1
  refine ⟨(a0, a1), ⟨o0, o1⟩, ?_⟩
  rw [cut3 cs s0 s1 _ (hl.trans hs) rfl]
  rw [h0] at r0; rw [h1] at r1
  exact Rs_append (by simpa using r0) r1

theorem trodAll_len {W : World} {b : Nat} : ∀ {ts : List TypeId} {vs : List Value} {ds : List (DataW H)} {p : List MemPlace}, DataW.TrodAll enc P W b spare held ts vs ds p → ds.length = ts.length
  | [], [], [], _, _ => rfl
  | _ :: _, _ :: _, _ :: _, _, ⟨_, _, _, h, _⟩ => by simp [trodAll_len h]
  | [], [], _ :: _, _, h => h.elim
  | [], _ :: _, _, _, h => h.elim
  | _ :: _, [], _, _, h => h.elim
  | _ :: _, _ :: _, [], _, h => h.elim
theorem trodAll_carry {W W' : World} (hq : ∀ k, k < W.heap.size → W'.heap[k]? = W.heap[k]?) : ∀ {ts : List TypeId} {vs : List Value} {ds : List (DataW H)} {p : List MemPlace},
    DataW.TrodAll enc P W 0 spare held ts vs ds p → (∀ p' ∈ p, p'.block < W.heap.size) → DataW.TrodAll enc P W' 0 spare held ts vs ds p
  | [], [], [], _, h, _ => h
  | _ :: _, _ :: _, _ :: _, _, ⟨p0, q0, ⟨n, h1⟩, h2, e⟩, lt => by
    subst e
    refine ⟨p0, q0, ⟨n, DataW.trod_carry _ _ _ _ h1 fun pl hpl => ?_⟩, trodAll_carry hq h2 fun p' hp => lt p' (List.mem_append_right _ hp), rfl⟩
    have hlt := lt pl (List.mem_append_left _ hpl)
    cases pl with
    | cell b off => exact World.cell?_of_block (hq b hlt)
    | map b => exact hq b hlt
  | [], [], _ :: _, _, h, _ => h.elim
  | [], _ :: _, _, _, h, _ => h.elim
  | _ :: _, [], _, _, h, _ => h.elim
  | _ :: _, _ :: _, [], _, h, _ => h.elim
theorem post_true {H : Type} {enc : TypeId × Value → H} {f : Func} {s : ChangeSpec} {W W' : World} {args : Array Value} {ds gs : List (DataW H)} {before : List MemPlace} {tb : TypeId}
    (hW : DataW.Whole enc P f.params.toList s.vars false W args.toList ds gs before) (hv : s.vars = []) (hres : f.resultTypes = #[tb]) (htb : P.underlying tb = some .bool)
    (hs : ∀ ds' : List (DataW H), ds'.length = f.params.size → s.fn H ds' = { results := [.lit (.bool true)], args := ds' })
    (hl : laidOutB P = true) (hm : mapsRowed P = true) (hz : ((List.range P.types.size).all fun t => match P.underlying t with | some (.slice e) => decide (0 < P.cellsOf e) | _ => true) = true) (hT : ∀ t ∈ f.params.toList, t < P.types.size)
    (hq : ∀ k, k < W.heap.size → W'.heap[k]? = W.heap[k]?) (fr : Fr W W') : s.post enc P f false true false false W args (.bool true) W' := by
  have hW' := hW
  obtain ⟨p, q, hA, hV, rfl, hfz, hnd⟩ := hW
  rw [hv] at hV
  obtain ⟨rfl, rfl⟩ := trodVars_none hV
  have hlen : ds.length = f.params.size := by have := trodAll_len hA; simpa using this
  have hsd := hs (ds ++ []) (by simpa using hlen)
  have hall : ∀ (b : Nat) (sp : Nat → Bool) (hd : Bool), DataW.TrodAll enc P W' b sp hd [tb] [.bool true] [.lit (.bool true)] [] := fun b sp hd => ⟨[], [], ⟨1, by simp [DataW.trod, htb, Value.cells]⟩, rfl, rfl⟩
  refine post_of_same (pa := p) (pv := []) hW' (fun b sp hd => ?_) (fun sp hsp => ?_) (fun sp _ => ?_) (by simp) ?_ fr.frozen ?_
  · rw [hsd, hres]; exact hall b sp hd
  · rw [hsd]
    simp only [List.append_nil]
    have carry : DataW.TrodAll enc P W' 0 (fun _ => true) true f.params.toList args.toList ds p := trodAll_carry hq hA fun p' hp => hW'.lt p' (by simpa using hp)
    exact carry.respare (kids_rows hl hm) (fun t e ht hu => slices_full_of P hz t e ht hu) hT fun p' hp => hsp p' (by simpa using hp)
  · rw [hsd, hv]; rfl
  · refine ⟨fr.os, fr.output, fun i hi => ?_⟩
    rw [hq i hi]
    cases h : W.heap[i]? with
    | none => trivial
    | some o => cases o <;> simp
  · exact ok_one hres rfl (okWide_bool_mk htb _)

def Arg (P : Program) (t : TypeId) (α : Type) (en : α → AV) (ok : α → Prop) : Prop :=
  ∀ {H : Type} (enc : TypeId × Value → H) (W : World) (base : Nat) (v : Value) (d : DataW H) (p : List MemPlace), Value.okWide P W .any base t v → DataW.Trod enc P W 0 (fun _ => true) true t v d p → ∃ a, ok a ∧ R (Old W) W none (en a) v
theorem Arg.agg {t : TypeId} {a : Array Field} (ht : P.underlying t = some (.struct a)) {α : Type} {en : α → List AV} {ok : α → Prop} (h : Dec P t α en ok) : Arg P t α (fun a => .agg (en a)) ok := by
  intro H enc W base v d p hok ⟨n, hn⟩
  simp only [Value.okWide, ht] at hok
  obtain ⟨cs, rfl, _⟩ := hok
  obtain ⟨x, h1, h2⟩ := h _ _ _ _ _ _ _ hn
  exact ⟨x, h1, cs.toList, by simp, by simpa [Value.cells] using h2⟩
theorem Arg.one {t : TypeId} {k : TypeDesc} (ht : P.underlying t = some k) (hk : match k with | .int _ | .bool | .slice _ => True | _ => False) {α : Type} {en : α → AV} {ok : α → Prop} (h : Dec P t α (fun a => [en a]) ok) : Arg P t α en ok := by
  intro H enc W base v d p hok ⟨n, hn⟩
  obtain ⟨x, h1, y, ys, h2, h3, h4⟩ := h _ _ _ _ _ _ _ hn
  have h4 : ys = [] := h4
  subst h4
  have hv : v = y := by
    cases v
    case agg cs => cases k <;> first | exact hk.elim | simp [Value.okWide, ht, Cell.okWide, Cell.ok] at hok
    all_goals (simp [Value.cells] at h2; exact h2)
  subst hv
  exact ⟨x, h1, h3⟩

/-- A LAW, from its contract. -/
theorem law_true {γ : Nat → Option AV} {f : FuncId} {fn : Func} {s : ChangeSpec} {W : World} {args : Array Value} {ds gs : List (DataW H)} {before : List MemPlace} {tb : TypeId} {avs : List AV} (hp : Pure P γ false f avs (.b fun _ => true)) (hr : Rs (Old W) W none avs args.toList)
    (hγ : ∀ g x, γ g = some x → R (Old W) W none (.vp (fun _ => x) 0) (.pointer (some ⟨g, 0, none⟩)))
    (hW : DataW.Whole enc P fn.params.toList s.vars false W args.toList ds gs before) (hv : s.vars = []) (hres : fn.resultTypes = #[tb]) (htb : P.underlying tb = some .bool)
    (hs : ∀ ds' : List (DataW H), ds'.length = fn.params.size → s.fn H ds' = { results := [.lit (.bool true)], args := ds' })
    (hl : laidOutB P = true) (hm : mapsRowed P = true) (hz : ((List.range P.types.size).all fun t => match P.underlying t with | some (.slice e) => decide (0 < P.cellsOf e) | _ => true) = true) (hT : ∀ t ∈ fn.params.toList, t < P.types.size) :
    Calls P f args W fun e W' => ∃ v, e = .returned v ∧ s.post enc P fn false true false false W args v W' := by
  have := hp.2 (Old W) W args.toList (fun k hk => hk) hγ hr
  refine (this.mono fun e w' ⟨v', S', h1, h2, h3⟩ => ?_)
  have h2 : v' = .bool true := h2
  subst h2
  exact ⟨_, h1, post_true hW hv hres htb hs hl hm hz hT h3.same h3.fr⟩
end
end Go.AL

namespace Go.AL
open Go Go.RowKit Go.ChangeShapes Go.WideShapes
section
variable {P : Program}
theorem Dec.imap {t : TypeId} {α β : Type} {en : α → List AV} {ok : α → Prop} {en' : β → List AV} {ok' : β → Prop} (d : Dec P t α en ok) (f : α → β) (he : ∀ a, en a = en' (f a)) (hk : ∀ a, ok a → ok' (f a)) : Dec P t β en' ok' := by
  intro H enc w spare held fuel cs x h
  obtain ⟨a, h1, h2⟩ := d _ _ _ _ _ _ _ h
  exact ⟨f a, hk a h1, by rw [← he]; exact h2⟩
theorem Dec.struct4 {t : TypeId} {a : Array Field} (ht : P.underlying t = some (.struct a)) {t0 t1 t2 t3 : TypeId} (hfs : a.toList.map (fun f => (f.type, f.offset)) = [(t0, 0), (t1, 1), (t2, 2), (t3, 3)])
    (h0 : P.cellsOf t0 = 1) (h1 : P.cellsOf t1 = 1) (h2 : P.cellsOf t2 = 1) (h3 : P.cellsOf t3 = 1) (hs : P.cellsOf t = 4)
    {A0 A1 A2 A3 : Type} {e0 : A0 → List AV} {e1 : A1 → List AV} {e2 : A2 → List AV} {e3 : A3 → List AV} {k0 : A0 → Prop} {k1 : A1 → Prop} {k2 : A2 → Prop} {k3 : A3 → Prop}
    (d0 : Dec P t0 A0 e0 k0) (d1 : Dec P t1 A1 e1 k1) (d2 : Dec P t2 A2 e2 k2) (d3 : Dec P t3 A3 e3 k3) :
    Dec P t (A0 × A1 × A2 × A3) (fun p => e0 p.1 ++ (e1 p.2.1 ++ (e2 p.2.2.1 ++ e3 p.2.2.2))) fun p => k0 p.1 ∧ k1 p.2.1 ∧ k2 p.2.2.1 ∧ k3 p.2.2.2 := by
  refine Dec.fields ht rfl fun {H} enc w spare held n cs hl hf => ?_
  have get : ∀ t o, (t, o) ∈ a.toList.map (fun f => (f.type, f.offset)) → ∃ x, DataW.trod enc P w 0 spare held n t ((cs.drop o).take (P.cellsOf t)) = some x := fun t o hm => by
    obtain ⟨f, hf1, hf2⟩ := List.mem_map.1 hm
    cases hf2
    exact hf f hf1
  rw [hfs] at get
  rw [hs] at hl
  match cs, hl with
  | [c0, c1, c2, c3], _ =>
    obtain ⟨x0, g0⟩ := get t0 0 (by simp)
    obtain ⟨x1, g1⟩ := get t1 1 (by simp)
    obtain ⟨x2, g2⟩ := get t2 2 (by simp)
    obtain ⟨x3, g3⟩ := get t3 3 (by simp)
    obtain ⟨a0, o0, r0⟩ := d0 _ _ _ _ _ _ _ g0
    obtain ⟨a1, o1, r1⟩ := d1 _ _ _ _ _ _ _ g1
    obtain ⟨a2, o2, r2⟩ := d2 _ _ _ _ _ _ _ g2
    obtain ⟨a3, o3, r3⟩ := d3 _ _ _ _ _ _ _ g3
    rw [h0] at r0; rw [h1] at r1; rw [h2] at r2; rw [h3] at r3
    exact ⟨(a0, a1, a2, a3), ⟨o0, o1, o2, o3⟩, Rs_append (vals := [c0]) r0 (Rs_append (vals := [c1]) r1 (Rs_append (vals := [c2]) r2 r3))⟩
theorem Dec.struct5 {t : TypeId} {a : Array Field} (ht : P.underlying t = some (.struct a)) {e f : TypeId} (hfs : a.toList.map (fun f => (f.type, f.offset)) = [(e, 0), (e, 1), (e, 2), (f, 3), (f, 4)])
    (h0 : P.cellsOf e = 1) (h1 : P.cellsOf f = 1) (hs : P.cellsOf t = 5) {A0 : Type} {e0 : A0 → List AV} {k0 : A0 → Prop} (d0 : Dec P e A0 e0 k0) (d1 : Dec P f A0 e0 k0) :
    Dec P t (A0 × A0 × A0 × A0 × A0) (fun p => e0 p.1 ++ (e0 p.2.1 ++ (e0 p.2.2.1 ++ (e0 p.2.2.2.1 ++ e0 p.2.2.2.2)))) fun p => k0 p.1 ∧ k0 p.2.1 ∧ k0 p.2.2.1 ∧ k0 p.2.2.2.1 ∧ k0 p.2.2.2.2 := by
  refine Dec.fields ht rfl fun {H} enc w spare held n cs hl hf => ?_
  have get : ∀ t o, (t, o) ∈ a.toList.map (fun f => (f.type, f.offset)) → ∃ x, DataW.trod enc P w 0 spare held n t ((cs.drop o).take (P.cellsOf t)) = some x := fun t o hm => by
    obtain ⟨f, hf1, hf2⟩ := List.mem_map.1 hm
    cases hf2
    exact hf f hf1
  rw [hfs] at get
  rw [hs] at hl
  match cs, hl with
  | [c0, c1, c2, c3, c4], _ =>
    obtain ⟨x0, g0⟩ := get e 0 (by simp)
    obtain ⟨x1, g1⟩ := get e 1 (by simp)
    obtain ⟨x2, g2⟩ := get e 2 (by simp)
    obtain ⟨x3, g3⟩ := get f 3 (by simp)
    obtain ⟨x4, g4⟩ := get f 4 (by simp)
    obtain ⟨a0, o0, r0⟩ := d0 _ _ _ _ _ _ _ g0
    obtain ⟨a1, o1, r1⟩ := d0 _ _ _ _ _ _ _ g1
    obtain ⟨a2, o2, r2⟩ := d0 _ _ _ _ _ _ _ g2
    obtain ⟨a3, o3, r3⟩ := d1 _ _ _ _ _ _ _ g3
    obtain ⟨a4, o4, r4⟩ := d1 _ _ _ _ _ _ _ g4
    rw [h0] at r0 r1 r2; rw [h1] at r3 r4
    exact ⟨(a0, a1, a2, a3, a4), ⟨o0, o1, o2, o3, o4⟩, Rs_append (vals := [c0]) r0 (Rs_append (vals := [c1]) r1 (Rs_append (vals := [c2]) r2 (Rs_append (vals := [c3]) r3 r4)))⟩
end
end Go.AL

namespace Go.AL.Rl
open Go Go.AL Go.Proofs Go.RowKit Go.ChangeShapes Go.WideShapes Go.ChangeAt Go.Proofs.Ytjoggeafcdfidaa
set_option maxRecDepth 100000

theorem laidOut : laidOutB Try.prog = true := by kernel_rfl
theorem mapsOk : mapsRowed Try.prog = true := by kernel_rfl
theorem slicesOk : ((List.range Try.prog.types.size).all fun t => match Try.prog.underlying t with | some (.slice e) => decide (0 < Try.prog.cellsOf e) | _ => true) = true := by kernel_rfl
theorem own : ownKnob Try.prog.godebug = none := by kernel_rfl
def γ0 : Nat → Option AV := fun _ => none
theorem gok0 {W : World} : ∀ g x, γ0 g = some x → R (Old W) W none (.vp (fun _ => x) 0) (.pointer (some ⟨g, 0, none⟩)) := fun g x h => by cases h
theorem aInt : Arg Try.prog 3 Int (fun n => .i fun _ => n) (fun n => -9223372036854775808 ≤ n ∧ n ≤ 9223372036854775807) := Arg.one Try.underlying3 trivial (Dec.int Try.underlying3)
theorem dInts : Dec Try.prog 22 (List Int) (fun l => [.vs 1 fun _ => is l]) fun l => l.length ≤ maxLen :=
  Dec.imap (Dec.slice Try.underlying22 (k := 1) (by kernel_rfl) (by omega) (Dec.int Try.underlying2) (fun _ => rfl) Elem.one) id (fun _ => rfl) fun _ h => h.1
theorem dEv : Dec Try.prog 28 Ev (fun e => [.i fun _ => e.kind, .i fun _ => e.loc, .i fun _ => e.order, .i fun _ => e.rd, .i fun _ => e.wr]) fun _ => True :=
  Dec.imap (Dec.struct5 Try.underlying28 (e := 3) (f := 2) (by kernel_rfl) (by kernel_rfl) (by kernel_rfl) (by kernel_rfl) (Dec.int Try.underlying3) (Dec.int Try.underlying2)) (fun p => ⟨p.1, p.2.1, p.2.2.1, p.2.2.2.1, p.2.2.2.2⟩) (fun _ => rfl) fun _ _ => trivial
theorem dId : Dec Try.prog 30 EId (fun e => [.i fun _ => e.t, .i fun _ => e.i]) fun _ => True :=
  Dec.imap (Dec.struct2 Try.underlying30 (t0 := 3) (t1 := 3) (s0 := 1) (s1 := 1) (by kernel_rfl) (by kernel_rfl) (by kernel_rfl) (by kernel_rfl) (Dec.int Try.underlying3) (Dec.int Try.underlying3)) (fun p => ⟨p.1, p.2⟩) (fun _ => rfl) fun _ _ => trivial
theorem dEvs : Dec Try.prog 47 (List Ev) (fun l => [.vs 5 fun _ => evs l]) fun l => l.length ≤ maxLen :=
  Dec.imap (Dec.slice Try.underlying47 (k := 5) (by kernel_rfl) (by omega) dEv (fun _ => rfl) (Elem.agg 5)) id (fun _ => rfl) fun _ h => h.1
theorem dIds : Dec Try.prog 55 (List EId) (fun l => [.vs 2 fun _ => ids l]) fun l => l.length ≤ maxLen :=
  Dec.imap (Dec.slice Try.underlying55 (k := 2) (by kernel_rfl) (by omega) dId (fun _ => rfl) (Elem.agg 2)) id (fun _ => rfl) fun _ h => h.1
theorem dEvss : Dec Try.prog 23 (List (List Ev)) (fun l => [.vs 1 fun _ => evss l]) fun l => l.length ≤ maxLen ∧ ∀ a ∈ l, a.length ≤ maxLen :=
  Dec.imap (Dec.slice Try.underlying23 (k := 1) (by kernel_rfl) (by omega) dEvs (fun _ => rfl) Elem.one) id (fun _ => rfl) fun _ h => h
theorem dIdss : Dec Try.prog 24 (List (List EId)) (fun l => [.vs 1 fun _ => idss l]) fun l => l.length ≤ maxLen ∧ ∀ a ∈ l, a.length ≤ maxLen :=
  Dec.imap (Dec.slice Try.underlying24 (k := 1) (by kernel_rfl) (by omega) dIds (fun _ => rfl) Elem.one) id (fun _ => rfl) fun _ h => h
theorem dGr : Dec Try.prog 26 Gr (fun g => [.vs 1 fun _ => is g.init, .vs 1 fun _ => evss g.th, .vs 1 fun _ => idss g.fr, .vs 1 fun _ => idss g.ord]) Rd :=
  Dec.imap (Dec.struct4 Try.underlying26 (t0 := 22) (t1 := 23) (t2 := 24) (t3 := 24) (by kernel_rfl) (by kernel_rfl) (by kernel_rfl) (by kernel_rfl) (by kernel_rfl) (by kernel_rfl) dInts dEvss dIdss dIdss)
    (fun p => ⟨p.1, p.2.1, p.2.2.1, p.2.2.2⟩) (fun _ => rfl) fun p h => by
      have e : maxLen = 9223372036854775807 := by decide +kernel
      obtain ⟨h0, ⟨h1, h1'⟩, ⟨h2, h2'⟩, h3, h3'⟩ := h
      rw [e] at *
      exact ⟨by dsimp only; omega, by dsimp only; omega, by dsimp only; omega, by dsimp only; omega, fun l hl => by have := h1' l hl; omega, fun l hl => by have := h2' l hl; omega, fun l hl => by have := h3' l hl; omega⟩
theorem aEvent : Arg Try.prog 28 Ev (fun e => .agg [.i fun _ => e.kind, .i fun _ => e.loc, .i fun _ => e.order, .i fun _ => e.rd, .i fun _ => e.wr]) fun _ => True := Arg.agg Try.underlying28 dEv
theorem aOne : Arg Try.prog 30 EId (fun e => .agg [.i fun _ => e.t, .i fun _ => e.i]) fun _ => True := Arg.agg Try.underlying30 dId
theorem aGraph : Arg Try.prog 26 Gr aGr Rd := Arg.agg Try.underlying26 dGr
end Go.AL.Rl

namespace Go.AL.Rl
open Go Go.AL Go.Proofs
set_option maxRecDepth 100000
open Go.RowKit Go.ChangeShapes Go.WideShapes Go.ChangeAt Go.Proofs.Ytjoggeafcdfidaa
namespace RaceStays
theorem contract (H : Type) (enc : TypeId × Value → H) (W : World) (base : Nat) (args : Array Value) (ds gs : List (DataW H)) (before : List MemPlace)
    (hval : ∀ (j : Nat) t v, Try.f3.params[j]? = some t → args[j]? = some v → Value.okWide Try.prog W .any base t v)
    (hW : DataW.Whole enc Try.prog Try.f3.params.toList Rows.raceStaysSpec.vars false W args.toList ds gs before) (hL : laidMet Try.prog Rows.raceStaysRow.laid W) :
    Calls Try.prog 3 args W fun e W' => ∃ v, e = .returned v ∧ Rows.raceStaysSpec.post enc Try.prog Try.f3 false true false false W args v W' := by
  have hW' := hW
  obtain ⟨p, q, hA, hV, rfl, hfz, hnd⟩ := hW
  rw [Try.params3] at hA hval
  obtain ⟨v0, vs0, d0, ds0, p0, q0, hargs, rfl, rfl, h0, r0⟩ := trodAll_cons hA
  obtain ⟨v1, vs1, d1, ds1, p1, q1, rfl, rfl, rfl, h1, r1⟩ := trodAll_cons r0
  obtain ⟨v2, vs2, d2, ds2, p2, q2, rfl, rfl, rfl, h2, r2⟩ := trodAll_cons r1
  obtain ⟨v3, vs3, d3, ds3, p3, q3, rfl, rfl, rfl, h3, r3⟩ := trodAll_cons r2
  obtain ⟨v4, vs4, d4, ds4, p4, q4, rfl, rfl, rfl, h4, r4⟩ := trodAll_cons r3
  obtain ⟨rfl, rfl, rfl⟩ := trodAll_nil r4
  obtain rfl : args = #[v0, v1, v2, v3, v4] := by cases args; simp_all
  obtain ⟨x0, k0, a0⟩ := aGraph enc W base v0 d0 p0 (hval 0 _ v0 rfl rfl) h0
  obtain ⟨x1, k1, a1⟩ := aInt enc W base v1 d1 p1 (hval 1 _ v1 rfl rfl) h1
  obtain ⟨x2, k2, a2⟩ := aEvent enc W base v2 d2 p2 (hval 2 _ v2 rfl rfl) h2
  obtain ⟨x3, k3, a3⟩ := aOne enc W base v3 d3 p3 (hval 3 _ v3 rfl rfl) h3
  obtain ⟨x4, k4, a4⟩ := aInt enc W base v4 d4 p4 (hval 4 _ v4 rfl rfl) h4
  exact law_true (raceStays_ok (γ := γ0) x0 k0 x1 x2 x3 x4) ⟨_, _, rfl, a0, _, _, rfl, a1, _, _, rfl, a2, _, _, rfl, a3, _, _, rfl, a4, rfl⟩ gok0 hW' rfl (tb := 4) (by kernel_rfl) Try.underlying4
    (fun ds' h => by match ds', h with | [a, b, c, d, e], _ => rfl) laidOut mapsOk slicesOk (by rw [Try.params3]; decide +kernel)
theorem laid_met (os : Os) : laidMet Try.prog Rows.raceStaysRow.laid ((World.holding Try.prog os ⟨#[], #[], []⟩).forCall (fun _ _ => 0) ⟨#[], #[.agg #[.slice none 0 0, .slice none 0 0, .slice none 0 0, .slice none 0 0], .int .i64 0, .agg #[.int .i64 0, .int .i64 0, .int .i64 0, .int .i64 0, .int .i64 0], .agg #[.int .i64 0, .int .i64 0], .int .i64 0], []⟩).memory :=
  laidMet_of_run' 8 (by kernel_rfl) (by kernel_rfl)
theorem reads (os : Os) {H : Type} (enc : TypeId × Value → H) : ∃ places, DataW.whole enc Try.prog ((World.holding Try.prog os ⟨#[], #[], []⟩).forCall (fun _ _ => 0) ⟨#[], #[.agg #[.slice none 0 0, .slice none 0 0, .slice none 0 0, .slice none 0 0], .int .i64 0, .agg #[.int .i64 0, .int .i64 0, .int .i64 0, .int .i64 0, .int .i64 0], .agg #[.int .i64 0, .int .i64 0], .int .i64 0], []⟩).memory Try.f3.params.toList Rows.raceStaysSpec.vars false (#[.agg #[.slice none 0 0, .slice none 0 0, .slice none 0 0, .slice none 0 0], .int .i64 0, .agg #[.int .i64 0, .int .i64 0, .int .i64 0, .int .i64 0, .int .i64 0], .agg #[.int .i64 0, .int .i64 0], .int .i64 0] : Array Value).toList 8 = some ([.agg [.nil, .nil, .nil, .nil], .lit (.int .i64 0), .agg [.lit (.int .i64 0), .lit (.int .i64 0), .lit (.int .i64 0), .lit (.int .i64 0), .lit (.int .i64 0)], .agg [.lit (.int .i64 0), .lit (.int .i64 0)], .lit (.int .i64 0)], [], places) :=
  ⟨[], by kernel_rfl⟩
theorem lifted (os : Os) (started : os.Started) (H : Type) (enc : TypeId × Value → H) (F : Stop.Interp) :
    ReturnsInHanded {} Try.checked os 3 .any ((OpenSpec.ofChange Rows.raceStaysSpec).preRow enc Try.prog Try.f3 Rows.raceStaysRow.domain false Rows.raceStaysRow.laid) (((OpenSpec.ofChange Rows.raceStaysSpec).at F).post enc Try.prog Try.f3 false true false false) := by
  obtain ⟨places, hx⟩ := reads os enc
  refine returnsInHanded_of_row (C := Try.checked) (s := OpenSpec.ofChange Rows.raceStaysSpec) own started (by kernel_rfl) Try.func3
    (witness_row_at (enc := enc) (C := Try.checked) false (World.holding Try.prog os ⟨#[], #[], []⟩) #[.agg #[.slice none 0 0, .slice none 0 0, .slice none 0 0, .slice none 0 0], .int .i64 0, .agg #[.int .i64 0, .int .i64 0, .int .i64 0, .int .i64 0, .int .i64 0], .agg #[.int .i64 0, .int .i64 0], .int .i64 0] rfl (by kernel_rfl) (by kernel_rfl) (by kernel_rfl)
      (OpenSpec.preRow_of_cond 8 hx (by kernel_rfl) (fun k hk => by cases hk) (by kernel_rfl) (laid_met os))) ?_
  intro W base args ds gs before hval hW _ _ _ hL _ _
  exact contract H enc W base args ds gs before hval hW hL
theorem said : Rows.RaceStaysSaid :=
  OpenClaim.holds_of_cond 3 Try.f3 rfl rfl rfl rfl rfl rfl rfl ⟨rfl, rfl, rfl, rfl, rfl⟩ rfl rfl rfl rfl rfl (by kernel_rfl) Try.func3 (by kernel_rfl)
    (of_decide_eq_true (by kernel_rfl)) (by unfold Func.isWrapper; first | (rw [if_pos (by decide +kernel)]; kernel_rfl) | (rw [if_neg (by decide +kernel)]; exact ⟨rfl, rfl⟩))
    (fun os started H enc _ F => by rw [OpenClaim.pre_eq_preRow]; exact lifted os started H enc F)
end RaceStays
end Go.AL.Rl
