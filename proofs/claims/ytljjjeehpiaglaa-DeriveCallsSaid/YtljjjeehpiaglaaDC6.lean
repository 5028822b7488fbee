import Derived.Test.YtljjjeehpiaglaaDC5
set_option linter.unusedVariables false
set_option linter.unusedSimpArgs false
namespace Go.AL.Rl
open Go Go.AL Go.Proofs
set_option maxRecDepth 100000
set_option maxHeartbeats 3200000
variable {γ : Nat → Option AV}

theorem viewOf_no (g : Gr) (hg : Rd g) (h : ¬ GOk g) : Pure Try.prog γ false 28 [aGr g] (.tup [.np, .b fun _ => false]) := by
  have hc : gcheckM g ≠ 0 := by unfold gcheckM; split <;> simp [h]
  refine Pure.go (ty := ty) ty_eq mo Try.func28 rfl Try.ntmps28 Try.results28 Try.call28 (by simp) fun P C CQ D W F E hF => ?_
  cbv
  refine E.c (SCalls.of_le (gcheck_ok g hg) ?_ ?_)
  · (cbv; (try simp only [nc] at *); first | done | (simp; done) | (simp (disch := (first | omega | (simp only [lnS, List.length_append, List.length_map, List.length_range, List.length_replicate]; omega))) only [nc, nct, w64_of, Int.toNat_natCast, Int.toNat_zero, List.length_map, rdS, at_agg, bofZ, bof1, bof0, List.getD_cons_zero, List.getD_cons_succ, implies_true, and_true, true_and, forall_const]; first | done | omega | (refine ⟨?_, ?_⟩ <;> omega)) | (simp (disch := (first | omega | (simp only [lnS, List.length_append, List.length_map, List.length_range, List.length_replicate]; omega))) [nc, nct, w64_of, Int.toNat_natCast, Int.toNat_zero, List.length_map, rdS, at_agg, bofZ, bof1, bof0, List.getD_cons_zero, List.getD_cons_succ]; done))
  cbv
  refine br_t (by simpa using hc) ?_
  cbv
  refine hF ?_
  cbv
  simp
theorem stI (n : Nat) (f : Nat → Int) (i : Nat) (y x : Int) (hi : i < n) : LV.of ((is (tabI n f)).l.set i ((AV.i fun _ => y).upd 0 (.i fun _ => x))) = is (tabI n fun j => if j = i then x else f j) := by
  simp only [is, LV.l_of]
  show LV.of (List.set _ _ (.i fun _ => x)) = _
  congr 1
  apply List.ext_getElem (by simp)
  intro j h1 h2
  simp only [List.getElem_set, tabI, List.getElem_map, List.getElem_range]
  split
  · rename_i e; subst e; simp
  · rename_i e; simp [Ne.symm e]
/-- the heap of viewOf, all sources told -/
def vhpF (g : Gr) (L : List EId) (E : List Ev) (n : Nat) (pl : Nat → Int) : List Blk :=
  [.box (aGr g), .box (.agg [.sl 5 n 2 (fun _ => 0) fun _ => L.length, .sl 6 n 5 (fun _ => 0) fun _ => E.length, .sl 7 1 1 (fun _ => 0) fun _ => L.length, .sl 8 1 1 (fun _ => 0) fun _ => L.length]), .box (.ptr 1 0), .map (fun _ => ids L) (fun _ => is (iota L.length)), .box (.mp 3), .run n 2 fun _ => ids L, .run n 5 fun _ => evs E, .run 1 1 fun _ => is (tabI n fun m => frOf g (L.getD m id0)), .run 1 1 fun _ => is (tabI n pl)]
theorem ordsAt {g : Gr} (hg : Rd g) (x : Nat) : ((g.ord.getD x []).length : Int) ≤ 9223372036854775807 := by
  rcases Nat.lt_or_ge x g.ord.length with h1 | h1
  · exact hg.ords _ (getD_mem h1)
  · simp [List.getElem?_eq_none h1]
theorem plTo_step {g : Gr} (hg : GOk g) {x i : Nat} (hx : x < g.ord.length) (hi : i < (g.ord.getD x []).length) {m : Nat} (hm : m < (idsG g).length) :
    (if m = numOf (idsG g) ((g.ord.getD x []).getD i id0) then ((i : Int) + 1) else plTo g (qsT g x ++ qsE g x i) ((idsG g).getD m id0)) = plTo g (qsT g x ++ qsE g x (i + 1)) ((idsG g).getD m id0) := by
  have hd := ord_mem hg hx hi
  rw [qsE_succ g x i hi, ← List.append_assoc]
  by_cases e : m = numOf (idsG g) ((g.ord.getD x []).getD i id0)
  · rw [if_pos e, e, numOf_get hd, plTo, if_pos (by simp), plOf_at hg hx hi]
  · rw [if_neg e]
    have e2 : (idsG g).getD m id0 ≠ (g.ord.getD x []).getD i id0 := fun e3 => e (by rw [← e3, numOf_at (idsG_nodup g) hm])
    unfold plTo
    have : ((idsG g).getD m id0 ∈ ((qsT g x ++ qsE g x i) ++ [((g.ord.getD x []).getD i id0, (x : Int))]).map (·.1)) ↔ ((idsG g).getD m id0 ∈ (qsT g x ++ qsE g x i).map (·.1)) := by
      rw [List.map_append, List.mem_append]
      simp only [List.map_cons, List.map_nil, List.mem_singleton, e2, or_false]
    simp only [this]
theorem viewOf_yes (g : Gr) (hg : Rd g) (h : GOk g) : Pure Try.prog γ false 28 [aGr g] (.tup [pVw (viewG g), .b fun _ => true]) := by
  have hc := gcheck0 h
  have hsh := h.short
  have hin := hsh.init
  have hth := hsh.th
  have hwf := viewG_wf h
  have hn := hwf.small
  obtain ⟨Lf, hLf⟩ : ∃ L, L = idsG g := ⟨_, rfl⟩
  obtain ⟨Mf, hMf⟩ : ∃ L, L = evsG g := ⟨_, rfl⟩
  obtain ⟨n, hnn⟩ : ∃ n, n = nG g := ⟨_, rfl⟩
  have hLn : Lf.length = n := by rw [hLf, hnn]; rfl
  have hMn : Mf.length = n := by rw [hMf, hnn]; exact hwf.ev
  refine Pure.goL (ty := ty) ty_eq mo Try.func28 rfl Try.ntmps28 Try.results28 Try.call28 (by simp) fun P C CQ D W F E hF => ?_
  refine E.cut 10 (told 165 [(1, .ptr 0 0), (4, .ptr 2 0), (5, .ptr 4 0)] (vhp g Lf Mf n)) (by kernel_rfl) (Nat.zero_le _) (fun I hI => ?_) ?_
  · cbv
    refine E.c (SCalls.of_le (gcheck_ok g hg) ?_ ?_)
    · (cbv; (try simp only [nc] at *); first | done | (simp; done) | (simp (disch := (first | omega | (simp only [lnS, List.length_append, List.length_map, List.length_range, List.length_replicate]; omega))) only [nc, nct, w64_of, Int.toNat_natCast, Int.toNat_zero, List.length_map, rdS, at_agg, bofZ, bof1, bof0, List.getD_cons_zero, List.getD_cons_succ, implies_true, and_true, true_and, forall_const]; first | done | omega | (refine ⟨?_, ?_⟩ <;> omega)) | (simp (disch := (first | omega | (simp only [lnS, List.length_append, List.length_map, List.length_range, List.length_replicate]; omega))) [nc, nct, w64_of, Int.toNat_natCast, Int.toNat_zero, List.length_map, rdS, at_agg, bofZ, bof1, bof0, List.getD_cons_zero, List.getD_cons_succ]; done))
    cbv
    refine br_f (by simp [hc]) ?_
    cbv
    refine E.w (AWP.ghostField 1 0 2 rfl rfl ?_)
    refine AWP.ghostField 1 1 5 rfl rfl ?_
    obtain ⟨G, hG⟩ : ∃ G : Nat → Nat, ∀ x, G x = x := ⟨_, fun _ => rfl⟩
    obtain ⟨L, hL⟩ : ∃ L : Nat → List EId, ∀ x, L x = idsI x := ⟨_, fun _ => rfl⟩
    obtain ⟨M, hM⟩ : ∃ M : Nat → List Ev, ∀ x, M x = evsI g x := ⟨_, fun _ => rfl⟩
    have hL0 : L 0 = [] := by rw [hL]; rfl
    have hM0 : M 0 = [] := by rw [hM]; rfl
    refine E.loopSA (ι := Nat) (fun x => x ≤ g.init.length) (fun x => g.init.length - x) (fun x => [(29, .i fun _ => ((x : Nat) : Int))]) (fun x h => vhp g (L x) (M x) (G x)) 0 (fun _ => by first | rfl | simp) (Nat.zero_le _) ?_ fun x hx I0 hI0 => ?_
    · cbv
      simp [hL0, hM0, hG, ids, evs, LV.of, is, iota]
    cbv
    have hput := put0_ok (γ := γ) g (L x) (M x) (G x) (by rw [hL, hM, idsI_len, evsI_len]) (by rw [hL, idsI_len]; omega) ⟨0, x⟩ ⟨2, x, 1, 0, g.init.getD x 0⟩ (by rw [hL, idsI_mem]; simp only; omega) (L (x + 1)) (M (x + 1)) (G (x + 1)) (by rw [hL, hL, idsI_succ]) (by rw [hM, hM, evsI_succ]) (by rw [hG, hG])
    repeat' (first
      | (refine hI0 (x + 1) ?_ ?_ ?_; rotate_left 1; (· ((try simp only [nc] at *); omega)); (cbv; clear hI0; (try clear hF); (try simp only [nc] at *); (try simp (disch := (first | omega | (simp only [lnS, List.length_append, List.length_map, List.length_range, List.length_replicate]; omega))) only [nc, nct, w64_of, Int.toNat_natCast, Int.toNat_zero, List.length_map, rdS, at_agg, bofZ, bof1, bof0, List.getD_cons_zero, List.getD_cons_succ, implies_true, and_true, true_and, forall_const])); rotate_left 1; (try ((try simp only [nc] at *); omega)))
      | (refine E.c (SCalls.to (hput) rfl (Nat.le_of_ble_eq_true rfl) ?_ ?_ ?_); (· (cbv; (try simp only [nc] at *); first | done | (simp; done) | (simp (disch := (first | omega | (simp only [lnS, List.length_append, List.length_map, List.length_range, List.length_replicate]; omega))) only [nc, nct, w64_of, Int.toNat_natCast, Int.toNat_zero, List.length_map, rdS, at_agg, bofZ, bof1, bof0, List.getD_cons_zero, List.getD_cons_succ, implies_true, and_true, true_and, forall_const]; first | done | omega | (refine ⟨?_, ?_⟩ <;> omega)) | (simp (disch := (first | omega | (simp only [lnS, List.length_append, List.length_map, List.length_range, List.length_replicate]; omega))) [nc, nct, w64_of, Int.toNat_natCast, Int.toNat_zero, List.length_map, rdS, at_agg, bofZ, bof1, bof0, List.getD_cons_zero, List.getD_cons_succ]; done))); (· (cbv; (try simp only [nc] at *); first | done | (simp; done) | (simp (disch := (first | omega | (simp only [lnS, List.length_append, List.length_map, List.length_range, List.length_replicate]; omega))) only [nc, nct, w64_of, Int.toNat_natCast, Int.toNat_zero, List.length_map, rdS, at_agg, bofZ, bof1, bof0, List.getD_cons_zero, List.getD_cons_succ, implies_true, and_true, true_and, forall_const]; first | done | omega | (refine ⟨?_, ?_⟩ <;> omega)) | (simp (disch := (first | omega | (simp only [lnS, List.length_append, List.length_map, List.length_range, List.length_replicate]; omega))) [nc, nct, w64_of, Int.toNat_natCast, Int.toNat_zero, List.length_map, rdS, at_agg, bofZ, bof1, bof0, List.getD_cons_zero, List.getD_cons_succ]; done))); cbv)
      | (refine ⟨fun _ h_s => ?_, fun _ h_s => ?_⟩ <;> (cbv; (try simp only [nc] at *); try simp (disch := (first | omega | (simp only [lnS, List.length_append, List.length_map, List.length_range, List.length_replicate]; omega))) only [nc, nct, w64_of, Int.toNat_natCast, Int.toNat_zero, List.length_map, rdS, at_agg, bofZ, bof1, bof0, List.getD_cons_zero, List.getD_cons_succ, reduceCtorEq, Bool.not_true, Bool.not_false, decide_eq_true_eq, decide_eq_false_iff_not, Bool.not_eq_true, Bool.not_eq_false, Bool.not_eq_true', Bool.not_eq_false', ne_eq, Decidable.not_not, Int.not_le, Int.not_lt, beq_iff_eq] at h_s))
      | (refine hF ?_; intro _; clear hF)
      | (refine hF ?_; cbv; clear hF)
      | (refine ⟨fun _ => ?_, ?_⟩; (· ((try simp only [nc] at *); first | done | omega | exact ⟨by omega, rfl⟩ | (simp (disch := (first | omega | (simp only [lnS, List.length_append, List.length_map, List.length_range, List.length_replicate]; omega))) only [nc, nct, w64_of, Int.toNat_natCast, Int.toNat_zero, List.length_map, rdS, at_agg, bofZ, bof1, bof0, List.getD_cons_zero, List.getD_cons_succ]; first | done | omega | rfl | exact ⟨by omega, rfl⟩ | (simp; done) | (simp; omega)) | (intros; trivial))); (try (simp only [nc] at *)); (try simp (disch := (first | omega | (simp only [lnS, List.length_append, List.length_map, List.length_range, List.length_replicate]; omega))) only [nc, nct, w64_of, Int.toNat_natCast, Int.toNat_zero, List.length_map, rdS, at_agg, bofZ, bof1, bof0, List.getD_cons_zero, List.getD_cons_succ]); (try cbv))
      | (refine E.d 9 (by decide +kernel) ?_; cbv; (fail_if_success guard_target =~ False))
      | (refine E.d 18 (by decide +kernel) ?_; cbv; (fail_if_success guard_target =~ False))
      | fail
    )
    · omega
    clear hI0
    (try simp only [nc] at *)
    have e : x = g.init.length := by omega
    subst e
    have e1 : L g.init.length = idsI g.init.length ++ idsT g 0 := by rw [hL]; simp [idsT]
    have e2 : M g.init.length = evsI g g.init.length ++ evsT g 0 := by rw [hM]; simp [evsT]
    obtain ⟨L2, hL2⟩ : ∃ L2 : Nat → Nat → List EId, ∀ t i, L2 t i = idsI g.init.length ++ idsT g t ++ idsE t i := ⟨_, fun _ _ => rfl⟩
    obtain ⟨M2, hM2⟩ : ∃ M2 : Nat → Nat → List Ev, ∀ t i, M2 t i = evsI g g.init.length ++ evsT g t ++ (g.th.getD t []).take i := ⟨_, fun _ _ => rfl⟩
    obtain ⟨G2, hG2⟩ : ∃ G2 : Nat → Nat → Nat, ∀ t i, G2 t i = (L2 t i).length := ⟨_, fun _ _ => rfl⟩
    have f1 : L g.init.length = L2 0 0 := by rw [e1, hL2]; simp [idsE]
    have f2 : M g.init.length = M2 0 0 := by rw [e2, hM2]; simp
    have f3 : G g.init.length = G2 0 0 := by rw [hG, hG2, ← f1, hL, idsI_len]
    refine E.loopS (ι := Nat) (fun t => t ≤ g.th.length) (fun t => g.th.length - t) (fun t => [(45, .i fun _ => ((t : Nat) : Int))]) (fun t h => vhp g (L2 t 0) (M2 t 0) (G2 t 0)) 0 (fun _ => by first | rfl | simp) (Nat.zero_le _) ?_ fun t ht I1 hI1 => ?_
    · cbv
      simp [f1, f2, f3]
    cbv
    have hht := hsh.at t
    repeat' (first
      | (refine ⟨fun _ h_s => ?_, fun _ h_s => ?_⟩ <;> (cbv; (try simp only [nc] at *); try simp (disch := (first | omega | (simp only [lnS, List.length_append, List.length_map, List.length_range, List.length_replicate]; omega))) only [nc, nct, w64_of, Int.toNat_natCast, Int.toNat_zero, List.length_map, rdS, at_agg, bofZ, bof1, bof0, List.getD_cons_zero, List.getD_cons_succ, reduceCtorEq, Bool.not_true, Bool.not_false, decide_eq_true_eq, decide_eq_false_iff_not, Bool.not_eq_true, Bool.not_eq_false, Bool.not_eq_true', Bool.not_eq_false', ne_eq, Decidable.not_not, Int.not_le, Int.not_lt, beq_iff_eq] at h_s))
      | (refine hF ?_; intro _; clear hF)
      | (refine hF ?_; cbv; clear hF)
      | (refine ⟨fun _ => ?_, ?_⟩; (· ((try simp only [nc] at *); first | done | omega | exact ⟨by omega, rfl⟩ | (simp (disch := (first | omega | (simp only [lnS, List.length_append, List.length_map, List.length_range, List.length_replicate]; omega))) only [nc, nct, w64_of, Int.toNat_natCast, Int.toNat_zero, List.length_map, rdS, at_agg, bofZ, bof1, bof0, List.getD_cons_zero, List.getD_cons_succ]; first | done | omega | rfl | exact ⟨by omega, rfl⟩ | (simp; done) | (simp; omega)) | (intros; trivial))); (try (simp only [nc] at *)); (try simp (disch := (first | omega | (simp only [lnS, List.length_append, List.length_map, List.length_range, List.length_replicate]; omega))) only [nc, nct, w64_of, Int.toNat_natCast, Int.toNat_zero, List.length_map, rdS, at_agg, bofZ, bof1, bof0, List.getD_cons_zero, List.getD_cons_succ]); (try cbv))
      | (refine E.d 9 (by decide +kernel) ?_; cbv; (fail_if_success guard_target =~ False))
      | (refine E.d 18 (by decide +kernel) ?_; cbv; (fail_if_success guard_target =~ False))
      | fail
    )
    · refine E.loopS (ι := Nat) (fun i => i ≤ (g.th.getD t []).length) (fun i => (g.th.getD t []).length - i) (fun i => [(52, .i fun _ => ((i : Nat) : Int))]) (fun i h => vhp g (L2 t i) (M2 t i) (G2 t i)) 0 (fun _ => by first | rfl | simp) (Nat.zero_le _) ?_ fun i hi I2 hI2 => ?_
      · cbv
        simp
      cbv
      have hLl : (L2 t i).length = (M2 t i).length := by
        rw [hL2, hM2]; simp only [List.length_append, idsI_len, evsI_len, idsE_len, idsT_len, List.length_take]; omega
      have hLm : (L2 t i).length ≤ 100 := by
        have := evsT_len hsh t
        rw [hL2]; simp only [List.length_append, idsI_len, idsE_len, idsT_len]; omega
      have hLnot : (⟨t + 1, i⟩ : EId) ∉ L2 t i := by
        rw [hL2, List.mem_append, List.mem_append, idsI_mem, idsT_mem, idsE_mem]; simp only; omega
      have hLs : L2 t (i + 1) = L2 t i ++ [⟨t + 1, i⟩] := by rw [hL2, hL2, idsE_succ]; simp only [List.append_assoc]
      have hMs : i < (g.th.getD t []).length → M2 t (i + 1) = M2 t i ++ [(g.th.getD t []).getD i ev0] := fun hi => by rw [hM2, hM2, take_succ' _ i ev0 hi]; simp only [List.append_assoc]
      have hGs : G2 t (i + 1) = G2 t i + 1 := by rw [hG2, hG2, hLs]; simp
      have hput := put1_ok (γ := γ) g .any (L2 t i) (M2 t i) (G2 t i) hLl hLm ⟨t + 1, i⟩ ((g.th.getD t []).getD i ev0) hLnot (L2 t (i + 1)) (M2 t (i + 1)) (G2 t (i + 1)) hLs
      repeat' (first
        | (refine hI1 (t + 1) ?_ ?_ ?_; rotate_left 1; (· ((try simp only [nc] at *); omega)); (cbv; clear hI1; (try clear hF); (try simp only [nc] at *); (try simp (disch := (first | omega | (simp only [lnS, List.length_append, List.length_map, List.length_range, List.length_replicate]; omega))) only [nc, nct, w64_of, Int.toNat_natCast, Int.toNat_zero, List.length_map, rdS, at_agg, bofZ, bof1, bof0, List.getD_cons_zero, List.getD_cons_succ, implies_true, and_true, true_and, forall_const])); rotate_left 1; (try ((try simp only [nc] at *); omega)))
        | (refine hI2 (i + 1) ?_ ?_ ?_; rotate_left 1; (· ((try simp only [nc] at *); omega)); (cbv; clear hI2; (try clear hF); (try simp only [nc] at *); (try simp (disch := (first | omega | (simp only [lnS, List.length_append, List.length_map, List.length_range, List.length_replicate]; omega))) only [nc, nct, w64_of, Int.toNat_natCast, Int.toNat_zero, List.length_map, rdS, at_agg, bofZ, bof1, bof0, List.getD_cons_zero, List.getD_cons_succ, implies_true, and_true, true_and, forall_const])); rotate_left 1; (try ((try simp only [nc] at *); omega)))
        | (refine E.c (SCalls.to (hput (hMs (by ((try simp only [nc] at *); omega))) hGs) rfl (Nat.le_of_ble_eq_true rfl) ?_ ?_ ?_); (· (cbv; (try simp only [nc] at *); first | done | (simp; done) | (simp (disch := (first | omega | (simp only [lnS, List.length_append, List.length_map, List.length_range, List.length_replicate]; omega))) only [nc, nct, w64_of, Int.toNat_natCast, Int.toNat_zero, List.length_map, rdS, at_agg, bofZ, bof1, bof0, List.getD_cons_zero, List.getD_cons_succ, implies_true, and_true, true_and, forall_const]; first | done | omega | (refine ⟨?_, ?_⟩ <;> omega)) | (simp (disch := (first | omega | (simp only [lnS, List.length_append, List.length_map, List.length_range, List.length_replicate]; omega))) [nc, nct, w64_of, Int.toNat_natCast, Int.toNat_zero, List.length_map, rdS, at_agg, bofZ, bof1, bof0, List.getD_cons_zero, List.getD_cons_succ]; done))); (· (cbv; (try simp only [nc] at *); first | done | (simp; done) | (simp (disch := (first | omega | (simp only [lnS, List.length_append, List.length_map, List.length_range, List.length_replicate]; omega))) only [nc, nct, w64_of, Int.toNat_natCast, Int.toNat_zero, List.length_map, rdS, at_agg, bofZ, bof1, bof0, List.getD_cons_zero, List.getD_cons_succ, implies_true, and_true, true_and, forall_const]; first | done | omega | (refine ⟨?_, ?_⟩ <;> omega)) | (simp (disch := (first | omega | (simp only [lnS, List.length_append, List.length_map, List.length_range, List.length_replicate]; omega))) [nc, nct, w64_of, Int.toNat_natCast, Int.toNat_zero, List.length_map, rdS, at_agg, bofZ, bof1, bof0, List.getD_cons_zero, List.getD_cons_succ]; done))); cbv)
        | (refine ⟨fun _ h_s => ?_, fun _ h_s => ?_⟩ <;> (cbv; (try simp only [nc] at *); try simp (disch := (first | omega | (simp only [lnS, List.length_append, List.length_map, List.length_range, List.length_replicate]; omega))) only [nc, nct, w64_of, Int.toNat_natCast, Int.toNat_zero, List.length_map, rdS, at_agg, bofZ, bof1, bof0, List.getD_cons_zero, List.getD_cons_succ, reduceCtorEq, Bool.not_true, Bool.not_false, decide_eq_true_eq, decide_eq_false_iff_not, Bool.not_eq_true, Bool.not_eq_false, Bool.not_eq_true', Bool.not_eq_false', ne_eq, Decidable.not_not, Int.not_le, Int.not_lt, beq_iff_eq] at h_s))
        | (refine hF ?_; intro _; clear hF)
        | (refine hF ?_; cbv; clear hF)
        | (refine ⟨fun _ => ?_, ?_⟩; (· ((try simp only [nc] at *); first | done | omega | exact ⟨by omega, rfl⟩ | (simp (disch := (first | omega | (simp only [lnS, List.length_append, List.length_map, List.length_range, List.length_replicate]; omega))) only [nc, nct, w64_of, Int.toNat_natCast, Int.toNat_zero, List.length_map, rdS, at_agg, bofZ, bof1, bof0, List.getD_cons_zero, List.getD_cons_succ]; first | done | omega | rfl | exact ⟨by omega, rfl⟩ | (simp; done) | (simp; omega)) | (intros; trivial))); (try (simp only [nc] at *)); (try simp (disch := (first | omega | (simp only [lnS, List.length_append, List.length_map, List.length_range, List.length_replicate]; omega))) only [nc, nct, w64_of, Int.toNat_natCast, Int.toNat_zero, List.length_map, rdS, at_agg, bofZ, bof1, bof0, List.getD_cons_zero, List.getD_cons_succ]); (try cbv))
        | (refine E.d 9 (by decide +kernel) ?_; cbv; (fail_if_success guard_target =~ False))
        | (refine E.d 18 (by decide +kernel) ?_; cbv; (fail_if_success guard_target =~ False))
        | fail
      )
      · omega
      · clear hput
        have e : i = (g.th.getD t []).length := by omega
        subst e
        have q1 : L2 t (g.th.getD t []).length = L2 (t + 1) 0 := by rw [hL2, hL2, idsT_succ]; simp [idsE]
        have q2 : M2 t (g.th.getD t []).length = M2 (t + 1) 0 := by rw [hM2, hM2, evsT_succ, List.take_length]; simp
        have q3 : G2 t (g.th.getD t []).length = G2 (t + 1) 0 := by rw [hG2, hG2, q1]
        simp only [q1, q2, q3, and_self, and_true]
        omega
    · refine hI ?_
      cbv
      clear hI hI1 hF
      have e : t = g.th.length := by ((try simp only [nc] at *); omega)
      subst e
      (try simp only [nc] at *)
      (try simp (disch := (first | omega | (simp only [lnS, List.length_append, List.length_map, List.length_range, List.length_replicate]; omega))) only [nc, nct, w64_of, Int.toNat_natCast, Int.toNat_zero, List.length_map, rdS, at_agg, bofZ, bof1, bof0, List.getD_cons_zero, List.getD_cons_succ, implies_true, and_true, true_and, forall_const])
      have q1 : L2 g.th.length 0 = Lf := by rw [hL2, hLf]; simp [idsE, idsG]
      have q2 : M2 g.th.length 0 = Mf := by rw [hM2, hMf]; simp [evsG]
      have q3 : G2 g.th.length 0 = n := by rw [hG2, q1, hLn]
      simp only [q1, q2, q3, and_self]
  refine E.cut 3 (told 165 [(1, .ptr 0 0), (4, .ptr 2 0), (5, .ptr 4 0)] (vhpF g Lf Mf n (fun m => plInit (Lf.getD m id0)))) (by kernel_rfl) (Nat.zero_le _) (fun I hI => ?_) (E.bl ?_)
  · cbv
    refine E.de 17 [1] [some 1, some 1] (by decide +kernel) ?_
    cbv
    refine ⟨fun _ => ?_, ?_⟩
    · ((try simp only [nc] at *); first | done | omega | exact ⟨by omega, rfl⟩ | (simp (disch := (first | omega | (simp only [lnS, List.length_append, List.length_map, List.length_range, List.length_replicate]; omega))) only [nc, nct, w64_of, Int.toNat_natCast, Int.toNat_zero, List.length_map, rdS, at_agg, bofZ, bof1, bof0, List.getD_cons_zero, List.getD_cons_succ]; first | done | omega | rfl | exact ⟨by omega, rfl⟩ | (simp; done) | (simp; omega)) | (intros; trivial))
    try cbv
    refine ⟨fun _ => ?_, ?_⟩
    · ((try simp only [nc] at *); first | done | omega | exact ⟨by omega, rfl⟩ | (simp (disch := (first | omega | (simp only [lnS, List.length_append, List.length_map, List.length_range, List.length_replicate]; omega))) only [nc, nct, w64_of, Int.toNat_natCast, Int.toNat_zero, List.length_map, rdS, at_agg, bofZ, bof1, bof0, List.getD_cons_zero, List.getD_cons_succ]; first | done | omega | rfl | exact ⟨by omega, rfl⟩ | (simp; done) | (simp; omega)) | (intros; trivial))
    try cbv
    obtain ⟨fr, hfr⟩ : ∃ fr : Nat → Nat → Int, ∀ k m, fr k m = if m < k then frOf g (Lf.getD m id0) else 0 := ⟨_, fun _ _ => rfl⟩
    obtain ⟨pl, hpl⟩ : ∃ pl : Nat → Nat → Int, ∀ k m, pl k m = if m < k then plInit (Lf.getD m id0) else 0 := ⟨_, fun _ _ => rfl⟩
    have hfr0 : fr 0 = fun _ => 0 := funext fun m => by rw [hfr, if_neg (Nat.not_lt_zero m)]
    have hpl0 : pl 0 = fun _ => 0 := funext fun m => by rw [hpl, if_neg (Nat.not_lt_zero m)]
    clear hF
    refine E.loopS (ι := Nat) (fun k => k ≤ n) (fun k => n - k) (fun k => [(89, .i fun _ => ((k : Nat) : Int))]) (fun k h => (h.set 7 (.run 1 1 fun _ => is (tabI n (fr k)))).set 8 (.run 1 1 fun _ => is (tabI n (pl k)))) 0 (fun _ => by first | rfl | simp) (Nat.zero_le _) ?_ fun k hk I2 hI2 => ?_
    · cbv
      simp only [hfr0, hpl0, tabI_zero, hLn, Int.toNat_natCast, implies_true, and_self, true_and, and_true]
      exact ⟨fun _ => by simp [is], fun _ => by simp [is]⟩
    cbv
    have hkn : 0 + k = k := Nat.zero_add k
    have hrd := fun hk : k < n => dreads0_ok (γ := γ) ⟨Lf, Mf, tabI n fun j => if j = k then -1 else fr k j, tabI n fun j => if j = k then -1 else pl k j⟩ k (by rw [hMn]; exact hk)
    skip
    skip
    skip
    repeat' (first
      | (refine hI2 (k + 1) ?_ ?_ ?_; rotate_left 1; (· ((try simp only [nc] at *); omega)); (cbv; clear hI2; (try clear hF); (try simp only [nc] at *); (try simp (disch := (first | omega | (simp only [lnS, List.length_append, List.length_map, List.length_range, List.length_replicate, tabI_len]; omega))) only [nc, nct, w64_of, Int.toNat_natCast, Int.toNat_zero, List.length_map, rdS, at_agg, bofZ, bof1, bof0, List.getD_cons_zero, List.getD_cons_succ, Nat.zero_add, true_and, tabI_len, stI, List.drop_zero, List.take_of_length_le, implies_true, and_true, true_and, forall_const])); rotate_left 1; (try ((try simp only [nc] at *); omega)))
      | (refine E.c (SCalls.of_bare (hrd (by ((try simp only [nc] at *); omega))) rfl ?_ ?_); (· (cbv; (try simp only [nc] at *); first | done | (simp; done) | (simp (disch := (first | omega | (simp only [lnS, List.length_append, List.length_map, List.length_range, List.length_replicate, tabI_len]; omega))) only [nc, nct, w64_of, Int.toNat_natCast, Int.toNat_zero, List.length_map, rdS, at_agg, bofZ, bof1, bof0, List.getD_cons_zero, List.getD_cons_succ, Nat.zero_add, true_and, tabI_len, stI, List.drop_zero, List.take_of_length_le, implies_true, and_true, true_and, forall_const]; first | done | omega | (refine ⟨?_, ?_⟩ <;> omega)) | (simp (disch := (first | omega | (simp only [lnS, List.length_append, List.length_map, List.length_range, List.length_replicate, tabI_len]; omega))) [nc, nct, w64_of, Int.toNat_natCast, Int.toNat_zero, List.length_map, rdS, at_agg, bofZ, bof1, bof0, List.getD_cons_zero, List.getD_cons_succ, Nat.zero_add, true_and, tabI_len, stI, List.drop_zero, List.take_of_length_le]; done))); cbv)
      | (refine E.q (QCalls.of_bare (hrd (by ((try simp only [nc] at *); omega))) rfl ?_ ?_); (· (cbv; (try simp only [nc] at *); first | done | (simp; done) | (simp (disch := (first | omega | (simp only [lnS, List.length_append, List.length_map, List.length_range, List.length_replicate, tabI_len]; omega))) only [nc, nct, w64_of, Int.toNat_natCast, Int.toNat_zero, List.length_map, rdS, at_agg, bofZ, bof1, bof0, List.getD_cons_zero, List.getD_cons_succ, Nat.zero_add, true_and, tabI_len, stI, List.drop_zero, List.take_of_length_le, implies_true, and_true, true_and, forall_const]; first | done | omega | (refine ⟨?_, ?_⟩ <;> omega)) | (simp (disch := (first | omega | (simp only [lnS, List.length_append, List.length_map, List.length_range, List.length_replicate, tabI_len]; omega))) [nc, nct, w64_of, Int.toNat_natCast, Int.toNat_zero, List.length_map, rdS, at_agg, bofZ, bof1, bof0, List.getD_cons_zero, List.getD_cons_succ, Nat.zero_add, true_and, tabI_len, stI, List.drop_zero, List.take_of_length_le]; done))); cbv)
      | (refine E.de 12 [7, 8] [] (by decide +kernel) ?_; cbv; (fail_if_success guard_target =~ False))
      | (refine ⟨fun _ h_s => ?_, fun _ h_s => ?_⟩ <;> (cbv; (try simp only [nc] at *); try simp (disch := (first | omega | (simp only [lnS, List.length_append, List.length_map, List.length_range, List.length_replicate, tabI_len]; omega))) only [nc, nct, w64_of, Int.toNat_natCast, Int.toNat_zero, List.length_map, rdS, at_agg, bofZ, bof1, bof0, List.getD_cons_zero, List.getD_cons_succ, Nat.zero_add, true_and, tabI_len, stI, List.drop_zero, List.take_of_length_le, reduceCtorEq, Bool.not_true, Bool.not_false, decide_eq_true_eq, decide_eq_false_iff_not, Bool.not_eq_true, Bool.not_eq_false, Bool.not_eq_true', Bool.not_eq_false', ne_eq, Decidable.not_not, Int.not_le, Int.not_lt, beq_iff_eq] at h_s))
      | (refine hF ?_; intro _; clear hF)
      | (refine hF ?_; cbv; clear hF)
      | (refine ⟨fun _ => ?_, ?_⟩; (· ((try simp only [nc] at *); first | done | omega | exact ⟨by omega, rfl⟩ | (simp (disch := (first | omega | (simp only [lnS, List.length_append, List.length_map, List.length_range, List.length_replicate, tabI_len]; omega))) only [nc, nct, w64_of, Int.toNat_natCast, Int.toNat_zero, List.length_map, rdS, at_agg, bofZ, bof1, bof0, List.getD_cons_zero, List.getD_cons_succ, Nat.zero_add, true_and, tabI_len, stI, List.drop_zero, List.take_of_length_le]; first | done | omega | rfl | exact ⟨by omega, rfl⟩ | (simp; done) | (simp; omega)) | (intros; trivial) | exact rfl | exact ⟨by omega, by rw [istab_get _ _ _ (by omega)]; rfl⟩)); (try (simp only [nc] at *)); (try simp (disch := (first | omega | (simp only [lnS, List.length_append, List.length_map, List.length_range, List.length_replicate, tabI_len]; omega))) only [nc, nct, w64_of, Int.toNat_natCast, Int.toNat_zero, List.length_map, rdS, at_agg, bofZ, bof1, bof0, List.getD_cons_zero, List.getD_cons_succ, Nat.zero_add, true_and, tabI_len, stI, List.drop_zero, List.take_of_length_le]); (try cbv))
      | (refine E.d 9 (by decide +kernel) ?_; cbv; (fail_if_success guard_target =~ False))
      | (refine E.d 18 (by decide +kernel) ?_; cbv; (fail_if_success guard_target =~ False))
      | fail
    )
    · rename_i hs0
      refine ⟨by push_cast; rfl, congrArg is (tabI_congr fun j hj => ?_), congrArg is (tabI_congr fun j hj => ?_)⟩
      · rw [hfr, hfr]
        split
        · rename_i e; subst e; rw [if_pos (by omega), frOf, if_pos h_s]
        · rename_i e; by_cases hjk : j < k
          · rw [if_pos hjk, if_pos (by omega)]
          · rw [if_neg hjk, if_neg (by omega)]
      · rw [hpl, hpl]
        split
        · rename_i e; subst e; rw [if_pos (by omega), plInit, if_pos h_s]
        · rename_i e; by_cases hjk : j < k
          · rw [if_pos hjk, if_pos (by omega)]
          · rw [if_neg hjk, if_neg (by omega)]
    · have hkl : k < Lf.length := by ((try simp only [nc] at *); omega)
      have hw : 0 ≤ (Lf.getD k ⟨0, 0⟩).t - 1 ∧ ((Lf.getD k ⟨0, 0⟩).t - 1).toNat < g.fr.length ∧ (Lf.getD k ⟨0, 0⟩).t ≤ 4 ∧ 0 ≤ (Lf.getD k ⟨0, 0⟩).i ∧ (Lf.getD k ⟨0, 0⟩).i.toNat < (g.fr.getD ((Lf.getD k ⟨0, 0⟩).t - 1).toNat []).length := by
        subst hLf
        exact ids_where h hkl (by assumption)
      obtain ⟨w1, w2, w3, w4, w5⟩ := hw
      have hev : eventM g (Lf.getD k ⟨0, 0⟩) = some (Mf.getD k ⟨0, 0, 0, 0, 0⟩) := by
        subst hLf hMf
        exact evsG_get g k hkl
      have hsm : (g.fr.getD ((Lf.getD k ⟨0, 0⟩).t - 1).toNat []).getD (Lf.getD k ⟨0, 0⟩).i.toNat ⟨0, 0⟩ ∈ Lf := by
        have hm : Lf.getD k ⟨0, 0⟩ ∈ idsG g := by rw [← hLf]; exact getD_mem hkl
        obtain ⟨w, hw, _⟩ := source_mem (src_ok h hm (by omega)) (by rw [hev]; exact h_s)
        rw [hLf]
        exact idsG_mem.2 (by rw [← hLf]; exact congrArg Option.isSome hw)
      have hfo : frOf g (Lf.getD k id0) = (numOf Lf ((g.fr.getD ((Lf.getD k ⟨0, 0⟩).t - 1).toNat []).getD (Lf.getD k ⟨0, 0⟩).i.toNat ⟨0, 0⟩) : Nat) := by
        unfold frOf
        rw [if_neg (by assumption), show eventM g (Lf.getD k id0) = _ from hev, Option.getD_some, if_pos h_s, ← hLf]; rfl
      have hv := fun z => lk_num Lf _ hsm _ rfl z
      (try simp only [nc] at *)
      simp (disch := first | omega) only [w64_of]
      simp (disch := first | omega) only [idss_len, Int.toNat_of_nonneg, idss_get, at_l, asL_vs, ids_len, ids_get, at_d0, at_d1, asI_i, Int.toNat_natCast, knums_id, hv]
      skip
      repeat' (first
        | (refine hI2 (k + 1) ?_ ?_ ?_; rotate_left 1; (· ((try simp only [nc] at *); omega)); (cbv; clear hI2; (try clear hF); (try simp only [nc] at *); (try simp (disch := (first | omega | (simp only [lnS, List.length_append, List.length_map, List.length_range, List.length_replicate, tabI_len]; omega))) only [nc, nct, w64_of, Int.toNat_natCast, Int.toNat_zero, List.length_map, rdS, at_agg, bofZ, bof1, bof0, List.getD_cons_zero, List.getD_cons_succ, Nat.zero_add, true_and, tabI_len, stI, List.drop_zero, List.take_of_length_le, implies_true, and_true, true_and, forall_const])); rotate_left 1; (try ((try simp only [nc] at *); omega)))
        | (refine ⟨fun _ h_s => ?_, fun _ h_s => ?_⟩ <;> (cbv; (try simp only [nc] at *); try simp (disch := (first | omega | (simp only [lnS, List.length_append, List.length_map, List.length_range, List.length_replicate, tabI_len]; omega))) only [nc, nct, w64_of, Int.toNat_natCast, Int.toNat_zero, List.length_map, rdS, at_agg, bofZ, bof1, bof0, List.getD_cons_zero, List.getD_cons_succ, Nat.zero_add, true_and, tabI_len, stI, List.drop_zero, List.take_of_length_le, reduceCtorEq, Bool.not_true, Bool.not_false, decide_eq_true_eq, decide_eq_false_iff_not, Bool.not_eq_true, Bool.not_eq_false, Bool.not_eq_true', Bool.not_eq_false', ne_eq, Decidable.not_not, Int.not_le, Int.not_lt, beq_iff_eq] at h_s))
        | (refine hF ?_; intro _; clear hF)
        | (refine hF ?_; cbv; clear hF)
        | (refine ⟨fun _ => ?_, ?_⟩; (· ((try simp only [nc] at *); first | done | omega | exact ⟨by omega, rfl⟩ | (simp (disch := (first | omega | (simp only [lnS, List.length_append, List.length_map, List.length_range, List.length_replicate, tabI_len]; omega))) only [nc, nct, w64_of, Int.toNat_natCast, Int.toNat_zero, List.length_map, rdS, at_agg, bofZ, bof1, bof0, List.getD_cons_zero, List.getD_cons_succ, Nat.zero_add, true_and, tabI_len, stI, List.drop_zero, List.take_of_length_le]; first | done | omega | rfl | exact ⟨by omega, rfl⟩ | (simp; done) | (simp; omega)) | (intros; trivial) | exact rfl | exact ⟨by omega, by rw [istab_get _ _ _ (by omega)]; rfl⟩ | exact ⟨mok_ids _, is_vals _⟩)); (try (simp only [nc] at *)); (try simp (disch := (first | omega | (simp only [lnS, List.length_append, List.length_map, List.length_range, List.length_replicate, tabI_len]; omega))) only [nc, nct, w64_of, Int.toNat_natCast, Int.toNat_zero, List.length_map, rdS, at_agg, bofZ, bof1, bof0, List.getD_cons_zero, List.getD_cons_succ, Nat.zero_add, true_and, tabI_len, stI, List.drop_zero, List.take_of_length_le]); (try cbv))
        | (refine E.d 9 (by decide +kernel) ?_; cbv; (fail_if_success guard_target =~ False))
        | (refine E.d 18 (by decide +kernel) ?_; cbv; (fail_if_success guard_target =~ False))
        | fail
      )
      refine ⟨by push_cast; rfl, congrArg is (tabI_congr fun j hj => ?_), congrArg is (tabI_congr fun j hj => ?_)⟩
      · rw [hfr, hfr]
        split
        · rename_i e; subst e; rw [if_pos (by omega)]; exact hfo.symm
        · rename_i e; by_cases hjk : j < k
          · rw [if_pos hjk, if_pos (by omega)]
          · rw [if_neg hjk, if_neg (by omega)]
      · rw [hpl, hpl]
        split
        · rename_i e; subst e; rw [if_pos (by omega), plInit, if_neg (by assumption)]
        · rename_i e; by_cases hjk : j < k
          · rw [if_pos hjk, if_pos (by omega)]
          · rw [if_neg hjk, if_neg (by omega)]
    · have hkl : k < Lf.length := by ((try simp only [nc] at *); omega)
      have hev : eventM g (Lf.getD k ⟨0, 0⟩) = some (Mf.getD k ⟨0, 0, 0, 0, 0⟩) := by
        subst hLf hMf
        exact evsG_get g k hkl
      refine ⟨by push_cast; rfl, congrArg is (tabI_congr fun j hj => ?_), congrArg is (tabI_congr fun j hj => ?_)⟩
      · rw [hfr, hfr]
        split
        · rename_i e; subst e; rw [if_pos (by omega), frOf, if_neg (by assumption), show eventM g (Lf.getD j id0) = _ from hev, Option.getD_some, h_s, if_neg (by simp)]
        · rename_i e; by_cases hjk : j < k
          · rw [if_pos hjk, if_pos (by omega)]
          · rw [if_neg hjk, if_neg (by omega)]
      · rw [hpl, hpl]
        split
        · rename_i e; subst e; rw [if_pos (by omega), plInit, if_neg (by assumption)]
        · rename_i e; by_cases hjk : j < k
          · rw [if_pos hjk, if_pos (by omega)]
          · rw [if_neg hjk, if_neg (by omega)]
    · refine hI ?_
      cbv
      clear hI hI2
      have e : k = n := by ((try simp only [nc] at *); omega)
      have q1 : is (tabI n (fr k)) = is (tabI n fun m => frOf g (Lf.getD m ⟨0, 0⟩)) := congrArg is (tabI_congr fun m hm => by rw [hfr, if_pos (by omega)])
      have q2 : is (tabI n (pl k)) = is (tabI n fun m => plInit (Lf.getD m ⟨0, 0⟩)) := congrArg is (tabI_congr fun m hm => by rw [hpl, if_pos (by omega)])
      simp only [q1, q2, Int.toNat_natCast, implies_true, and_self]
  · obtain ⟨plx, hplx⟩ : ∃ plx : Nat → Nat → Nat → Int, ∀ x i m, plx x i m = plTo g (qsT g x ++ qsE g x i) (Lf.getD m id0) := ⟨_, fun _ _ _ => rfl⟩
    have hp0 : (fun m => plInit (Lf.getD m id0)) = plx 0 0 := funext fun m => by rw [hplx]; rfl
    have hpE : plx g.ord.length 0 = fun m => plOf g (Lf.getD m id0) := funext fun m => by
      rw [hplx, show qsE g g.ord.length 0 = [] by simp [qsE], List.append_nil, plTo_all h]
    have hpS : ∀ x, plx x (g.ord.getD x []).length = plx (x + 1) 0 := fun x => funext fun m => by
      rw [hplx, hplx, qsT_succ, show qsE g (x + 1) 0 = [] by simp [qsE], List.append_nil]
    rw [hp0]
    have hord := hg.ord
    cbv
    refine E.loopS (ι := Nat) (fun x => x ≤ g.ord.length) (fun x => g.ord.length - x) (fun x => [(141, .i fun _ => ((x : Nat) : Int))]) (fun x h => h.set 8 (.run 1 1 fun _ => is (tabI n (plx x 0)))) 0 (fun _ => by first | rfl | simp) (Nat.zero_le _) ?_ fun x hx I3 hI3 => ?_
    · cbv
      simp
    cbv
    have hol : ((g.ord.getD x []).length : Int) ≤ 9223372036854775807 := ordsAt hg x
    skip
    repeat' (first
      | (refine ⟨fun _ h_s => ?_, fun _ h_s => ?_⟩ <;> (cbv; (try simp only [nc] at *); try simp (disch := (first | omega | (simp only [lnS, List.length_append, List.length_map, List.length_range, List.length_replicate, tabI_len, tabI_len]; omega))) only [nc, nct, w64_of, Int.toNat_natCast, Int.toNat_zero, List.length_map, rdS, at_agg, bofZ, bof1, bof0, List.getD_cons_zero, List.getD_cons_succ, Nat.zero_add, true_and, tabI_len, stI, List.drop_zero, List.take_of_length_le, tabI_len, stI, reduceCtorEq, Bool.not_true, Bool.not_false, decide_eq_true_eq, decide_eq_false_iff_not, Bool.not_eq_true, Bool.not_eq_false, Bool.not_eq_true', Bool.not_eq_false', ne_eq, Decidable.not_not, Int.not_le, Int.not_lt, beq_iff_eq] at h_s))
      | (refine hF ?_; intro _; clear hF)
      | (refine hF ?_; cbv; clear hF)
      | (refine ⟨fun _ => ?_, ?_⟩; (· ((try simp only [nc] at *); first | done | omega | exact ⟨by omega, rfl⟩ | (simp (disch := (first | omega | (simp only [lnS, List.length_append, List.length_map, List.length_range, List.length_replicate, tabI_len, tabI_len]; omega))) only [nc, nct, w64_of, Int.toNat_natCast, Int.toNat_zero, List.length_map, rdS, at_agg, bofZ, bof1, bof0, List.getD_cons_zero, List.getD_cons_succ, Nat.zero_add, true_and, tabI_len, stI, List.drop_zero, List.take_of_length_le, tabI_len, stI]; first | done | omega | rfl | exact ⟨by omega, rfl⟩ | (simp; done) | (simp; omega)) | (intros; trivial) | exact rfl | exact ⟨by omega, by rw [istab_get _ _ _ (by omega)]; rfl⟩ | exact ⟨mok_ids _, is_vals _⟩)); (try (simp only [nc] at *)); (try simp (disch := (first | omega | (simp only [lnS, List.length_append, List.length_map, List.length_range, List.length_replicate, tabI_len, tabI_len]; omega))) only [nc, nct, w64_of, Int.toNat_natCast, Int.toNat_zero, List.length_map, rdS, at_agg, bofZ, bof1, bof0, List.getD_cons_zero, List.getD_cons_succ, Nat.zero_add, true_and, tabI_len, stI, List.drop_zero, List.take_of_length_le, tabI_len, stI]); (try cbv))
      | (refine E.d 9 (by decide +kernel) ?_; cbv; (fail_if_success guard_target =~ False))
      | (refine E.d 18 (by decide +kernel) ?_; cbv; (fail_if_success guard_target =~ False))
      | fail
    )
    · have hxx : x < g.ord.length := by ((try simp only [nc] at *); omega)
      refine E.loopS (ι := Nat) (fun i => i ≤ (g.ord.getD x []).length) (fun i => (g.ord.getD x []).length - i) (fun i => [(147, .i fun _ => ((i : Nat) : Int))]) (fun i h => h.set 8 (.run 1 1 fun _ => is (tabI n (plx x i)))) 0 (fun _ => by first | rfl | simp) (Nat.zero_le _) ?_ fun i hi I4 hI4 => ?_
      · cbv
        simp
      cbv
      have hnum : i < (g.ord.getD x []).length → numOf Lf ((g.ord.getD x []).getD i ⟨0, 0⟩) < n ∧ ∀ z, ((mval (mfind [.i, .i] (ids Lf) [((g.ord.getD x []).getD i ⟨0, 0⟩).t, ((g.ord.getD x []).getD i ⟨0, 0⟩).i]) (is (iota Lf.length)) z).at 0).asI = (numOf Lf ((g.ord.getD x []).getD i ⟨0, 0⟩) : Nat) := fun hi => by
        have hm : (g.ord.getD x []).getD i ⟨0, 0⟩ ∈ Lf := by rw [hLf]; exact ord_mem h hxx hi
        exact ⟨by rw [← hLn]; exact numOf_lt hm, fun z => lk_num Lf _ hm _ rfl z⟩
      skip
      skip
      repeat' (first
        | (refine ⟨fun _ h_s => ?_, fun _ h_s => ?_⟩ <;> (cbv; (try simp only [nc] at *); try simp (disch := (first | omega | (simp only [lnS, List.length_append, List.length_map, List.length_range, List.length_replicate, tabI_len, tabI_len]; omega))) only [nc, nct, w64_of, Int.toNat_natCast, Int.toNat_zero, List.length_map, rdS, at_agg, bofZ, bof1, bof0, List.getD_cons_zero, List.getD_cons_succ, Nat.zero_add, true_and, tabI_len, stI, List.drop_zero, List.take_of_length_le, tabI_len, stI, Nat.zero_add, reduceCtorEq, Bool.not_true, Bool.not_false, decide_eq_true_eq, decide_eq_false_iff_not, Bool.not_eq_true, Bool.not_eq_false, Bool.not_eq_true', Bool.not_eq_false', ne_eq, Decidable.not_not, Int.not_le, Int.not_lt, beq_iff_eq] at h_s))
        | (refine hF ?_; intro _; clear hF)
        | (refine hF ?_; cbv; clear hF)
        | (refine ⟨fun _ => ?_, ?_⟩; (· ((try simp only [nc] at *); first | done | omega | exact ⟨by omega, rfl⟩ | (simp (disch := (first | omega | (simp only [lnS, List.length_append, List.length_map, List.length_range, List.length_replicate, tabI_len, tabI_len]; omega))) only [nc, nct, w64_of, Int.toNat_natCast, Int.toNat_zero, List.length_map, rdS, at_agg, bofZ, bof1, bof0, List.getD_cons_zero, List.getD_cons_succ, Nat.zero_add, true_and, tabI_len, stI, List.drop_zero, List.take_of_length_le, tabI_len, stI, Nat.zero_add]; first | done | omega | rfl | exact ⟨by omega, rfl⟩ | (simp; done) | (simp; omega)) | (intros; trivial) | exact rfl | exact ⟨by omega, by rw [istab_get _ _ _ (by omega)]; rfl⟩ | exact ⟨mok_ids _, is_vals _⟩ | exact rfl)); (try (simp only [nc] at *)); (try simp (disch := (first | omega | (simp only [lnS, List.length_append, List.length_map, List.length_range, List.length_replicate, tabI_len, tabI_len]; omega))) only [nc, nct, w64_of, Int.toNat_natCast, Int.toNat_zero, List.length_map, rdS, at_agg, bofZ, bof1, bof0, List.getD_cons_zero, List.getD_cons_succ, Nat.zero_add, true_and, tabI_len, stI, List.drop_zero, List.take_of_length_le, tabI_len, stI, Nat.zero_add]); (try cbv))
        | (refine E.d 9 (by decide +kernel) ?_; cbv; (fail_if_success guard_target =~ False))
        | (refine E.d 18 (by decide +kernel) ?_; cbv; (fail_if_success guard_target =~ False))
        | fail
      )
      · obtain ⟨hn1, hn2⟩ := hnum (by ((try simp only [nc] at *); omega))
        simp only [knums_id, hn2]
        skip
        have hii : i < (g.ord.getD x []).length := by ((try simp only [nc] at *); omega)
        repeat' (first
          | (refine hI4 (i + 1) ?_ ?_ ?_; rotate_left 1; (· ((try simp only [nc] at *); omega)); (cbv; clear hI4; (try clear hF); (try simp only [nc] at *); (try simp (disch := (first | omega | (simp only [lnS, List.length_append, List.length_map, List.length_range, List.length_replicate, tabI_len, tabI_len]; omega))) only [nc, nct, w64_of, Int.toNat_natCast, Int.toNat_zero, List.length_map, rdS, at_agg, bofZ, bof1, bof0, List.getD_cons_zero, List.getD_cons_succ, Nat.zero_add, true_and, tabI_len, stI, List.drop_zero, List.take_of_length_le, tabI_len, stI, Nat.zero_add, implies_true, and_true, true_and, forall_const])); rotate_left 1; (try ((try simp only [nc] at *); omega)))
          | (refine ⟨fun _ h_s => ?_, fun _ h_s => ?_⟩ <;> (cbv; (try simp only [nc] at *); try simp (disch := (first | omega | (simp only [lnS, List.length_append, List.length_map, List.length_range, List.length_replicate, tabI_len, tabI_len]; omega))) only [nc, nct, w64_of, Int.toNat_natCast, Int.toNat_zero, List.length_map, rdS, at_agg, bofZ, bof1, bof0, List.getD_cons_zero, List.getD_cons_succ, Nat.zero_add, true_and, tabI_len, stI, List.drop_zero, List.take_of_length_le, tabI_len, stI, Nat.zero_add, reduceCtorEq, Bool.not_true, Bool.not_false, decide_eq_true_eq, decide_eq_false_iff_not, Bool.not_eq_true, Bool.not_eq_false, Bool.not_eq_true', Bool.not_eq_false', ne_eq, Decidable.not_not, Int.not_le, Int.not_lt, beq_iff_eq] at h_s))
          | (refine hF ?_; intro _; clear hF)
          | (refine hF ?_; cbv; clear hF)
          | (refine ⟨fun _ => ?_, ?_⟩; (· ((try simp only [nc] at *); first | done | omega | exact ⟨by omega, rfl⟩ | (simp (disch := (first | omega | (simp only [lnS, List.length_append, List.length_map, List.length_range, List.length_replicate, tabI_len, tabI_len]; omega))) only [nc, nct, w64_of, Int.toNat_natCast, Int.toNat_zero, List.length_map, rdS, at_agg, bofZ, bof1, bof0, List.getD_cons_zero, List.getD_cons_succ, Nat.zero_add, true_and, tabI_len, stI, List.drop_zero, List.take_of_length_le, tabI_len, stI, Nat.zero_add]; first | done | omega | rfl | exact ⟨by omega, rfl⟩ | (simp; done) | (simp; omega)) | (intros; trivial) | exact rfl | exact ⟨by omega, by rw [istab_get _ _ _ (by omega)]; rfl⟩ | exact ⟨mok_ids _, is_vals _⟩ | exact rfl | exact ⟨mok_ids _, is_vals _⟩)); (try (simp only [nc] at *)); (try simp (disch := (first | omega | (simp only [lnS, List.length_append, List.length_map, List.length_range, List.length_replicate, tabI_len, tabI_len]; omega))) only [nc, nct, w64_of, Int.toNat_natCast, Int.toNat_zero, List.length_map, rdS, at_agg, bofZ, bof1, bof0, List.getD_cons_zero, List.getD_cons_succ, Nat.zero_add, true_and, tabI_len, stI, List.drop_zero, List.take_of_length_le, tabI_len, stI, Nat.zero_add]); (try cbv))
          | (refine E.d 9 (by decide +kernel) ?_; cbv; (fail_if_success guard_target =~ False))
          | (refine E.d 18 (by decide +kernel) ?_; cbv; (fail_if_success guard_target =~ False))
          | fail
        )
        refine ⟨by push_cast; rfl, congrArg is (tabI_congr fun j hj => ?_)⟩
        have := plTo_step h hxx hii (m := j) (by rw [← hLf, hLn]; exact hj)
        rw [hplx, hplx, hLf]
        rw [hLf] at hn1 hn2
        exact this
      · have e : i = (g.ord.getD x []).length := by ((try simp only [nc] at *); omega)
        subst e
        rw [hpS]
        repeat' (first
          | (refine hI3 (x + 1) ?_ ?_ ?_; rotate_left 1; (· ((try simp only [nc] at *); omega)); (cbv; clear hI3; (try clear hF); (try simp only [nc] at *); (try simp (disch := (first | omega | (simp only [lnS, List.length_append, List.length_map, List.length_range, List.length_replicate, tabI_len, tabI_len]; omega))) only [nc, nct, w64_of, Int.toNat_natCast, Int.toNat_zero, List.length_map, rdS, at_agg, bofZ, bof1, bof0, List.getD_cons_zero, List.getD_cons_succ, Nat.zero_add, true_and, tabI_len, stI, List.drop_zero, List.take_of_length_le, tabI_len, stI, Nat.zero_add, implies_true, and_true, true_and, forall_const])); rotate_left 1; (try ((try simp only [nc] at *); omega)))
          | (refine ⟨fun _ h_s => ?_, fun _ h_s => ?_⟩ <;> (cbv; (try simp only [nc] at *); try simp (disch := (first | omega | (simp only [lnS, List.length_append, List.length_map, List.length_range, List.length_replicate, tabI_len, tabI_len]; omega))) only [nc, nct, w64_of, Int.toNat_natCast, Int.toNat_zero, List.length_map, rdS, at_agg, bofZ, bof1, bof0, List.getD_cons_zero, List.getD_cons_succ, Nat.zero_add, true_and, tabI_len, stI, List.drop_zero, List.take_of_length_le, tabI_len, stI, Nat.zero_add, reduceCtorEq, Bool.not_true, Bool.not_false, decide_eq_true_eq, decide_eq_false_iff_not, Bool.not_eq_true, Bool.not_eq_false, Bool.not_eq_true', Bool.not_eq_false', ne_eq, Decidable.not_not, Int.not_le, Int.not_lt, beq_iff_eq] at h_s))
          | (refine hF ?_; intro _; clear hF)
          | (refine hF ?_; cbv; clear hF)
          | (refine ⟨fun _ => ?_, ?_⟩; (· ((try simp only [nc] at *); first | done | omega | exact ⟨by omega, rfl⟩ | (simp (disch := (first | omega | (simp only [lnS, List.length_append, List.length_map, List.length_range, List.length_replicate, tabI_len, tabI_len]; omega))) only [nc, nct, w64_of, Int.toNat_natCast, Int.toNat_zero, List.length_map, rdS, at_agg, bofZ, bof1, bof0, List.getD_cons_zero, List.getD_cons_succ, Nat.zero_add, true_and, tabI_len, stI, List.drop_zero, List.take_of_length_le, tabI_len, stI, Nat.zero_add]; first | done | omega | rfl | exact ⟨by omega, rfl⟩ | (simp; done) | (simp; omega)) | (intros; trivial) | exact rfl | exact ⟨by omega, by rw [istab_get _ _ _ (by omega)]; rfl⟩ | exact ⟨mok_ids _, is_vals _⟩ | exact rfl | exact ⟨mok_ids _, is_vals _⟩)); try cbv)
          | (refine E.d 9 (by decide +kernel) ?_; cbv; (fail_if_success guard_target =~ False))
          | (refine E.d 18 (by decide +kernel) ?_; cbv; (fail_if_success guard_target =~ False))
          | fail
        )
        push_cast; rfl
    · have e : x = g.ord.length := by ((try simp only [nc] at *); omega)
      subst e
      rw [hpE]
      simp only [viewG, ← hLf, ← hMf, ← hnn, hLn, hMn]
      simp [List.take_of_length_le, hLn, hMn, id0]
end Go.AL.Rl

namespace Go.AL.Rl
open Go Go.AL Go.Proofs
set_option maxRecDepth 100000
set_option maxHeartbeats 1600000
variable {γ : Nat → Option AV}

def NG (g : Gr) : Int := if GOk g then (nG g : Nat) else 0
def rowsG (g : Gr) (f : Vw → Nat → List (BitVec 64)) : List (BitVec 64) := if GOk g then f (viewG g) (nG g) else []
def maskG (g : Gr) (f : Vw → Nat → BitVec 64) : BitVec 64 := if GOk g then f (viewG g) (nG g) else 0#64
def poF (V : Vw) (n : Nat) : List (BitVec 64) := relRows n (poM V)
def rfF (V : Vw) (n : Nat) : List (BitVec 64) := relRows n (rfM V)
def coF (V : Vw) (n : Nat) : List (BitVec 64) := relRows n (coM V)
def frF (V : Vw) (n : Nat) : List (BitVec 64) := relRows n (frM V)
def locF (V : Vw) (n : Nat) : List (BitVec 64) := relRows n (locM V)
noncomputable def swF (V : Vw) (n : Nat) : List (BitVec 64) := relRows n (bit (swRows V n))
def ecoF (V : Vw) (n : Nat) : List (BitVec 64) := plusM n (orM n [((n : Int), rfF V n), ((n : Int), coF V n), ((n : Int), frF V n)])
def porfF (V : Vw) (n : Nat) : List (BitVec 64) := plusM n (orM n [((n : Int), poF V n), ((n : Int), rfF V n)])
noncomputable def hbF (V : Vw) (n : Nat) : List (BitVec 64) := plusM n (orM n [((n : Int), poF V n), ((n : Int), swF V n)])
theorem viewOf_ok (g : Gr) (hg : Rd g) (h : GOk g) : Pure Try.prog γ false 28 [aGr g] (.tup [.vp (fun _ => aVw (viewG g)) 0, .b fun _ => true]) := viewOf_yes g hg h
theorem vpoF_ok (V : Vw) {n : Nat} (hV : Wf V n) : Pure Try.prog γ false 29 [pVw V, .fn 30 [.vp (fun _ => aVw V) 0] []] (encRel n (poF V n)) :=
  drel1_ok (γ := γ) V hV 30 (fun _ => aVw V) _ (fun a ha b hb => dpo_ok V hV a b ha hb)
theorem vrfF_ok (V : Vw) {n : Nat} (hV : Wf V n) : Pure Try.prog γ false 29 [pVw V, .fn 31 [.vp (fun _ => aVw V) 0] []] (encRel n (rfF V n)) :=
  drel1_ok (γ := γ) V hV 31 (fun _ => aVw V) _ (fun a ha b hb => drf_ok V hV a b ha hb)
theorem vcoF_ok (V : Vw) {n : Nat} (hV : Wf V n) : Pure Try.prog γ false 29 [pVw V, .fn 32 [.vp (fun _ => aVw V) 0] []] (encRel n (coF V n)) :=
  drel1_ok (γ := γ) V hV 32 (fun _ => aVw V) _ (fun a ha b hb => dco_ok V hV a b ha hb)
theorem vfrF_ok (V : Vw) {n : Nat} (hV : Wf V n) : Pure Try.prog γ false 29 [pVw V, .fn 33 [.vp (fun _ => aVw V) 0] []] (encRel n (frF V n)) :=
  drel1_ok (γ := γ) V hV 33 (fun _ => aVw V) _ (fun a ha b hb => dfr_ok V hV a b ha hb)
theorem vlocF_ok (V : Vw) {n : Nat} (hV : Wf V n) : Pure Try.prog γ false 29 [pVw V, .fn 36 [.vp (fun _ => aVw V) 0] []] (encRel n (locF V n)) :=
  drel1_ok (γ := γ) V hV 36 (fun _ => aVw V) _ (fun a ha b hb => dloc_ok V hV a b ha hb)
theorem vswF_ok (V : Vw) {n : Nat} (hV : Wf V n) : Pure Try.prog γ false 37 [pVw V] (encRel n (swF V n)) := dsw_ok V hV
theorem dPo_yes (g : Gr) (hg : Rd g) (h : GOk g) : Pure Try.prog γ false 20 [aGr g] (encRel (nG g : Nat) (poF (viewG g) (nG g))) := by
  have hV := viewG_wf h
  have hr := vpoF_ok (γ := γ) (viewG g) hV
  refine Pure.go (ty := ty) ty_eq mo Try.func20 rfl Try.ntmps20 Try.results20 Try.call20 (by simp) fun P C CQ D W F E hF => ?_
  cbv
  repeat' (first
    | (refine E.c (SCalls.of_le (hr) ?_ ?_); (· (cbv; (try simp only [nc] at *); first | done | (simp; done) | (simp (disch := (first | omega | (simp only [lnS, List.length_append, List.length_map, List.length_range, List.length_replicate]; omega))) only [nc, nct, w64_of, Int.toNat_natCast, Int.toNat_zero, List.length_map, rdS, at_agg, bofZ, bof1, bof0, List.getD_cons_zero, List.getD_cons_succ, implies_true, and_true, true_and, forall_const]; first | done | omega | (refine ⟨?_, ?_⟩ <;> omega)) | (simp (disch := (first | omega | (simp only [lnS, List.length_append, List.length_map, List.length_range, List.length_replicate]; omega))) [nc, nct, w64_of, Int.toNat_natCast, Int.toNat_zero, List.length_map, rdS, at_agg, bofZ, bof1, bof0, List.getD_cons_zero, List.getD_cons_succ]; done))); cbv)
    | (refine E.c (SCalls.of_le (viewOf_ok g hg h) ?_ ?_); (· (cbv; (try simp only [nc] at *); first | done | (simp; done) | (simp (disch := (first | omega | (simp only [lnS, List.length_append, List.length_map, List.length_range, List.length_replicate]; omega))) only [nc, nct, w64_of, Int.toNat_natCast, Int.toNat_zero, List.length_map, rdS, at_agg, bofZ, bof1, bof0, List.getD_cons_zero, List.getD_cons_succ, implies_true, and_true, true_and, forall_const]; first | done | omega | (refine ⟨?_, ?_⟩ <;> omega)) | (simp (disch := (first | omega | (simp only [lnS, List.length_append, List.length_map, List.length_range, List.length_replicate]; omega))) [nc, nct, w64_of, Int.toNat_natCast, Int.toNat_zero, List.length_map, rdS, at_agg, bofZ, bof1, bof0, List.getD_cons_zero, List.getD_cons_succ]; done))); cbv)
    | (refine ⟨fun _ h_s => ?_, fun _ h_s => ?_⟩ <;> (cbv; (try simp only [nc] at *); try simp (disch := (first | omega | (simp only [lnS, List.length_append, List.length_map, List.length_range, List.length_replicate]; omega))) only [nc, nct, w64_of, Int.toNat_natCast, Int.toNat_zero, List.length_map, rdS, at_agg, bofZ, bof1, bof0, List.getD_cons_zero, List.getD_cons_succ, reduceCtorEq, Bool.not_true, Bool.not_false, decide_eq_true_eq, decide_eq_false_iff_not, Bool.not_eq_true, Bool.not_eq_false, Bool.not_eq_true', Bool.not_eq_false', ne_eq, Decidable.not_not, Int.not_le, Int.not_lt, beq_iff_eq] at h_s))
    | (refine hF ?_; intro _; clear hF)
    | (refine hF ?_; cbv; clear hF)
    | (refine ⟨fun _ => ?_, ?_⟩; (· ((try simp only [nc] at *); first | done | omega | exact ⟨by omega, rfl⟩ | (simp (disch := (first | omega | (simp only [lnS, List.length_append, List.length_map, List.length_range, List.length_replicate]; omega))) only [nc, nct, w64_of, Int.toNat_natCast, Int.toNat_zero, List.length_map, rdS, at_agg, bofZ, bof1, bof0, List.getD_cons_zero, List.getD_cons_succ]; first | done | omega | rfl | exact ⟨by omega, rfl⟩ | (simp; done) | (simp; omega)) | (intros; trivial))); try cbv)
    | fail
  )
  all_goals (try simp only [nc] at *)
  all_goals (try simp (disch := (first | omega | (simp only [lnS, List.length_append, List.length_map, List.length_range, List.length_replicate]; omega))) only [nc, nct, w64_of, Int.toNat_natCast, Int.toNat_zero, List.length_map, rdS, at_agg, bofZ, bof1, bof0, List.getD_cons_zero, List.getD_cons_succ])
theorem dPo_no (g : Gr) (hg : Rd g) (h : ¬ GOk g) : Pure Try.prog γ false 20 [aGr g] (encRel 0 []) := by
  refine Pure.go (ty := ty) ty_eq mo Try.func20 rfl Try.ntmps20 Try.results20 Try.call20 (by simp) fun P C CQ D W F E hF => ?_
  cbv
  repeat' (first
    | (refine E.c (SCalls.of_le (viewOf_no g hg h) ?_ ?_); (· (cbv; (try simp only [nc] at *); first | done | (simp; done) | (simp (disch := (first | omega | (simp only [lnS, List.length_append, List.length_map, List.length_range, List.length_replicate]; omega))) only [nc, nct, w64_of, Int.toNat_natCast, Int.toNat_zero, List.length_map, rdS, at_agg, bofZ, bof1, bof0, List.getD_cons_zero, List.getD_cons_succ, implies_true, and_true, true_and, forall_const]; first | done | omega | (refine ⟨?_, ?_⟩ <;> omega)) | (simp (disch := (first | omega | (simp only [lnS, List.length_append, List.length_map, List.length_range, List.length_replicate]; omega))) [nc, nct, w64_of, Int.toNat_natCast, Int.toNat_zero, List.length_map, rdS, at_agg, bofZ, bof1, bof0, List.getD_cons_zero, List.getD_cons_succ]; done))); cbv)
    | (refine ⟨fun _ h_s => ?_, fun _ h_s => ?_⟩ <;> (cbv; (try simp only [nc] at *); try simp (disch := (first | omega | (simp only [lnS, List.length_append, List.length_map, List.length_range, List.length_replicate]; omega))) only [nc, nct, w64_of, Int.toNat_natCast, Int.toNat_zero, List.length_map, rdS, at_agg, bofZ, bof1, bof0, List.getD_cons_zero, List.getD_cons_succ, reduceCtorEq, Bool.not_true, Bool.not_false, decide_eq_true_eq, decide_eq_false_iff_not, Bool.not_eq_true, Bool.not_eq_false, Bool.not_eq_true', Bool.not_eq_false', ne_eq, Decidable.not_not, Int.not_le, Int.not_lt, beq_iff_eq] at h_s))
    | (refine hF ?_; intro _; clear hF)
    | (refine hF ?_; cbv; clear hF)
    | (refine ⟨fun _ => ?_, ?_⟩; (· ((try simp only [nc] at *); first | done | omega | exact ⟨by omega, rfl⟩ | (simp (disch := (first | omega | (simp only [lnS, List.length_append, List.length_map, List.length_range, List.length_replicate]; omega))) only [nc, nct, w64_of, Int.toNat_natCast, Int.toNat_zero, List.length_map, rdS, at_agg, bofZ, bof1, bof0, List.getD_cons_zero, List.getD_cons_succ]; first | done | omega | rfl | exact ⟨by omega, rfl⟩ | (simp; done) | (simp; omega)) | (intros; trivial))); try cbv)
    | fail
  )
  all_goals (try simp only [nc] at *)
  all_goals (try simp (disch := (first | omega | (simp only [lnS, List.length_append, List.length_map, List.length_range, List.length_replicate]; omega))) only [nc, nct, w64_of, Int.toNat_natCast, Int.toNat_zero, List.length_map, rdS, at_agg, bofZ, bof1, bof0, List.getD_cons_zero, List.getD_cons_succ])
  all_goals simp [us, LV.of]
theorem dPo_ok (g : Gr) (hg : Rd g) : Pure Try.prog γ false 20 [aGr g] (encRel (NG g) (rowsG g poF)) := by
  by_cases h : GOk g
  · have := dPo_yes (γ := γ) g hg h
    unfold NG rowsG
    rwa [if_pos h, if_pos h]
  · have := dPo_no (γ := γ) g hg h
    unfold NG rowsG
    rwa [if_neg h, if_neg h]
theorem dRf_yes (g : Gr) (hg : Rd g) (h : GOk g) : Pure Try.prog γ false 21 [aGr g] (encRel (nG g : Nat) (rfF (viewG g) (nG g))) := by
  have hV := viewG_wf h
  have hr := vrfF_ok (γ := γ) (viewG g) hV
  refine Pure.go (ty := ty) ty_eq mo Try.func21 rfl Try.ntmps21 Try.results21 Try.call21 (by simp) fun P C CQ D W F E hF => ?_
  cbv
  repeat' (first
    | (refine E.c (SCalls.of_le (hr) ?_ ?_); (· (cbv; (try simp only [nc] at *); first | done | (simp; done) | (simp (disch := (first | omega | (simp only [lnS, List.length_append, List.length_map, List.length_range, List.length_replicate]; omega))) only [nc, nct, w64_of, Int.toNat_natCast, Int.toNat_zero, List.length_map, rdS, at_agg, bofZ, bof1, bof0, List.getD_cons_zero, List.getD_cons_succ, implies_true, and_true, true_and, forall_const]; first | done | omega | (refine ⟨?_, ?_⟩ <;> omega)) | (simp (disch := (first | omega | (simp only [lnS, List.length_append, List.length_map, List.length_range, List.length_replicate]; omega))) [nc, nct, w64_of, Int.toNat_natCast, Int.toNat_zero, List.length_map, rdS, at_agg, bofZ, bof1, bof0, List.getD_cons_zero, List.getD_cons_succ]; done))); cbv)
    | (refine E.c (SCalls.of_le (viewOf_ok g hg h) ?_ ?_); (· (cbv; (try simp only [nc] at *); first | done | (simp; done) | (simp (disch := (first | omega | (simp only [lnS, List.length_append, List.length_map, List.length_range, List.length_replicate]; omega))) only [nc, nct, w64_of, Int.toNat_natCast, Int.toNat_zero, List.length_map, rdS, at_agg, bofZ, bof1, bof0, List.getD_cons_zero, List.getD_cons_succ, implies_true, and_true, true_and, forall_const]; first | done | omega | (refine ⟨?_, ?_⟩ <;> omega)) | (simp (disch := (first | omega | (simp only [lnS, List.length_append, List.length_map, List.length_range, List.length_replicate]; omega))) [nc, nct, w64_of, Int.toNat_natCast, Int.toNat_zero, List.length_map, rdS, at_agg, bofZ, bof1, bof0, List.getD_cons_zero, List.getD_cons_succ]; done))); cbv)
    | (refine ⟨fun _ h_s => ?_, fun _ h_s => ?_⟩ <;> (cbv; (try simp only [nc] at *); try simp (disch := (first | omega | (simp only [lnS, List.length_append, List.length_map, List.length_range, List.length_replicate]; omega))) only [nc, nct, w64_of, Int.toNat_natCast, Int.toNat_zero, List.length_map, rdS, at_agg, bofZ, bof1, bof0, List.getD_cons_zero, List.getD_cons_succ, reduceCtorEq, Bool.not_true, Bool.not_false, decide_eq_true_eq, decide_eq_false_iff_not, Bool.not_eq_true, Bool.not_eq_false, Bool.not_eq_true', Bool.not_eq_false', ne_eq, Decidable.not_not, Int.not_le, Int.not_lt, beq_iff_eq] at h_s))
    | (refine hF ?_; intro _; clear hF)
    | (refine hF ?_; cbv; clear hF)
    | (refine ⟨fun _ => ?_, ?_⟩; (· ((try simp only [nc] at *); first | done | omega | exact ⟨by omega, rfl⟩ | (simp (disch := (first | omega | (simp only [lnS, List.length_append, List.length_map, List.length_range, List.length_replicate]; omega))) only [nc, nct, w64_of, Int.toNat_natCast, Int.toNat_zero, List.length_map, rdS, at_agg, bofZ, bof1, bof0, List.getD_cons_zero, List.getD_cons_succ]; first | done | omega | rfl | exact ⟨by omega, rfl⟩ | (simp; done) | (simp; omega)) | (intros; trivial))); try cbv)
    | fail
  )
  all_goals (try simp only [nc] at *)
  all_goals (try simp (disch := (first | omega | (simp only [lnS, List.length_append, List.length_map, List.length_range, List.length_replicate]; omega))) only [nc, nct, w64_of, Int.toNat_natCast, Int.toNat_zero, List.length_map, rdS, at_agg, bofZ, bof1, bof0, List.getD_cons_zero, List.getD_cons_succ])
theorem dRf_no (g : Gr) (hg : Rd g) (h : ¬ GOk g) : Pure Try.prog γ false 21 [aGr g] (encRel 0 []) := by
  refine Pure.go (ty := ty) ty_eq mo Try.func21 rfl Try.ntmps21 Try.results21 Try.call21 (by simp) fun P C CQ D W F E hF => ?_
  cbv
  repeat' (first
    | (refine E.c (SCalls.of_le (viewOf_no g hg h) ?_ ?_); (· (cbv; (try simp only [nc] at *); first | done | (simp; done) | (simp (disch := (first | omega | (simp only [lnS, List.length_append, List.length_map, List.length_range, List.length_replicate]; omega))) only [nc, nct, w64_of, Int.toNat_natCast, Int.toNat_zero, List.length_map, rdS, at_agg, bofZ, bof1, bof0, List.getD_cons_zero, List.getD_cons_succ, implies_true, and_true, true_and, forall_const]; first | done | omega | (refine ⟨?_, ?_⟩ <;> omega)) | (simp (disch := (first | omega | (simp only [lnS, List.length_append, List.length_map, List.length_range, List.length_replicate]; omega))) [nc, nct, w64_of, Int.toNat_natCast, Int.toNat_zero, List.length_map, rdS, at_agg, bofZ, bof1, bof0, List.getD_cons_zero, List.getD_cons_succ]; done))); cbv)
    | (refine ⟨fun _ h_s => ?_, fun _ h_s => ?_⟩ <;> (cbv; (try simp only [nc] at *); try simp (disch := (first | omega | (simp only [lnS, List.length_append, List.length_map, List.length_range, List.length_replicate]; omega))) only [nc, nct, w64_of, Int.toNat_natCast, Int.toNat_zero, List.length_map, rdS, at_agg, bofZ, bof1, bof0, List.getD_cons_zero, List.getD_cons_succ, reduceCtorEq, Bool.not_true, Bool.not_false, decide_eq_true_eq, decide_eq_false_iff_not, Bool.not_eq_true, Bool.not_eq_false, Bool.not_eq_true', Bool.not_eq_false', ne_eq, Decidable.not_not, Int.not_le, Int.not_lt, beq_iff_eq] at h_s))
    | (refine hF ?_; intro _; clear hF)
    | (refine hF ?_; cbv; clear hF)
    | (refine ⟨fun _ => ?_, ?_⟩; (· ((try simp only [nc] at *); first | done | omega | exact ⟨by omega, rfl⟩ | (simp (disch := (first | omega | (simp only [lnS, List.length_append, List.length_map, List.length_range, List.length_replicate]; omega))) only [nc, nct, w64_of, Int.toNat_natCast, Int.toNat_zero, List.length_map, rdS, at_agg, bofZ, bof1, bof0, List.getD_cons_zero, List.getD_cons_succ]; first | done | omega | rfl | exact ⟨by omega, rfl⟩ | (simp; done) | (simp; omega)) | (intros; trivial))); try cbv)
    | fail
  )
  all_goals (try simp only [nc] at *)
  all_goals (try simp (disch := (first | omega | (simp only [lnS, List.length_append, List.length_map, List.length_range, List.length_replicate]; omega))) only [nc, nct, w64_of, Int.toNat_natCast, Int.toNat_zero, List.length_map, rdS, at_agg, bofZ, bof1, bof0, List.getD_cons_zero, List.getD_cons_succ])
  all_goals simp [us, LV.of]
theorem dRf_ok (g : Gr) (hg : Rd g) : Pure Try.prog γ false 21 [aGr g] (encRel (NG g) (rowsG g rfF)) := by
  by_cases h : GOk g
  · have := dRf_yes (γ := γ) g hg h
    unfold NG rowsG
    rwa [if_pos h, if_pos h]
  · have := dRf_no (γ := γ) g hg h
    unfold NG rowsG
    rwa [if_neg h, if_neg h]
theorem dCo_yes (g : Gr) (hg : Rd g) (h : GOk g) : Pure Try.prog γ false 22 [aGr g] (encRel (nG g : Nat) (coF (viewG g) (nG g))) := by
  have hV := viewG_wf h
  have hr := vcoF_ok (γ := γ) (viewG g) hV
  refine Pure.go (ty := ty) ty_eq mo Try.func22 rfl Try.ntmps22 Try.results22 Try.call22 (by simp) fun P C CQ D W F E hF => ?_
  cbv
  repeat' (first
    | (refine E.c (SCalls.of_le (hr) ?_ ?_); (· (cbv; (try simp only [nc] at *); first | done | (simp; done) | (simp (disch := (first | omega | (simp only [lnS, List.length_append, List.length_map, List.length_range, List.length_replicate]; omega))) only [nc, nct, w64_of, Int.toNat_natCast, Int.toNat_zero, List.length_map, rdS, at_agg, bofZ, bof1, bof0, List.getD_cons_zero, List.getD_cons_succ, implies_true, and_true, true_and, forall_const]; first | done | omega | (refine ⟨?_, ?_⟩ <;> omega)) | (simp (disch := (first | omega | (simp only [lnS, List.length_append, List.length_map, List.length_range, List.length_replicate]; omega))) [nc, nct, w64_of, Int.toNat_natCast, Int.toNat_zero, List.length_map, rdS, at_agg, bofZ, bof1, bof0, List.getD_cons_zero, List.getD_cons_succ]; done))); cbv)
    | (refine E.c (SCalls.of_le (viewOf_ok g hg h) ?_ ?_); (· (cbv; (try simp only [nc] at *); first | done | (simp; done) | (simp (disch := (first | omega | (simp only [lnS, List.length_append, List.length_map, List.length_range, List.length_replicate]; omega))) only [nc, nct, w64_of, Int.toNat_natCast, Int.toNat_zero, List.length_map, rdS, at_agg, bofZ, bof1, bof0, List.getD_cons_zero, List.getD_cons_succ, implies_true, and_true, true_and, forall_const]; first | done | omega | (refine ⟨?_, ?_⟩ <;> omega)) | (simp (disch := (first | omega | (simp only [lnS, List.length_append, List.length_map, List.length_range, List.length_replicate]; omega))) [nc, nct, w64_of, Int.toNat_natCast, Int.toNat_zero, List.length_map, rdS, at_agg, bofZ, bof1, bof0, List.getD_cons_zero, List.getD_cons_succ]; done))); cbv)
    | (refine ⟨fun _ h_s => ?_, fun _ h_s => ?_⟩ <;> (cbv; (try simp only [nc] at *); try simp (disch := (first | omega | (simp only [lnS, List.length_append, List.length_map, List.length_range, List.length_replicate]; omega))) only [nc, nct, w64_of, Int.toNat_natCast, Int.toNat_zero, List.length_map, rdS, at_agg, bofZ, bof1, bof0, List.getD_cons_zero, List.getD_cons_succ, reduceCtorEq, Bool.not_true, Bool.not_false, decide_eq_true_eq, decide_eq_false_iff_not, Bool.not_eq_true, Bool.not_eq_false, Bool.not_eq_true', Bool.not_eq_false', ne_eq, Decidable.not_not, Int.not_le, Int.not_lt, beq_iff_eq] at h_s))
    | (refine hF ?_; intro _; clear hF)
    | (refine hF ?_; cbv; clear hF)
    | (refine ⟨fun _ => ?_, ?_⟩; (· ((try simp only [nc] at *); first | done | omega | exact ⟨by omega, rfl⟩ | (simp (disch := (first | omega | (simp only [lnS, List.length_append, List.length_map, List.length_range, List.length_replicate]; omega))) only [nc, nct, w64_of, Int.toNat_natCast, Int.toNat_zero, List.length_map, rdS, at_agg, bofZ, bof1, bof0, List.getD_cons_zero, List.getD_cons_succ]; first | done | omega | rfl | exact ⟨by omega, rfl⟩ | (simp; done) | (simp; omega)) | (intros; trivial))); try cbv)
    | fail
  )
  all_goals (try simp only [nc] at *)
  all_goals (try simp (disch := (first | omega | (simp only [lnS, List.length_append, List.length_map, List.length_range, List.length_replicate]; omega))) only [nc, nct, w64_of, Int.toNat_natCast, Int.toNat_zero, List.length_map, rdS, at_agg, bofZ, bof1, bof0, List.getD_cons_zero, List.getD_cons_succ])
theorem dCo_no (g : Gr) (hg : Rd g) (h : ¬ GOk g) : Pure Try.prog γ false 22 [aGr g] (encRel 0 []) := by
  refine Pure.go (ty := ty) ty_eq mo Try.func22 rfl Try.ntmps22 Try.results22 Try.call22 (by simp) fun P C CQ D W F E hF => ?_
  cbv
  repeat' (first
    | (refine E.c (SCalls.of_le (viewOf_no g hg h) ?_ ?_); (· (cbv; (try simp only [nc] at *); first | done | (simp; done) | (simp (disch := (first | omega | (simp only [lnS, List.length_append, List.length_map, List.length_range, List.length_replicate]; omega))) only [nc, nct, w64_of, Int.toNat_natCast, Int.toNat_zero, List.length_map, rdS, at_agg, bofZ, bof1, bof0, List.getD_cons_zero, List.getD_cons_succ, implies_true, and_true, true_and, forall_const]; first | done | omega | (refine ⟨?_, ?_⟩ <;> omega)) | (simp (disch := (first | omega | (simp only [lnS, List.length_append, List.length_map, List.length_range, List.length_replicate]; omega))) [nc, nct, w64_of, Int.toNat_natCast, Int.toNat_zero, List.length_map, rdS, at_agg, bofZ, bof1, bof0, List.getD_cons_zero, List.getD_cons_succ]; done))); cbv)
    | (refine ⟨fun _ h_s => ?_, fun _ h_s => ?_⟩ <;> (cbv; (try simp only [nc] at *); try simp (disch := (first | omega | (simp only [lnS, List.length_append, List.length_map, List.length_range, List.length_replicate]; omega))) only [nc, nct, w64_of, Int.toNat_natCast, Int.toNat_zero, List.length_map, rdS, at_agg, bofZ, bof1, bof0, List.getD_cons_zero, List.getD_cons_succ, reduceCtorEq, Bool.not_true, Bool.not_false, decide_eq_true_eq, decide_eq_false_iff_not, Bool.not_eq_true, Bool.not_eq_false, Bool.not_eq_true', Bool.not_eq_false', ne_eq, Decidable.not_not, Int.not_le, Int.not_lt, beq_iff_eq] at h_s))
    | (refine hF ?_; intro _; clear hF)
    | (refine hF ?_; cbv; clear hF)
    | (refine ⟨fun _ => ?_, ?_⟩; (· ((try simp only [nc] at *); first | done | omega | exact ⟨by omega, rfl⟩ | (simp (disch := (first | omega | (simp only [lnS, List.length_append, List.length_map, List.length_range, List.length_replicate]; omega))) only [nc, nct, w64_of, Int.toNat_natCast, Int.toNat_zero, List.length_map, rdS, at_agg, bofZ, bof1, bof0, List.getD_cons_zero, List.getD_cons_succ]; first | done | omega | rfl | exact ⟨by omega, rfl⟩ | (simp; done) | (simp; omega)) | (intros; trivial))); try cbv)
    | fail
  )
  all_goals (try simp only [nc] at *)
  all_goals (try simp (disch := (first | omega | (simp only [lnS, List.length_append, List.length_map, List.length_range, List.length_replicate]; omega))) only [nc, nct, w64_of, Int.toNat_natCast, Int.toNat_zero, List.length_map, rdS, at_agg, bofZ, bof1, bof0, List.getD_cons_zero, List.getD_cons_succ])
  all_goals simp [us, LV.of]
theorem dCo_ok (g : Gr) (hg : Rd g) : Pure Try.prog γ false 22 [aGr g] (encRel (NG g) (rowsG g coF)) := by
  by_cases h : GOk g
  · have := dCo_yes (γ := γ) g hg h
    unfold NG rowsG
    rwa [if_pos h, if_pos h]
  · have := dCo_no (γ := γ) g hg h
    unfold NG rowsG
    rwa [if_neg h, if_neg h]
theorem dFr_yes (g : Gr) (hg : Rd g) (h : GOk g) : Pure Try.prog γ false 23 [aGr g] (encRel (nG g : Nat) (frF (viewG g) (nG g))) := by
  have hV := viewG_wf h
  have hr := vfrF_ok (γ := γ) (viewG g) hV
  refine Pure.go (ty := ty) ty_eq mo Try.func23 rfl Try.ntmps23 Try.results23 Try.call23 (by simp) fun P C CQ D W F E hF => ?_
  cbv
  repeat' (first
    | (refine E.c (SCalls.of_le (hr) ?_ ?_); (· (cbv; (try simp only [nc] at *); first | done | (simp; done) | (simp (disch := (first | omega | (simp only [lnS, List.length_append, List.length_map, List.length_range, List.length_replicate]; omega))) only [nc, nct, w64_of, Int.toNat_natCast, Int.toNat_zero, List.length_map, rdS, at_agg, bofZ, bof1, bof0, List.getD_cons_zero, List.getD_cons_succ, implies_true, and_true, true_and, forall_const]; first | done | omega | (refine ⟨?_, ?_⟩ <;> omega)) | (simp (disch := (first | omega | (simp only [lnS, List.length_append, List.length_map, List.length_range, List.length_replicate]; omega))) [nc, nct, w64_of, Int.toNat_natCast, Int.toNat_zero, List.length_map, rdS, at_agg, bofZ, bof1, bof0, List.getD_cons_zero, List.getD_cons_succ]; done))); cbv)
    | (refine E.c (SCalls.of_le (viewOf_ok g hg h) ?_ ?_); (· (cbv; (try simp only [nc] at *); first | done | (simp; done) | (simp (disch := (first | omega | (simp only [lnS, List.length_append, List.length_map, List.length_range, List.length_replicate]; omega))) only [nc, nct, w64_of, Int.toNat_natCast, Int.toNat_zero, List.length_map, rdS, at_agg, bofZ, bof1, bof0, List.getD_cons_zero, List.getD_cons_succ, implies_true, and_true, true_and, forall_const]; first | done | omega | (refine ⟨?_, ?_⟩ <;> omega)) | (simp (disch := (first | omega | (simp only [lnS, List.length_append, List.length_map, List.length_range, List.length_replicate]; omega))) [nc, nct, w64_of, Int.toNat_natCast, Int.toNat_zero, List.length_map, rdS, at_agg, bofZ, bof1, bof0, List.getD_cons_zero, List.getD_cons_succ]; done))); cbv)
    | (refine ⟨fun _ h_s => ?_, fun _ h_s => ?_⟩ <;> (cbv; (try simp only [nc] at *); try simp (disch := (first | omega | (simp only [lnS, List.length_append, List.length_map, List.length_range, List.length_replicate]; omega))) only [nc, nct, w64_of, Int.toNat_natCast, Int.toNat_zero, List.length_map, rdS, at_agg, bofZ, bof1, bof0, List.getD_cons_zero, List.getD_cons_succ, reduceCtorEq, Bool.not_true, Bool.not_false, decide_eq_true_eq, decide_eq_false_iff_not, Bool.not_eq_true, Bool.not_eq_false, Bool.not_eq_true', Bool.not_eq_false', ne_eq, Decidable.not_not, Int.not_le, Int.not_lt, beq_iff_eq] at h_s))
    | (refine hF ?_; intro _; clear hF)
    | (refine hF ?_; cbv; clear hF)
    | (refine ⟨fun _ => ?_, ?_⟩; (· ((try simp only [nc] at *); first | done | omega | exact ⟨by omega, rfl⟩ | (simp (disch := (first | omega | (simp only [lnS, List.length_append, List.length_map, List.length_range, List.length_replicate]; omega))) only [nc, nct, w64_of, Int.toNat_natCast, Int.toNat_zero, List.length_map, rdS, at_agg, bofZ, bof1, bof0, List.getD_cons_zero, List.getD_cons_succ]; first | done | omega | rfl | exact ⟨by omega, rfl⟩ | (simp; done) | (simp; omega)) | (intros; trivial))); try cbv)
    | fail
  )
  all_goals (try simp only [nc] at *)
  all_goals (try simp (disch := (first | omega | (simp only [lnS, List.length_append, List.length_map, List.length_range, List.length_replicate]; omega))) only [nc, nct, w64_of, Int.toNat_natCast, Int.toNat_zero, List.length_map, rdS, at_agg, bofZ, bof1, bof0, List.getD_cons_zero, List.getD_cons_succ])
theorem dFr_no (g : Gr) (hg : Rd g) (h : ¬ GOk g) : Pure Try.prog γ false 23 [aGr g] (encRel 0 []) := by
  refine Pure.go (ty := ty) ty_eq mo Try.func23 rfl Try.ntmps23 Try.results23 Try.call23 (by simp) fun P C CQ D W F E hF => ?_
  cbv
  repeat' (first
    | (refine E.c (SCalls.of_le (viewOf_no g hg h) ?_ ?_); (· (cbv; (try simp only [nc] at *); first | done | (simp; done) | (simp (disch := (first | omega | (simp only [lnS, List.length_append, List.length_map, List.length_range, List.length_replicate]; omega))) only [nc, nct, w64_of, Int.toNat_natCast, Int.toNat_zero, List.length_map, rdS, at_agg, bofZ, bof1, bof0, List.getD_cons_zero, List.getD_cons_succ, implies_true, and_true, true_and, forall_const]; first | done | omega | (refine ⟨?_, ?_⟩ <;> omega)) | (simp (disch := (first | omega | (simp only [lnS, List.length_append, List.length_map, List.length_range, List.length_replicate]; omega))) [nc, nct, w64_of, Int.toNat_natCast, Int.toNat_zero, List.length_map, rdS, at_agg, bofZ, bof1, bof0, List.getD_cons_zero, List.getD_cons_succ]; done))); cbv)
    | (refine ⟨fun _ h_s => ?_, fun _ h_s => ?_⟩ <;> (cbv; (try simp only [nc] at *); try simp (disch := (first | omega | (simp only [lnS, List.length_append, List.length_map, List.length_range, List.length_replicate]; omega))) only [nc, nct, w64_of, Int.toNat_natCast, Int.toNat_zero, List.length_map, rdS, at_agg, bofZ, bof1, bof0, List.getD_cons_zero, List.getD_cons_succ, reduceCtorEq, Bool.not_true, Bool.not_false, decide_eq_true_eq, decide_eq_false_iff_not, Bool.not_eq_true, Bool.not_eq_false, Bool.not_eq_true', Bool.not_eq_false', ne_eq, Decidable.not_not, Int.not_le, Int.not_lt, beq_iff_eq] at h_s))
    | (refine hF ?_; intro _; clear hF)
    | (refine hF ?_; cbv; clear hF)
    | (refine ⟨fun _ => ?_, ?_⟩; (· ((try simp only [nc] at *); first | done | omega | exact ⟨by omega, rfl⟩ | (simp (disch := (first | omega | (simp only [lnS, List.length_append, List.length_map, List.length_range, List.length_replicate]; omega))) only [nc, nct, w64_of, Int.toNat_natCast, Int.toNat_zero, List.length_map, rdS, at_agg, bofZ, bof1, bof0, List.getD_cons_zero, List.getD_cons_succ]; first | done | omega | rfl | exact ⟨by omega, rfl⟩ | (simp; done) | (simp; omega)) | (intros; trivial))); try cbv)
    | fail
  )
  all_goals (try simp only [nc] at *)
  all_goals (try simp (disch := (first | omega | (simp only [lnS, List.length_append, List.length_map, List.length_range, List.length_replicate]; omega))) only [nc, nct, w64_of, Int.toNat_natCast, Int.toNat_zero, List.length_map, rdS, at_agg, bofZ, bof1, bof0, List.getD_cons_zero, List.getD_cons_succ])
  all_goals simp [us, LV.of]
theorem dFr_ok (g : Gr) (hg : Rd g) : Pure Try.prog γ false 23 [aGr g] (encRel (NG g) (rowsG g frF)) := by
  by_cases h : GOk g
  · have := dFr_yes (γ := γ) g hg h
    unfold NG rowsG
    rwa [if_pos h, if_pos h]
  · have := dFr_no (γ := γ) g hg h
    unfold NG rowsG
    rwa [if_neg h, if_neg h]
theorem fits_poF (V : Vw) {n : Nat} (h : n ≤ 62) : Fits n (poF V n) := fits_rel (by omega) _
theorem fits_rfF (V : Vw) {n : Nat} (h : n ≤ 62) : Fits n (rfF V n) := fits_rel (by omega) _
theorem fits_coF (V : Vw) {n : Nat} (h : n ≤ 62) : Fits n (coF V n) := fits_rel (by omega) _
theorem fits_frF (V : Vw) {n : Nat} (h : n ≤ 62) : Fits n (frF V n) := fits_rel (by omega) _
theorem fits_locF (V : Vw) {n : Nat} (h : n ≤ 62) : Fits n (locF V n) := fits_rel (by omega) _
theorem fits_swF (V : Vw) {n : Nat} (h : n ≤ 62) : Fits n (swF V n) := fits_rel (by omega) _
theorem dSw_yes (g : Gr) (hg : Rd g) (h : GOk g) : Pure Try.prog γ false 24 [aGr g] (encRel (nG g : Nat) (swF (viewG g) (nG g))) := by
  have hV := viewG_wf h
  have hr := vswF_ok (γ := γ) (viewG g) hV
  refine Pure.go (ty := ty) ty_eq mo Try.func24 rfl Try.ntmps24 Try.results24 Try.call24 (by simp) fun P C CQ D W F E hF => ?_
  cbv
  repeat' (first
    | (refine E.c (SCalls.of_le (hr) ?_ ?_); (· (cbv; (try simp only [nc] at *); first | done | (simp; done) | (simp (disch := (first | omega | (simp only [lnS, List.length_append, List.length_map, List.length_range, List.length_replicate]; omega))) only [nc, nct, w64_of, Int.toNat_natCast, Int.toNat_zero, List.length_map, rdS, at_agg, bofZ, bof1, bof0, List.getD_cons_zero, List.getD_cons_succ, implies_true, and_true, true_and, forall_const]; first | done | omega | (refine ⟨?_, ?_⟩ <;> omega)) | (simp (disch := (first | omega | (simp only [lnS, List.length_append, List.length_map, List.length_range, List.length_replicate]; omega))) [nc, nct, w64_of, Int.toNat_natCast, Int.toNat_zero, List.length_map, rdS, at_agg, bofZ, bof1, bof0, List.getD_cons_zero, List.getD_cons_succ]; done))); cbv)
    | (refine E.c (SCalls.of_le (viewOf_ok g hg h) ?_ ?_); (· (cbv; (try simp only [nc] at *); first | done | (simp; done) | (simp (disch := (first | omega | (simp only [lnS, List.length_append, List.length_map, List.length_range, List.length_replicate]; omega))) only [nc, nct, w64_of, Int.toNat_natCast, Int.toNat_zero, List.length_map, rdS, at_agg, bofZ, bof1, bof0, List.getD_cons_zero, List.getD_cons_succ, implies_true, and_true, true_and, forall_const]; first | done | omega | (refine ⟨?_, ?_⟩ <;> omega)) | (simp (disch := (first | omega | (simp only [lnS, List.length_append, List.length_map, List.length_range, List.length_replicate]; omega))) [nc, nct, w64_of, Int.toNat_natCast, Int.toNat_zero, List.length_map, rdS, at_agg, bofZ, bof1, bof0, List.getD_cons_zero, List.getD_cons_succ]; done))); cbv)
    | (refine ⟨fun _ h_s => ?_, fun _ h_s => ?_⟩ <;> (cbv; (try simp only [nc] at *); try simp (disch := (first | omega | (simp only [lnS, List.length_append, List.length_map, List.length_range, List.length_replicate]; omega))) only [nc, nct, w64_of, Int.toNat_natCast, Int.toNat_zero, List.length_map, rdS, at_agg, bofZ, bof1, bof0, List.getD_cons_zero, List.getD_cons_succ, reduceCtorEq, Bool.not_true, Bool.not_false, decide_eq_true_eq, decide_eq_false_iff_not, Bool.not_eq_true, Bool.not_eq_false, Bool.not_eq_true', Bool.not_eq_false', ne_eq, Decidable.not_not, Int.not_le, Int.not_lt, beq_iff_eq] at h_s))
    | (refine hF ?_; intro _; clear hF)
    | (refine hF ?_; cbv; clear hF)
    | (refine ⟨fun _ => ?_, ?_⟩; (· ((try simp only [nc] at *); first | done | omega | exact ⟨by omega, rfl⟩ | (simp (disch := (first | omega | (simp only [lnS, List.length_append, List.length_map, List.length_range, List.length_replicate]; omega))) only [nc, nct, w64_of, Int.toNat_natCast, Int.toNat_zero, List.length_map, rdS, at_agg, bofZ, bof1, bof0, List.getD_cons_zero, List.getD_cons_succ]; first | done | omega | rfl | exact ⟨by omega, rfl⟩ | (simp; done) | (simp; omega)) | (intros; trivial))); try cbv)
    | fail
  )
  all_goals (try simp only [nc] at *)
  all_goals (try simp (disch := (first | omega | (simp only [lnS, List.length_append, List.length_map, List.length_range, List.length_replicate]; omega))) only [nc, nct, w64_of, Int.toNat_natCast, Int.toNat_zero, List.length_map, rdS, at_agg, bofZ, bof1, bof0, List.getD_cons_zero, List.getD_cons_succ])
theorem dSw_no (g : Gr) (hg : Rd g) (h : ¬ GOk g) : Pure Try.prog γ false 24 [aGr g] (encRel 0 []) := by
  refine Pure.go (ty := ty) ty_eq mo Try.func24 rfl Try.ntmps24 Try.results24 Try.call24 (by simp) fun P C CQ D W F E hF => ?_
  cbv
  repeat' (first
    | (refine E.c (SCalls.of_le (viewOf_no g hg h) ?_ ?_); (· (cbv; (try simp only [nc] at *); first | done | (simp; done) | (simp (disch := (first | omega | (simp only [lnS, List.length_append, List.length_map, List.length_range, List.length_replicate]; omega))) only [nc, nct, w64_of, Int.toNat_natCast, Int.toNat_zero, List.length_map, rdS, at_agg, bofZ, bof1, bof0, List.getD_cons_zero, List.getD_cons_succ, implies_true, and_true, true_and, forall_const]; first | done | omega | (refine ⟨?_, ?_⟩ <;> omega)) | (simp (disch := (first | omega | (simp only [lnS, List.length_append, List.length_map, List.length_range, List.length_replicate]; omega))) [nc, nct, w64_of, Int.toNat_natCast, Int.toNat_zero, List.length_map, rdS, at_agg, bofZ, bof1, bof0, List.getD_cons_zero, List.getD_cons_succ]; done))); cbv)
    | (refine ⟨fun _ h_s => ?_, fun _ h_s => ?_⟩ <;> (cbv; (try simp only [nc] at *); try simp (disch := (first | omega | (simp only [lnS, List.length_append, List.length_map, List.length_range, List.length_replicate]; omega))) only [nc, nct, w64_of, Int.toNat_natCast, Int.toNat_zero, List.length_map, rdS, at_agg, bofZ, bof1, bof0, List.getD_cons_zero, List.getD_cons_succ, reduceCtorEq, Bool.not_true, Bool.not_false, decide_eq_true_eq, decide_eq_false_iff_not, Bool.not_eq_true, Bool.not_eq_false, Bool.not_eq_true', Bool.not_eq_false', ne_eq, Decidable.not_not, Int.not_le, Int.not_lt, beq_iff_eq] at h_s))
    | (refine hF ?_; intro _; clear hF)
    | (refine hF ?_; cbv; clear hF)
    | (refine ⟨fun _ => ?_, ?_⟩; (· ((try simp only [nc] at *); first | done | omega | exact ⟨by omega, rfl⟩ | (simp (disch := (first | omega | (simp only [lnS, List.length_append, List.length_map, List.length_range, List.length_replicate]; omega))) only [nc, nct, w64_of, Int.toNat_natCast, Int.toNat_zero, List.length_map, rdS, at_agg, bofZ, bof1, bof0, List.getD_cons_zero, List.getD_cons_succ]; first | done | omega | rfl | exact ⟨by omega, rfl⟩ | (simp; done) | (simp; omega)) | (intros; trivial))); try cbv)
    | fail
  )
  all_goals (try simp only [nc] at *)
  all_goals (try simp (disch := (first | omega | (simp only [lnS, List.length_append, List.length_map, List.length_range, List.length_replicate]; omega))) only [nc, nct, w64_of, Int.toNat_natCast, Int.toNat_zero, List.length_map, rdS, at_agg, bofZ, bof1, bof0, List.getD_cons_zero, List.getD_cons_succ])
  all_goals simp [us, LV.of]
theorem dHb_yes (g : Gr) (hg : Rd g) (h : GOk g) : Pure Try.prog γ false 25 [aGr g] (encRel (nG g : Nat) (hbF (viewG g) (nG g))) := by
  have hV := viewG_wf h
  have h1 := vpoF_ok (γ := γ) (viewG g) hV
  have h2 := vswF_ok (γ := γ) (viewG g) hV
  have f1 := fits_poF (viewG g) hV.small
  have f2 := fits_swF (viewG g) hV.small
  have h3 := or2 (γ := γ) (nG g) _ _ f1 f2
  have h4 := plus_ok (γ := γ) (nG g) _ (fits_or2 f1 f2)
  refine Pure.go (ty := ty) ty_eq mo Try.func25 rfl Try.ntmps25 Try.results25 Try.call25 (by simp) fun P C CQ D W F E hF => ?_
  cbv
  repeat' (first
    | (refine E.c (SCalls.of_le (h4) ?_ ?_); (· (cbv; (try simp only [nc] at *); first | done | (simp; done) | (simp (disch := (first | omega | (simp only [lnS, List.length_append, List.length_map, List.length_range, List.length_replicate]; omega))) only [nc, nct, w64_of, Int.toNat_natCast, Int.toNat_zero, List.length_map, rdS, at_agg, bofZ, bof1, bof0, List.getD_cons_zero, List.getD_cons_succ, implies_true, and_true, true_and, forall_const]; first | done | omega | (refine ⟨?_, ?_⟩ <;> omega)) | (simp (disch := (first | omega | (simp only [lnS, List.length_append, List.length_map, List.length_range, List.length_replicate]; omega))) [nc, nct, w64_of, Int.toNat_natCast, Int.toNat_zero, List.length_map, rdS, at_agg, bofZ, bof1, bof0, List.getD_cons_zero, List.getD_cons_succ]; done))); cbv)
    | (refine E.c (SCalls.of_bare (h3) rfl ?_ ?_); (· (cbv; simp [rls, ps, us, is, LV.of]; done)); cbv)
    | (refine E.c (SCalls.of_le (h3) ?_ ?_); (· (cbv; simp [rls, ps, us, is, LV.of]; done)); cbv)
    | (refine E.q (QCalls.of_le (h3) ?_ ?_); (· (cbv; simp [rls, ps, us, is, LV.of]; done)); cbv)
    | (refine E.c (SCalls.of_le (h2) ?_ ?_); (· (cbv; (try simp only [nc] at *); first | done | (simp; done) | (simp (disch := (first | omega | (simp only [lnS, List.length_append, List.length_map, List.length_range, List.length_replicate]; omega))) only [nc, nct, w64_of, Int.toNat_natCast, Int.toNat_zero, List.length_map, rdS, at_agg, bofZ, bof1, bof0, List.getD_cons_zero, List.getD_cons_succ, implies_true, and_true, true_and, forall_const]; first | done | omega | (refine ⟨?_, ?_⟩ <;> omega)) | (simp (disch := (first | omega | (simp only [lnS, List.length_append, List.length_map, List.length_range, List.length_replicate]; omega))) [nc, nct, w64_of, Int.toNat_natCast, Int.toNat_zero, List.length_map, rdS, at_agg, bofZ, bof1, bof0, List.getD_cons_zero, List.getD_cons_succ]; done))); cbv)
    | (refine E.c (SCalls.of_le (h1) ?_ ?_); (· (cbv; (try simp only [nc] at *); first | done | (simp; done) | (simp (disch := (first | omega | (simp only [lnS, List.length_append, List.length_map, List.length_range, List.length_replicate]; omega))) only [nc, nct, w64_of, Int.toNat_natCast, Int.toNat_zero, List.length_map, rdS, at_agg, bofZ, bof1, bof0, List.getD_cons_zero, List.getD_cons_succ, implies_true, and_true, true_and, forall_const]; first | done | omega | (refine ⟨?_, ?_⟩ <;> omega)) | (simp (disch := (first | omega | (simp only [lnS, List.length_append, List.length_map, List.length_range, List.length_replicate]; omega))) [nc, nct, w64_of, Int.toNat_natCast, Int.toNat_zero, List.length_map, rdS, at_agg, bofZ, bof1, bof0, List.getD_cons_zero, List.getD_cons_succ]; done))); cbv)
    | (refine E.c (SCalls.of_le (viewOf_ok g hg h) ?_ ?_); (· (cbv; (try simp only [nc] at *); first | done | (simp; done) | (simp (disch := (first | omega | (simp only [lnS, List.length_append, List.length_map, List.length_range, List.length_replicate]; omega))) only [nc, nct, w64_of, Int.toNat_natCast, Int.toNat_zero, List.length_map, rdS, at_agg, bofZ, bof1, bof0, List.getD_cons_zero, List.getD_cons_succ, implies_true, and_true, true_and, forall_const]; first | done | omega | (refine ⟨?_, ?_⟩ <;> omega)) | (simp (disch := (first | omega | (simp only [lnS, List.length_append, List.length_map, List.length_range, List.length_replicate]; omega))) [nc, nct, w64_of, Int.toNat_natCast, Int.toNat_zero, List.length_map, rdS, at_agg, bofZ, bof1, bof0, List.getD_cons_zero, List.getD_cons_succ]; done))); cbv)
    | (refine ⟨fun _ h_s => ?_, fun _ h_s => ?_⟩ <;> (cbv; (try simp only [nc] at *); try simp (disch := (first | omega | (simp only [lnS, List.length_append, List.length_map, List.length_range, List.length_replicate]; omega))) only [nc, nct, w64_of, Int.toNat_natCast, Int.toNat_zero, List.length_map, rdS, at_agg, bofZ, bof1, bof0, List.getD_cons_zero, List.getD_cons_succ, reduceCtorEq, Bool.not_true, Bool.not_false, decide_eq_true_eq, decide_eq_false_iff_not, Bool.not_eq_true, Bool.not_eq_false, Bool.not_eq_true', Bool.not_eq_false', ne_eq, Decidable.not_not, Int.not_le, Int.not_lt, beq_iff_eq] at h_s))
    | (refine hF ?_; intro _; clear hF)
    | (refine hF ?_; cbv; clear hF)
    | (refine ⟨fun _ => ?_, ?_⟩; (· ((try simp only [nc] at *); first | done | omega | exact ⟨by omega, rfl⟩ | (simp (disch := (first | omega | (simp only [lnS, List.length_append, List.length_map, List.length_range, List.length_replicate]; omega))) only [nc, nct, w64_of, Int.toNat_natCast, Int.toNat_zero, List.length_map, rdS, at_agg, bofZ, bof1, bof0, List.getD_cons_zero, List.getD_cons_succ]; first | done | omega | rfl | exact ⟨by omega, rfl⟩ | (simp; done) | (simp; omega)) | (intros; trivial))); try cbv)
    | fail
  )
  all_goals (try simp only [nc] at *)
  all_goals (try simp (disch := (first | omega | (simp only [lnS, List.length_append, List.length_map, List.length_range, List.length_replicate]; omega))) only [nc, nct, w64_of, Int.toNat_natCast, Int.toNat_zero, List.length_map, rdS, at_agg, bofZ, bof1, bof0, List.getD_cons_zero, List.getD_cons_succ])
theorem dHb_no (g : Gr) (hg : Rd g) (h : ¬ GOk g) : Pure Try.prog γ false 25 [aGr g] (encRel 0 []) := by
  refine Pure.go (ty := ty) ty_eq mo Try.func25 rfl Try.ntmps25 Try.results25 Try.call25 (by simp) fun P C CQ D W F E hF => ?_
  cbv
  repeat' (first
    | (refine E.c (SCalls.of_le (viewOf_no g hg h) ?_ ?_); (· (cbv; (try simp only [nc] at *); first | done | (simp; done) | (simp (disch := (first | omega | (simp only [lnS, List.length_append, List.length_map, List.length_range, List.length_replicate]; omega))) only [nc, nct, w64_of, Int.toNat_natCast, Int.toNat_zero, List.length_map, rdS, at_agg, bofZ, bof1, bof0, List.getD_cons_zero, List.getD_cons_succ, implies_true, and_true, true_and, forall_const]; first | done | omega | (refine ⟨?_, ?_⟩ <;> omega)) | (simp (disch := (first | omega | (simp only [lnS, List.length_append, List.length_map, List.length_range, List.length_replicate]; omega))) [nc, nct, w64_of, Int.toNat_natCast, Int.toNat_zero, List.length_map, rdS, at_agg, bofZ, bof1, bof0, List.getD_cons_zero, List.getD_cons_succ]; done))); cbv)
    | (refine ⟨fun _ h_s => ?_, fun _ h_s => ?_⟩ <;> (cbv; (try simp only [nc] at *); try simp (disch := (first | omega | (simp only [lnS, List.length_append, List.length_map, List.length_range, List.length_replicate]; omega))) only [nc, nct, w64_of, Int.toNat_natCast, Int.toNat_zero, List.length_map, rdS, at_agg, bofZ, bof1, bof0, List.getD_cons_zero, List.getD_cons_succ, reduceCtorEq, Bool.not_true, Bool.not_false, decide_eq_true_eq, decide_eq_false_iff_not, Bool.not_eq_true, Bool.not_eq_false, Bool.not_eq_true', Bool.not_eq_false', ne_eq, Decidable.not_not, Int.not_le, Int.not_lt, beq_iff_eq] at h_s))
    | (refine hF ?_; intro _; clear hF)
    | (refine hF ?_; cbv; clear hF)
    | (refine ⟨fun _ => ?_, ?_⟩; (· ((try simp only [nc] at *); first | done | omega | exact ⟨by omega, rfl⟩ | (simp (disch := (first | omega | (simp only [lnS, List.length_append, List.length_map, List.length_range, List.length_replicate]; omega))) only [nc, nct, w64_of, Int.toNat_natCast, Int.toNat_zero, List.length_map, rdS, at_agg, bofZ, bof1, bof0, List.getD_cons_zero, List.getD_cons_succ]; first | done | omega | rfl | exact ⟨by omega, rfl⟩ | (simp; done) | (simp; omega)) | (intros; trivial))); try cbv)
    | fail
  )
  all_goals (try simp only [nc] at *)
  all_goals (try simp (disch := (first | omega | (simp only [lnS, List.length_append, List.length_map, List.length_range, List.length_replicate]; omega))) only [nc, nct, w64_of, Int.toNat_natCast, Int.toNat_zero, List.length_map, rdS, at_agg, bofZ, bof1, bof0, List.getD_cons_zero, List.getD_cons_succ])
  all_goals simp [us, LV.of]
theorem dSw_ok (g : Gr) (hg : Rd g) : Pure Try.prog γ false 24 [aGr g] (encRel (NG g) (rowsG g swF)) := by
  by_cases h : GOk g
  · have := dSw_yes (γ := γ) g hg h
    unfold NG rowsG
    rwa [if_pos h, if_pos h]
  · have := dSw_no (γ := γ) g hg h
    unfold NG rowsG
    rwa [if_neg h, if_neg h]
theorem dHb_ok (g : Gr) (hg : Rd g) : Pure Try.prog γ false 25 [aGr g] (encRel (NG g) (rowsG g hbF)) := by
  by_cases h : GOk g
  · have := dHb_yes (γ := γ) g hg h
    unfold NG rowsG
    rwa [if_pos h, if_pos h]
  · have := dHb_no (γ := γ) g hg h
    unfold NG rowsG
    rwa [if_neg h, if_neg h]
def readsF (V : Vw) (n : Nat) : BitVec 64 := maskTo (fun a => readsM (V.ev.getD a ev0)) n
def writesF (V : Vw) (n : Nat) : BitVec 64 := maskTo (fun a => writesM (V.ev.getD a ev0)) n
def ofM (loc : Int) (e : Ev) : Bool := !fenceM e && decide (e.loc = loc)
def ofF (loc : Int) (V : Vw) (n : Nat) : BitVec 64 := maskTo (fun a => ofM loc (V.ev.getD a ev0)) n
def leastM (o : Int) (e : Ev) : Bool := if o = 3 then acqM e else if o = 4 then relM e else if o = 6 then decide (e.order = 6) else if o = 2 then decide (e.order ≠ 1) else false
def leastF (o : Int) (V : Vw) (n : Nat) : BitVec 64 := maskTo (fun a => leastM o (V.ev.getD a ev0)) n
noncomputable def sequF (w : Int) (V : Vw) (n : Nat) : BitVec 64 := if 0 ≤ w ∧ w < n ∧ writesM (V.ev.getD w.toNat ev0) = true then seqM V n w.toNat else 0#64
theorem mask0 : ∀ n, maskTo (fun _ => false) n = 0#64
  | 0 => rfl
  | n + 1 => by rw [maskTo, if_neg (by simp), mask0 n]
theorem dReads_ok (g : Gr) (hg : Rd g) : Pure Try.prog γ false 9 [aGr g] (.u fun _ => maskG g readsF) := by
  by_cases h : GOk g
  · unfold maskG
    rw [if_pos h]
    have hV := viewG_wf h
    have hr := dmask1_ok (γ := γ) (viewG g) hV 45 (fun _ => aVw (viewG g)) _ (fun a ha => dreads_ok (viewG g) hV a ha)
    refine Pure.go (ty := ty) ty_eq mo Try.func9 rfl Try.ntmps9 Try.results9 Try.call9 (by simp) fun P C CQ D W F E hF => ?_
    cbv
    repeat' (first
      | (refine E.c (SCalls.of_le (hr) ?_ ?_); (· (cbv; (try simp only [nc] at *); first | done | (simp; done) | (simp (disch := (first | omega | (simp only [lnS, List.length_append, List.length_map, List.length_range, List.length_replicate]; omega))) only [nc, nct, w64_of, Int.toNat_natCast, Int.toNat_zero, List.length_map, rdS, at_agg, bofZ, bof1, bof0, List.getD_cons_zero, List.getD_cons_succ, implies_true, and_true, true_and, forall_const]; first | done | omega | (refine ⟨?_, ?_⟩ <;> omega)) | (simp (disch := (first | omega | (simp only [lnS, List.length_append, List.length_map, List.length_range, List.length_replicate]; omega))) [nc, nct, w64_of, Int.toNat_natCast, Int.toNat_zero, List.length_map, rdS, at_agg, bofZ, bof1, bof0, List.getD_cons_zero, List.getD_cons_succ]; done))); cbv)
      | (refine E.c (SCalls.of_le (viewOf_ok g hg h) ?_ ?_); (· (cbv; (try simp only [nc] at *); first | done | (simp; done) | (simp (disch := (first | omega | (simp only [lnS, List.length_append, List.length_map, List.length_range, List.length_replicate]; omega))) only [nc, nct, w64_of, Int.toNat_natCast, Int.toNat_zero, List.length_map, rdS, at_agg, bofZ, bof1, bof0, List.getD_cons_zero, List.getD_cons_succ, implies_true, and_true, true_and, forall_const]; first | done | omega | (refine ⟨?_, ?_⟩ <;> omega)) | (simp (disch := (first | omega | (simp only [lnS, List.length_append, List.length_map, List.length_range, List.length_replicate]; omega))) [nc, nct, w64_of, Int.toNat_natCast, Int.toNat_zero, List.length_map, rdS, at_agg, bofZ, bof1, bof0, List.getD_cons_zero, List.getD_cons_succ]; done))); cbv)
      | (refine ⟨fun _ h_s => ?_, fun _ h_s => ?_⟩ <;> (cbv; (try simp only [nc] at *); try simp (disch := (first | omega | (simp only [lnS, List.length_append, List.length_map, List.length_range, List.length_replicate]; omega))) only [nc, nct, w64_of, Int.toNat_natCast, Int.toNat_zero, List.length_map, rdS, at_agg, bofZ, bof1, bof0, List.getD_cons_zero, List.getD_cons_succ, reduceCtorEq, Bool.not_true, Bool.not_false, decide_eq_true_eq, decide_eq_false_iff_not, Bool.not_eq_true, Bool.not_eq_false, Bool.not_eq_true', Bool.not_eq_false', ne_eq, Decidable.not_not, Int.not_le, Int.not_lt, beq_iff_eq] at h_s))
      | (refine hF ?_; intro _; clear hF)
      | (refine hF ?_; cbv; clear hF)
      | (refine ⟨fun _ => ?_, ?_⟩; (· ((try simp only [nc] at *); first | done | omega | exact ⟨by omega, rfl⟩ | (simp (disch := (first | omega | (simp only [lnS, List.length_append, List.length_map, List.length_range, List.length_replicate]; omega))) only [nc, nct, w64_of, Int.toNat_natCast, Int.toNat_zero, List.length_map, rdS, at_agg, bofZ, bof1, bof0, List.getD_cons_zero, List.getD_cons_succ]; first | done | omega | rfl | exact ⟨by omega, rfl⟩ | (simp; done) | (simp; omega)) | (intros; trivial))); try cbv)
      | fail
    )
    all_goals (try simp only [nc] at *)
    all_goals (try simp (disch := (first | omega | (simp only [lnS, List.length_append, List.length_map, List.length_range, List.length_replicate]; omega))) only [nc, nct, w64_of, Int.toNat_natCast, Int.toNat_zero, List.length_map, rdS, at_agg, bofZ, bof1, bof0, List.getD_cons_zero, List.getD_cons_succ])
    all_goals rfl
  · unfold maskG
    rw [if_neg h]
    refine Pure.go (ty := ty) ty_eq mo Try.func9 rfl Try.ntmps9 Try.results9 Try.call9 (by simp) fun P C CQ D W F E hF => ?_
    cbv
    repeat' (first
      | (refine E.c (SCalls.of_le (viewOf_no g hg h) ?_ ?_); (· (cbv; (try simp only [nc] at *); first | done | (simp; done) | (simp (disch := (first | omega | (simp only [lnS, List.length_append, List.length_map, List.length_range, List.length_replicate]; omega))) only [nc, nct, w64_of, Int.toNat_natCast, Int.toNat_zero, List.length_map, rdS, at_agg, bofZ, bof1, bof0, List.getD_cons_zero, List.getD_cons_succ, implies_true, and_true, true_and, forall_const]; first | done | omega | (refine ⟨?_, ?_⟩ <;> omega)) | (simp (disch := (first | omega | (simp only [lnS, List.length_append, List.length_map, List.length_range, List.length_replicate]; omega))) [nc, nct, w64_of, Int.toNat_natCast, Int.toNat_zero, List.length_map, rdS, at_agg, bofZ, bof1, bof0, List.getD_cons_zero, List.getD_cons_succ]; done))); cbv)
      | (refine ⟨fun _ h_s => ?_, fun _ h_s => ?_⟩ <;> (cbv; (try simp only [nc] at *); try simp (disch := (first | omega | (simp only [lnS, List.length_append, List.length_map, List.length_range, List.length_replicate]; omega))) only [nc, nct, w64_of, Int.toNat_natCast, Int.toNat_zero, List.length_map, rdS, at_agg, bofZ, bof1, bof0, List.getD_cons_zero, List.getD_cons_succ, reduceCtorEq, Bool.not_true, Bool.not_false, decide_eq_true_eq, decide_eq_false_iff_not, Bool.not_eq_true, Bool.not_eq_false, Bool.not_eq_true', Bool.not_eq_false', ne_eq, Decidable.not_not, Int.not_le, Int.not_lt, beq_iff_eq] at h_s))
      | (refine hF ?_; intro _; clear hF)
      | (refine hF ?_; cbv; clear hF)
      | (refine ⟨fun _ => ?_, ?_⟩; (· ((try simp only [nc] at *); first | done | omega | exact ⟨by omega, rfl⟩ | (simp (disch := (first | omega | (simp only [lnS, List.length_append, List.length_map, List.length_range, List.length_replicate]; omega))) only [nc, nct, w64_of, Int.toNat_natCast, Int.toNat_zero, List.length_map, rdS, at_agg, bofZ, bof1, bof0, List.getD_cons_zero, List.getD_cons_succ]; first | done | omega | rfl | exact ⟨by omega, rfl⟩ | (simp; done) | (simp; omega)) | (intros; trivial))); try cbv)
      | fail
    )
    all_goals (try simp only [nc] at *)
    all_goals (try simp (disch := (first | omega | (simp only [lnS, List.length_append, List.length_map, List.length_range, List.length_replicate]; omega))) only [nc, nct, w64_of, Int.toNat_natCast, Int.toNat_zero, List.length_map, rdS, at_agg, bofZ, bof1, bof0, List.getD_cons_zero, List.getD_cons_succ])
theorem dWrites_ok (g : Gr) (hg : Rd g) : Pure Try.prog γ false 11 [aGr g] (.u fun _ => maskG g writesF) := by
  by_cases h : GOk g
  · unfold maskG
    rw [if_pos h]
    have hV := viewG_wf h
    have hr := dmask1_ok (γ := γ) (viewG g) hV 47 (fun _ => aVw (viewG g)) _ (fun a ha => dwrites_ok (viewG g) hV a ha)
    refine Pure.go (ty := ty) ty_eq mo Try.func11 rfl Try.ntmps11 Try.results11 Try.call11 (by simp) fun P C CQ D W F E hF => ?_
    cbv
    repeat' (first
      | (refine E.c (SCalls.of_le (hr) ?_ ?_); (· (cbv; (try simp only [nc] at *); first | done | (simp; done) | (simp (disch := (first | omega | (simp only [lnS, List.length_append, List.length_map, List.length_range, List.length_replicate]; omega))) only [nc, nct, w64_of, Int.toNat_natCast, Int.toNat_zero, List.length_map, rdS, at_agg, bofZ, bof1, bof0, List.getD_cons_zero, List.getD_cons_succ, implies_true, and_true, true_and, forall_const]; first | done | omega | (refine ⟨?_, ?_⟩ <;> omega)) | (simp (disch := (first | omega | (simp only [lnS, List.length_append, List.length_map, List.length_range, List.length_replicate]; omega))) [nc, nct, w64_of, Int.toNat_natCast, Int.toNat_zero, List.length_map, rdS, at_agg, bofZ, bof1, bof0, List.getD_cons_zero, List.getD_cons_succ]; done))); cbv)
      | (refine E.c (SCalls.of_le (viewOf_ok g hg h) ?_ ?_); (· (cbv; (try simp only [nc] at *); first | done | (simp; done) | (simp (disch := (first | omega | (simp only [lnS, List.length_append, List.length_map, List.length_range, List.length_replicate]; omega))) only [nc, nct, w64_of, Int.toNat_natCast, Int.toNat_zero, List.length_map, rdS, at_agg, bofZ, bof1, bof0, List.getD_cons_zero, List.getD_cons_succ, implies_true, and_true, true_and, forall_const]; first | done | omega | (refine ⟨?_, ?_⟩ <;> omega)) | (simp (disch := (first | omega | (simp only [lnS, List.length_append, List.length_map, List.length_range, List.length_replicate]; omega))) [nc, nct, w64_of, Int.toNat_natCast, Int.toNat_zero, List.length_map, rdS, at_agg, bofZ, bof1, bof0, List.getD_cons_zero, List.getD_cons_succ]; done))); cbv)
      | (refine ⟨fun _ h_s => ?_, fun _ h_s => ?_⟩ <;> (cbv; (try simp only [nc] at *); try simp (disch := (first | omega | (simp only [lnS, List.length_append, List.length_map, List.length_range, List.length_replicate]; omega))) only [nc, nct, w64_of, Int.toNat_natCast, Int.toNat_zero, List.length_map, rdS, at_agg, bofZ, bof1, bof0, List.getD_cons_zero, List.getD_cons_succ, reduceCtorEq, Bool.not_true, Bool.not_false, decide_eq_true_eq, decide_eq_false_iff_not, Bool.not_eq_true, Bool.not_eq_false, Bool.not_eq_true', Bool.not_eq_false', ne_eq, Decidable.not_not, Int.not_le, Int.not_lt, beq_iff_eq] at h_s))
      | (refine hF ?_; intro _; clear hF)
      | (refine hF ?_; cbv; clear hF)
      | (refine ⟨fun _ => ?_, ?_⟩; (· ((try simp only [nc] at *); first | done | omega | exact ⟨by omega, rfl⟩ | (simp (disch := (first | omega | (simp only [lnS, List.length_append, List.length_map, List.length_range, List.length_replicate]; omega))) only [nc, nct, w64_of, Int.toNat_natCast, Int.toNat_zero, List.length_map, rdS, at_agg, bofZ, bof1, bof0, List.getD_cons_zero, List.getD_cons_succ]; first | done | omega | rfl | exact ⟨by omega, rfl⟩ | (simp; done) | (simp; omega)) | (intros; trivial))); try cbv)
      | fail
    )
    all_goals (try simp only [nc] at *)
    all_goals (try simp (disch := (first | omega | (simp only [lnS, List.length_append, List.length_map, List.length_range, List.length_replicate]; omega))) only [nc, nct, w64_of, Int.toNat_natCast, Int.toNat_zero, List.length_map, rdS, at_agg, bofZ, bof1, bof0, List.getD_cons_zero, List.getD_cons_succ])
    all_goals rfl
  · unfold maskG
    rw [if_neg h]
    refine Pure.go (ty := ty) ty_eq mo Try.func11 rfl Try.ntmps11 Try.results11 Try.call11 (by simp) fun P C CQ D W F E hF => ?_
    cbv
    repeat' (first
      | (refine E.c (SCalls.of_le (viewOf_no g hg h) ?_ ?_); (· (cbv; (try simp only [nc] at *); first | done | (simp; done) | (simp (disch := (first | omega | (simp only [lnS, List.length_append, List.length_map, List.length_range, List.length_replicate]; omega))) only [nc, nct, w64_of, Int.toNat_natCast, Int.toNat_zero, List.length_map, rdS, at_agg, bofZ, bof1, bof0, List.getD_cons_zero, List.getD_cons_succ, implies_true, and_true, true_and, forall_const]; first | done | omega | (refine ⟨?_, ?_⟩ <;> omega)) | (simp (disch := (first | omega | (simp only [lnS, List.length_append, List.length_map, List.length_range, List.length_replicate]; omega))) [nc, nct, w64_of, Int.toNat_natCast, Int.toNat_zero, List.length_map, rdS, at_agg, bofZ, bof1, bof0, List.getD_cons_zero, List.getD_cons_succ]; done))); cbv)
      | (refine ⟨fun _ h_s => ?_, fun _ h_s => ?_⟩ <;> (cbv; (try simp only [nc] at *); try simp (disch := (first | omega | (simp only [lnS, List.length_append, List.length_map, List.length_range, List.length_replicate]; omega))) only [nc, nct, w64_of, Int.toNat_natCast, Int.toNat_zero, List.length_map, rdS, at_agg, bofZ, bof1, bof0, List.getD_cons_zero, List.getD_cons_succ, reduceCtorEq, Bool.not_true, Bool.not_false, decide_eq_true_eq, decide_eq_false_iff_not, Bool.not_eq_true, Bool.not_eq_false, Bool.not_eq_true', Bool.not_eq_false', ne_eq, Decidable.not_not, Int.not_le, Int.not_lt, beq_iff_eq] at h_s))
      | (refine hF ?_; intro _; clear hF)
      | (refine hF ?_; cbv; clear hF)
      | (refine ⟨fun _ => ?_, ?_⟩; (· ((try simp only [nc] at *); first | done | omega | exact ⟨by omega, rfl⟩ | (simp (disch := (first | omega | (simp only [lnS, List.length_append, List.length_map, List.length_range, List.length_replicate]; omega))) only [nc, nct, w64_of, Int.toNat_natCast, Int.toNat_zero, List.length_map, rdS, at_agg, bofZ, bof1, bof0, List.getD_cons_zero, List.getD_cons_succ]; first | done | omega | rfl | exact ⟨by omega, rfl⟩ | (simp; done) | (simp; omega)) | (intros; trivial))); try cbv)
      | fail
    )
    all_goals (try simp only [nc] at *)
    all_goals (try simp (disch := (first | omega | (simp only [lnS, List.length_append, List.length_map, List.length_range, List.length_replicate]; omega))) only [nc, nct, w64_of, Int.toNat_natCast, Int.toNat_zero, List.length_map, rdS, at_agg, bofZ, bof1, bof0, List.getD_cons_zero, List.getD_cons_succ])
end Go.AL.Rl

namespace Go.AL.Rl
open Go Go.AL Go.Proofs
set_option maxRecDepth 100000
set_option maxHeartbeats 1600000
variable {γ : Nat → Option AV}

theorem of1_ok (V : Vw) {n : Nat} (hV : Wf V n) (loc : Int) (a : Nat) (ha : a < n) : Pure Try.prog γ false 48 [.i fun _ => (a : Int), .vp (fun _ => pVw V) 0, .vp (fun _ => .i fun _ => loc) 0] (.b fun _ => ofM loc (V.ev.getD a ev0)) := by
  have h1 := hV.ev
  refine Pure.go (ty := ty) ty_eq mo Try.func48 rfl Try.ntmps48 Try.results48 Try.call48 (by simp) fun P C CQ D W F E hF => ?_
  cbv
  repeat' (first
    | (refine E.c (SCalls.of_le (dfence_ok V hV a ha) ?_ ?_); (· (cbv; (try simp only [nc] at *); first | done | (simp; done) | (simp (disch := (first | omega | (simp only [lnS, List.length_append, List.length_map, List.length_range, List.length_replicate]; omega))) only [nc, nct, w64_of, Int.toNat_natCast, Int.toNat_zero, List.length_map, rdS, at_agg, bofZ, bof1, bof0, List.getD_cons_zero, List.getD_cons_succ, implies_true, and_true, true_and, forall_const]; first | done | omega | (refine ⟨?_, ?_⟩ <;> omega)) | (simp (disch := (first | omega | (simp only [lnS, List.length_append, List.length_map, List.length_range, List.length_replicate]; omega))) [nc, nct, w64_of, Int.toNat_natCast, Int.toNat_zero, List.length_map, rdS, at_agg, bofZ, bof1, bof0, List.getD_cons_zero, List.getD_cons_succ]; done))); cbv)
    | (refine E.q (QCalls.of_le (dfence_ok V hV a ha) ?_ ?_); (· (cbv; (try simp only [nc] at *); first | done | (simp; done) | (simp (disch := (first | omega | (simp only [lnS, List.length_append, List.length_map, List.length_range, List.length_replicate]; omega))) only [nc, nct, w64_of, Int.toNat_natCast, Int.toNat_zero, List.length_map, rdS, at_agg, bofZ, bof1, bof0, List.getD_cons_zero, List.getD_cons_succ, implies_true, and_true, true_and, forall_const]; first | done | omega | (refine ⟨?_, ?_⟩ <;> omega)) | (simp (disch := (first | omega | (simp only [lnS, List.length_append, List.length_map, List.length_range, List.length_replicate]; omega))) [nc, nct, w64_of, Int.toNat_natCast, Int.toNat_zero, List.length_map, rdS, at_agg, bofZ, bof1, bof0, List.getD_cons_zero, List.getD_cons_succ]; done))); cbv)
    | (refine ⟨fun _ h_s => ?_, fun _ h_s => ?_⟩ <;> (cbv; (try simp only [nc] at *); try simp (disch := (first | omega | (simp only [lnS, List.length_append, List.length_map, List.length_range, List.length_replicate]; omega))) only [nc, nct, w64_of, Int.toNat_natCast, Int.toNat_zero, List.length_map, rdS, at_agg, bofZ, bof1, bof0, List.getD_cons_zero, List.getD_cons_succ, reduceCtorEq, Bool.not_true, Bool.not_false, decide_eq_true_eq, decide_eq_false_iff_not, Bool.not_eq_true, Bool.not_eq_false, Bool.not_eq_true', Bool.not_eq_false', ne_eq, Decidable.not_not, Int.not_le, Int.not_lt, beq_iff_eq] at h_s))
    | (refine hF ?_; intro _; clear hF)
    | (refine hF ?_; cbv; clear hF)
    | (refine ⟨fun _ => ?_, ?_⟩; (· ((try simp only [nc] at *); first | done | omega | exact ⟨by omega, rfl⟩ | (simp (disch := (first | omega | (simp only [lnS, List.length_append, List.length_map, List.length_range, List.length_replicate]; omega))) only [nc, nct, w64_of, Int.toNat_natCast, Int.toNat_zero, List.length_map, rdS, at_agg, bofZ, bof1, bof0, List.getD_cons_zero, List.getD_cons_succ]; first | done | omega | rfl | exact ⟨by omega, rfl⟩ | (simp; done) | (simp; omega)) | (intros; trivial))); (try (simp only [nc] at *)); (try simp (disch := (first | omega | (simp only [lnS, List.length_append, List.length_map, List.length_range, List.length_replicate]; omega))) only [nc, nct, w64_of, Int.toNat_natCast, Int.toNat_zero, List.length_map, rdS, at_agg, bofZ, bof1, bof0, List.getD_cons_zero, List.getD_cons_succ]); (try cbv))
    | (refine E.d 14 (by decide +kernel) ?_; cbv; (fail_if_success guard_target =~ False))
    | fail
  )
  all_goals (try simp only [nc] at *)
  all_goals (try simp (disch := (first | omega | (simp only [lnS, List.length_append, List.length_map, List.length_range, List.length_replicate]; omega))) only [nc, nct, w64_of, Int.toNat_natCast, Int.toNat_zero, List.length_map, rdS, at_agg, bofZ, bof1, bof0, List.getD_cons_zero, List.getD_cons_succ])
  all_goals simp_all [ofM]
theorem least1_ok (V : Vw) {n : Nat} (hV : Wf V n) (a : Nat) (ha : a < n) : Pure Try.prog γ false 52 [.i fun _ => (a : Int), .vp (fun _ => pVw V) 0] (.b fun _ => decide ((V.ev.getD a ev0).order = 6)) := by
  have h1 := hV.ev
  refine Pure.go (ty := ty) ty_eq mo Try.func52 rfl Try.ntmps52 Try.results52 Try.call52 (by simp) fun P C CQ D W F E hF => ?_
  cbv
  repeat' (first
    | (refine ⟨fun _ h_s => ?_, fun _ h_s => ?_⟩ <;> (cbv; (try simp only [nc] at *); try simp (disch := (first | omega | (simp only [lnS, List.length_append, List.length_map, List.length_range, List.length_replicate]; omega))) only [nc, nct, w64_of, Int.toNat_natCast, Int.toNat_zero, List.length_map, rdS, at_agg, bofZ, bof1, bof0, List.getD_cons_zero, List.getD_cons_succ, reduceCtorEq, Bool.not_true, Bool.not_false, decide_eq_true_eq, decide_eq_false_iff_not, Bool.not_eq_true, Bool.not_eq_false, Bool.not_eq_true', Bool.not_eq_false', ne_eq, Decidable.not_not, Int.not_le, Int.not_lt, beq_iff_eq] at h_s))
    | (refine hF ?_; intro _; clear hF)
    | (refine hF ?_; cbv; clear hF)
    | (refine ⟨fun _ => ?_, ?_⟩; (· ((try simp only [nc] at *); first | done | omega | exact ⟨by omega, rfl⟩ | (simp (disch := (first | omega | (simp only [lnS, List.length_append, List.length_map, List.length_range, List.length_replicate]; omega))) only [nc, nct, w64_of, Int.toNat_natCast, Int.toNat_zero, List.length_map, rdS, at_agg, bofZ, bof1, bof0, List.getD_cons_zero, List.getD_cons_succ]; first | done | omega | rfl | exact ⟨by omega, rfl⟩ | (simp; done) | (simp; omega)) | (intros; trivial))); (try (simp only [nc] at *)); (try simp (disch := (first | omega | (simp only [lnS, List.length_append, List.length_map, List.length_range, List.length_replicate]; omega))) only [nc, nct, w64_of, Int.toNat_natCast, Int.toNat_zero, List.length_map, rdS, at_agg, bofZ, bof1, bof0, List.getD_cons_zero, List.getD_cons_succ]); (try cbv))
    | fail
  )
  all_goals (try simp only [nc] at *)
  all_goals (try simp (disch := (first | omega | (simp only [lnS, List.length_append, List.length_map, List.length_range, List.length_replicate]; omega))) only [nc, nct, w64_of, Int.toNat_natCast, Int.toNat_zero, List.length_map, rdS, at_agg, bofZ, bof1, bof0, List.getD_cons_zero, List.getD_cons_succ])
theorem least2_ok (V : Vw) {n : Nat} (hV : Wf V n) (a : Nat) (ha : a < n) : Pure Try.prog γ false 53 [.i fun _ => (a : Int), .vp (fun _ => pVw V) 0] (.b fun _ => decide ((V.ev.getD a ev0).order ≠ 1)) := by
  have h1 := hV.ev
  refine Pure.go (ty := ty) ty_eq mo Try.func53 rfl Try.ntmps53 Try.results53 Try.call53 (by simp) fun P C CQ D W F E hF => ?_
  cbv
  repeat' (first
    | (refine ⟨fun _ h_s => ?_, fun _ h_s => ?_⟩ <;> (cbv; (try simp only [nc] at *); try simp (disch := (first | omega | (simp only [lnS, List.length_append, List.length_map, List.length_range, List.length_replicate]; omega))) only [nc, nct, w64_of, Int.toNat_natCast, Int.toNat_zero, List.length_map, rdS, at_agg, bofZ, bof1, bof0, List.getD_cons_zero, List.getD_cons_succ, reduceCtorEq, Bool.not_true, Bool.not_false, decide_eq_true_eq, decide_eq_false_iff_not, Bool.not_eq_true, Bool.not_eq_false, Bool.not_eq_true', Bool.not_eq_false', ne_eq, Decidable.not_not, Int.not_le, Int.not_lt, beq_iff_eq] at h_s))
    | (refine hF ?_; intro _; clear hF)
    | (refine hF ?_; cbv; clear hF)
    | (refine ⟨fun _ => ?_, ?_⟩; (· ((try simp only [nc] at *); first | done | omega | exact ⟨by omega, rfl⟩ | (simp (disch := (first | omega | (simp only [lnS, List.length_append, List.length_map, List.length_range, List.length_replicate]; omega))) only [nc, nct, w64_of, Int.toNat_natCast, Int.toNat_zero, List.length_map, rdS, at_agg, bofZ, bof1, bof0, List.getD_cons_zero, List.getD_cons_succ]; first | done | omega | rfl | exact ⟨by omega, rfl⟩ | (simp; done) | (simp; omega)) | (intros; trivial))); (try (simp only [nc] at *)); (try simp (disch := (first | omega | (simp only [lnS, List.length_append, List.length_map, List.length_range, List.length_replicate]; omega))) only [nc, nct, w64_of, Int.toNat_natCast, Int.toNat_zero, List.length_map, rdS, at_agg, bofZ, bof1, bof0, List.getD_cons_zero, List.getD_cons_succ]); (try cbv))
    | fail
  )
  all_goals (try simp only [nc] at *)
  all_goals (try simp (disch := (first | omega | (simp only [lnS, List.length_append, List.length_map, List.length_range, List.length_replicate]; omega))) only [nc, nct, w64_of, Int.toNat_natCast, Int.toNat_zero, List.length_map, rdS, at_agg, bofZ, bof1, bof0, List.getD_cons_zero, List.getD_cons_succ])
theorem dOf_ok (g : Gr) (hg : Rd g) (loc : Int) : Pure Try.prog γ false 13 [aGr g, .i fun _ => loc] (.u fun _ => maskG g (ofF loc)) := by
  by_cases h : GOk g
  · unfold maskG
    rw [if_pos h]
    have hV := viewG_wf h
    have hr := dmask3_ok (γ := γ) (viewG g) hV 48 (fun _ => pVw (viewG g)) (fun _ => .i fun _ => loc) _ (fun a ha => of1_ok (viewG g) hV loc a ha)
    refine Pure.go (ty := ty) ty_eq mo Try.func13 rfl Try.ntmps13 Try.results13 Try.call13 (by simp) fun P C CQ D W F E hF => ?_
    cbv
    repeat' (first
      | (refine E.c (SCalls.of_bare (hr) rfl ?_ ?_); (· (cbv; (try simp only [nc] at *); first | done | (simp; done) | (simp (disch := (first | omega | (simp only [lnS, List.length_append, List.length_map, List.length_range, List.length_replicate]; omega))) only [nc, nct, w64_of, Int.toNat_natCast, Int.toNat_zero, List.length_map, rdS, at_agg, bofZ, bof1, bof0, List.getD_cons_zero, List.getD_cons_succ, implies_true, and_true, true_and, forall_const]; first | done | omega | (refine ⟨?_, ?_⟩ <;> omega)) | (simp (disch := (first | omega | (simp only [lnS, List.length_append, List.length_map, List.length_range, List.length_replicate]; omega))) [nc, nct, w64_of, Int.toNat_natCast, Int.toNat_zero, List.length_map, rdS, at_agg, bofZ, bof1, bof0, List.getD_cons_zero, List.getD_cons_succ]; done))); cbv)
      | (refine E.q (QCalls.of_bare (hr) rfl ?_ ?_); (· (cbv; (try simp only [nc] at *); first | done | (simp; done) | (simp (disch := (first | omega | (simp only [lnS, List.length_append, List.length_map, List.length_range, List.length_replicate]; omega))) only [nc, nct, w64_of, Int.toNat_natCast, Int.toNat_zero, List.length_map, rdS, at_agg, bofZ, bof1, bof0, List.getD_cons_zero, List.getD_cons_succ, implies_true, and_true, true_and, forall_const]; first | done | omega | (refine ⟨?_, ?_⟩ <;> omega)) | (simp (disch := (first | omega | (simp only [lnS, List.length_append, List.length_map, List.length_range, List.length_replicate]; omega))) [nc, nct, w64_of, Int.toNat_natCast, Int.toNat_zero, List.length_map, rdS, at_agg, bofZ, bof1, bof0, List.getD_cons_zero, List.getD_cons_succ]; done))); cbv)
      | (refine E.c (SCalls.of_le (viewOf_ok g hg h) ?_ ?_); (· (cbv; (try simp only [nc] at *); first | done | (simp; done) | (simp (disch := (first | omega | (simp only [lnS, List.length_append, List.length_map, List.length_range, List.length_replicate]; omega))) only [nc, nct, w64_of, Int.toNat_natCast, Int.toNat_zero, List.length_map, rdS, at_agg, bofZ, bof1, bof0, List.getD_cons_zero, List.getD_cons_succ, implies_true, and_true, true_and, forall_const]; first | done | omega | (refine ⟨?_, ?_⟩ <;> omega)) | (simp (disch := (first | omega | (simp only [lnS, List.length_append, List.length_map, List.length_range, List.length_replicate]; omega))) [nc, nct, w64_of, Int.toNat_natCast, Int.toNat_zero, List.length_map, rdS, at_agg, bofZ, bof1, bof0, List.getD_cons_zero, List.getD_cons_succ]; done))); cbv)
      | (refine ⟨fun _ h_s => ?_, fun _ h_s => ?_⟩ <;> (cbv; (try simp only [nc] at *); try simp (disch := (first | omega | (simp only [lnS, List.length_append, List.length_map, List.length_range, List.length_replicate]; omega))) only [nc, nct, w64_of, Int.toNat_natCast, Int.toNat_zero, List.length_map, rdS, at_agg, bofZ, bof1, bof0, List.getD_cons_zero, List.getD_cons_succ, reduceCtorEq, Bool.not_true, Bool.not_false, decide_eq_true_eq, decide_eq_false_iff_not, Bool.not_eq_true, Bool.not_eq_false, Bool.not_eq_true', Bool.not_eq_false', ne_eq, Decidable.not_not, Int.not_le, Int.not_lt, beq_iff_eq] at h_s))
      | (refine hF ?_; intro _; clear hF)
      | (refine hF ?_; cbv; clear hF)
      | (refine ⟨fun _ => ?_, ?_⟩; (· ((try simp only [nc] at *); first | done | omega | exact ⟨by omega, rfl⟩ | (simp (disch := (first | omega | (simp only [lnS, List.length_append, List.length_map, List.length_range, List.length_replicate]; omega))) only [nc, nct, w64_of, Int.toNat_natCast, Int.toNat_zero, List.length_map, rdS, at_agg, bofZ, bof1, bof0, List.getD_cons_zero, List.getD_cons_succ]; first | done | omega | rfl | exact ⟨by omega, rfl⟩ | (simp; done) | (simp; omega)) | (intros; trivial))); try cbv)
      | fail
    )
    all_goals (try simp only [nc] at *)
    all_goals (try simp (disch := (first | omega | (simp only [lnS, List.length_append, List.length_map, List.length_range, List.length_replicate]; omega))) only [nc, nct, w64_of, Int.toNat_natCast, Int.toNat_zero, List.length_map, rdS, at_agg, bofZ, bof1, bof0, List.getD_cons_zero, List.getD_cons_succ])
    all_goals rfl
  · unfold maskG
    rw [if_neg h]
    refine Pure.go (ty := ty) ty_eq mo Try.func13 rfl Try.ntmps13 Try.results13 Try.call13 (by simp) fun P C CQ D W F E hF => ?_
    cbv
    repeat' (first
      | (refine E.c (SCalls.of_le (viewOf_no g hg h) ?_ ?_); (· (cbv; (try simp only [nc] at *); first | done | (simp; done) | (simp (disch := (first | omega | (simp only [lnS, List.length_append, List.length_map, List.length_range, List.length_replicate]; omega))) only [nc, nct, w64_of, Int.toNat_natCast, Int.toNat_zero, List.length_map, rdS, at_agg, bofZ, bof1, bof0, List.getD_cons_zero, List.getD_cons_succ, implies_true, and_true, true_and, forall_const]; first | done | omega | (refine ⟨?_, ?_⟩ <;> omega)) | (simp (disch := (first | omega | (simp only [lnS, List.length_append, List.length_map, List.length_range, List.length_replicate]; omega))) [nc, nct, w64_of, Int.toNat_natCast, Int.toNat_zero, List.length_map, rdS, at_agg, bofZ, bof1, bof0, List.getD_cons_zero, List.getD_cons_succ]; done))); cbv)
      | (refine ⟨fun _ h_s => ?_, fun _ h_s => ?_⟩ <;> (cbv; (try simp only [nc] at *); try simp (disch := (first | omega | (simp only [lnS, List.length_append, List.length_map, List.length_range, List.length_replicate]; omega))) only [nc, nct, w64_of, Int.toNat_natCast, Int.toNat_zero, List.length_map, rdS, at_agg, bofZ, bof1, bof0, List.getD_cons_zero, List.getD_cons_succ, reduceCtorEq, Bool.not_true, Bool.not_false, decide_eq_true_eq, decide_eq_false_iff_not, Bool.not_eq_true, Bool.not_eq_false, Bool.not_eq_true', Bool.not_eq_false', ne_eq, Decidable.not_not, Int.not_le, Int.not_lt, beq_iff_eq] at h_s))
      | (refine hF ?_; intro _; clear hF)
      | (refine hF ?_; cbv; clear hF)
      | (refine ⟨fun _ => ?_, ?_⟩; (· ((try simp only [nc] at *); first | done | omega | exact ⟨by omega, rfl⟩ | (simp (disch := (first | omega | (simp only [lnS, List.length_append, List.length_map, List.length_range, List.length_replicate]; omega))) only [nc, nct, w64_of, Int.toNat_natCast, Int.toNat_zero, List.length_map, rdS, at_agg, bofZ, bof1, bof0, List.getD_cons_zero, List.getD_cons_succ]; first | done | omega | rfl | exact ⟨by omega, rfl⟩ | (simp; done) | (simp; omega)) | (intros; trivial))); try cbv)
      | fail
    )
    all_goals (try simp only [nc] at *)
    all_goals (try simp (disch := (first | omega | (simp only [lnS, List.length_append, List.length_map, List.length_range, List.length_replicate]; omega))) only [nc, nct, w64_of, Int.toNat_natCast, Int.toNat_zero, List.length_map, rdS, at_agg, bofZ, bof1, bof0, List.getD_cons_zero, List.getD_cons_succ])
theorem dLeast_ok (g : Gr) (hg : Rd g) (o : Int) : Pure Try.prog γ false 15 [aGr g, .i fun _ => o] (.u fun _ => maskG g (leastF o)) := by
  by_cases h : GOk g
  · unfold maskG
    rw [if_pos h]
    have hV := viewG_wf h
    have r1 := dmask1_ok (γ := γ) (viewG g) hV 50 (fun _ => aVw (viewG g)) _ (fun a ha => dacq_ok (viewG g) hV a ha)
    have r2 := dmask1_ok (γ := γ) (viewG g) hV 51 (fun _ => aVw (viewG g)) _ (fun a ha => drel_ok (viewG g) hV a ha)
    have r3 := dmask2_ok (γ := γ) (viewG g) hV 52 (fun _ => pVw (viewG g)) _ (fun a ha => least1_ok (viewG g) hV a ha)
    have r4 := dmask2_ok (γ := γ) (viewG g) hV 53 (fun _ => pVw (viewG g)) _ (fun a ha => least2_ok (viewG g) hV a ha)
    refine Pure.go (ty := ty) ty_eq mo Try.func15 rfl Try.ntmps15 Try.results15 Try.call15 (by simp) fun P C CQ D W F E hF => ?_
    cbv
    repeat' (first
      | (refine E.c (SCalls.of_bare (r4) rfl ?_ ?_); (· (cbv; (try simp only [nc] at *); first | done | (simp; done) | (simp (disch := (first | omega | (simp only [lnS, List.length_append, List.length_map, List.length_range, List.length_replicate]; omega))) only [nc, nct, w64_of, Int.toNat_natCast, Int.toNat_zero, List.length_map, rdS, at_agg, bofZ, bof1, bof0, List.getD_cons_zero, List.getD_cons_succ, implies_true, and_true, true_and, forall_const]; first | done | omega | (refine ⟨?_, ?_⟩ <;> omega)) | (simp (disch := (first | omega | (simp only [lnS, List.length_append, List.length_map, List.length_range, List.length_replicate]; omega))) [nc, nct, w64_of, Int.toNat_natCast, Int.toNat_zero, List.length_map, rdS, at_agg, bofZ, bof1, bof0, List.getD_cons_zero, List.getD_cons_succ]; done))); cbv)
      | (refine E.q (QCalls.of_bare (r4) rfl ?_ ?_); (· (cbv; (try simp only [nc] at *); first | done | (simp; done) | (simp (disch := (first | omega | (simp only [lnS, List.length_append, List.length_map, List.length_range, List.length_replicate]; omega))) only [nc, nct, w64_of, Int.toNat_natCast, Int.toNat_zero, List.length_map, rdS, at_agg, bofZ, bof1, bof0, List.getD_cons_zero, List.getD_cons_succ, implies_true, and_true, true_and, forall_const]; first | done | omega | (refine ⟨?_, ?_⟩ <;> omega)) | (simp (disch := (first | omega | (simp only [lnS, List.length_append, List.length_map, List.length_range, List.length_replicate]; omega))) [nc, nct, w64_of, Int.toNat_natCast, Int.toNat_zero, List.length_map, rdS, at_agg, bofZ, bof1, bof0, List.getD_cons_zero, List.getD_cons_succ]; done))); cbv)
      | (refine E.c (SCalls.of_bare (r3) rfl ?_ ?_); (· (cbv; (try simp only [nc] at *); first | done | (simp; done) | (simp (disch := (first | omega | (simp only [lnS, List.length_append, List.length_map, List.length_range, List.length_replicate]; omega))) only [nc, nct, w64_of, Int.toNat_natCast, Int.toNat_zero, List.length_map, rdS, at_agg, bofZ, bof1, bof0, List.getD_cons_zero, List.getD_cons_succ, implies_true, and_true, true_and, forall_const]; first | done | omega | (refine ⟨?_, ?_⟩ <;> omega)) | (simp (disch := (first | omega | (simp only [lnS, List.length_append, List.length_map, List.length_range, List.length_replicate]; omega))) [nc, nct, w64_of, Int.toNat_natCast, Int.toNat_zero, List.length_map, rdS, at_agg, bofZ, bof1, bof0, List.getD_cons_zero, List.getD_cons_succ]; done))); cbv)
      | (refine E.q (QCalls.of_bare (r3) rfl ?_ ?_); (· (cbv; (try simp only [nc] at *); first | done | (simp; done) | (simp (disch := (first | omega | (simp only [lnS, List.length_append, List.length_map, List.length_range, List.length_replicate]; omega))) only [nc, nct, w64_of, Int.toNat_natCast, Int.toNat_zero, List.length_map, rdS, at_agg, bofZ, bof1, bof0, List.getD_cons_zero, List.getD_cons_succ, implies_true, and_true, true_and, forall_const]; first | done | omega | (refine ⟨?_, ?_⟩ <;> omega)) | (simp (disch := (first | omega | (simp only [lnS, List.length_append, List.length_map, List.length_range, List.length_replicate]; omega))) [nc, nct, w64_of, Int.toNat_natCast, Int.toNat_zero, List.length_map, rdS, at_agg, bofZ, bof1, bof0, List.getD_cons_zero, List.getD_cons_succ]; done))); cbv)
      | (refine E.c (SCalls.of_bare (r2) rfl ?_ ?_); (· (cbv; (try simp only [nc] at *); first | done | (simp; done) | (simp (disch := (first | omega | (simp only [lnS, List.length_append, List.length_map, List.length_range, List.length_replicate]; omega))) only [nc, nct, w64_of, Int.toNat_natCast, Int.toNat_zero, List.length_map, rdS, at_agg, bofZ, bof1, bof0, List.getD_cons_zero, List.getD_cons_succ, implies_true, and_true, true_and, forall_const]; first | done | omega | (refine ⟨?_, ?_⟩ <;> omega)) | (simp (disch := (first | omega | (simp only [lnS, List.length_append, List.length_map, List.length_range, List.length_replicate]; omega))) [nc, nct, w64_of, Int.toNat_natCast, Int.toNat_zero, List.length_map, rdS, at_agg, bofZ, bof1, bof0, List.getD_cons_zero, List.getD_cons_succ]; done))); cbv)
      | (refine E.q (QCalls.of_bare (r2) rfl ?_ ?_); (· (cbv; (try simp only [nc] at *); first | done | (simp; done) | (simp (disch := (first | omega | (simp only [lnS, List.length_append, List.length_map, List.length_range, List.length_replicate]; omega))) only [nc, nct, w64_of, Int.toNat_natCast, Int.toNat_zero, List.length_map, rdS, at_agg, bofZ, bof1, bof0, List.getD_cons_zero, List.getD_cons_succ, implies_true, and_true, true_and, forall_const]; first | done | omega | (refine ⟨?_, ?_⟩ <;> omega)) | (simp (disch := (first | omega | (simp only [lnS, List.length_append, List.length_map, List.length_range, List.length_replicate]; omega))) [nc, nct, w64_of, Int.toNat_natCast, Int.toNat_zero, List.length_map, rdS, at_agg, bofZ, bof1, bof0, List.getD_cons_zero, List.getD_cons_succ]; done))); cbv)
      | (refine E.c (SCalls.of_bare (r1) rfl ?_ ?_); (· (cbv; (try simp only [nc] at *); first | done | (simp; done) | (simp (disch := (first | omega | (simp only [lnS, List.length_append, List.length_map, List.length_range, List.length_replicate]; omega))) only [nc, nct, w64_of, Int.toNat_natCast, Int.toNat_zero, List.length_map, rdS, at_agg, bofZ, bof1, bof0, List.getD_cons_zero, List.getD_cons_succ, implies_true, and_true, true_and, forall_const]; first | done | omega | (refine ⟨?_, ?_⟩ <;> omega)) | (simp (disch := (first | omega | (simp only [lnS, List.length_append, List.length_map, List.length_range, List.length_replicate]; omega))) [nc, nct, w64_of, Int.toNat_natCast, Int.toNat_zero, List.length_map, rdS, at_agg, bofZ, bof1, bof0, List.getD_cons_zero, List.getD_cons_succ]; done))); cbv)
      | (refine E.q (QCalls.of_bare (r1) rfl ?_ ?_); (· (cbv; (try simp only [nc] at *); first | done | (simp; done) | (simp (disch := (first | omega | (simp only [lnS, List.length_append, List.length_map, List.length_range, List.length_replicate]; omega))) only [nc, nct, w64_of, Int.toNat_natCast, Int.toNat_zero, List.length_map, rdS, at_agg, bofZ, bof1, bof0, List.getD_cons_zero, List.getD_cons_succ, implies_true, and_true, true_and, forall_const]; first | done | omega | (refine ⟨?_, ?_⟩ <;> omega)) | (simp (disch := (first | omega | (simp only [lnS, List.length_append, List.length_map, List.length_range, List.length_replicate]; omega))) [nc, nct, w64_of, Int.toNat_natCast, Int.toNat_zero, List.length_map, rdS, at_agg, bofZ, bof1, bof0, List.getD_cons_zero, List.getD_cons_succ]; done))); cbv)
      | (refine E.c (SCalls.of_le (viewOf_ok g hg h) ?_ ?_); (· (cbv; (try simp only [nc] at *); first | done | (simp; done) | (simp (disch := (first | omega | (simp only [lnS, List.length_append, List.length_map, List.length_range, List.length_replicate]; omega))) only [nc, nct, w64_of, Int.toNat_natCast, Int.toNat_zero, List.length_map, rdS, at_agg, bofZ, bof1, bof0, List.getD_cons_zero, List.getD_cons_succ, implies_true, and_true, true_and, forall_const]; first | done | omega | (refine ⟨?_, ?_⟩ <;> omega)) | (simp (disch := (first | omega | (simp only [lnS, List.length_append, List.length_map, List.length_range, List.length_replicate]; omega))) [nc, nct, w64_of, Int.toNat_natCast, Int.toNat_zero, List.length_map, rdS, at_agg, bofZ, bof1, bof0, List.getD_cons_zero, List.getD_cons_succ]; done))); cbv)
      | (refine ⟨fun _ h_s => ?_, fun _ h_s => ?_⟩ <;> (cbv; (try simp only [nc] at *); try simp (disch := (first | omega | (simp only [lnS, List.length_append, List.length_map, List.length_range, List.length_replicate]; omega))) only [nc, nct, w64_of, Int.toNat_natCast, Int.toNat_zero, List.length_map, rdS, at_agg, bofZ, bof1, bof0, List.getD_cons_zero, List.getD_cons_succ, reduceCtorEq, Bool.not_true, Bool.not_false, decide_eq_true_eq, decide_eq_false_iff_not, Bool.not_eq_true, Bool.not_eq_false, Bool.not_eq_true', Bool.not_eq_false', ne_eq, Decidable.not_not, Int.not_le, Int.not_lt, beq_iff_eq] at h_s))
      | (refine hF ?_; intro _; clear hF)
      | (refine hF ?_; cbv; clear hF)
      | (refine ⟨fun _ => ?_, ?_⟩; (· ((try simp only [nc] at *); first | done | omega | exact ⟨by omega, rfl⟩ | (simp (disch := (first | omega | (simp only [lnS, List.length_append, List.length_map, List.length_range, List.length_replicate]; omega))) only [nc, nct, w64_of, Int.toNat_natCast, Int.toNat_zero, List.length_map, rdS, at_agg, bofZ, bof1, bof0, List.getD_cons_zero, List.getD_cons_succ]; first | done | omega | rfl | exact ⟨by omega, rfl⟩ | (simp; done) | (simp; omega)) | (intros; trivial))); try cbv)
      | fail
    )
    all_goals (try simp only [nc] at *)
    all_goals (try simp (disch := (first | omega | (simp only [lnS, List.length_append, List.length_map, List.length_range, List.length_replicate]; omega))) only [nc, nct, w64_of, Int.toNat_natCast, Int.toNat_zero, List.length_map, rdS, at_agg, bofZ, bof1, bof0, List.getD_cons_zero, List.getD_cons_succ])
    all_goals unfold leastF
    all_goals first
      | (rw [show (fun a => leastM o ((viewG g).ev.getD a ev0)) = fun _ => false from funext fun a => by simp_all [leastM], mask0]; done)
      | exact congrArg (fun p => maskTo p (nG g)) (funext fun a => by simp_all [leastM, ev0])
  · unfold maskG
    rw [if_neg h]
    refine Pure.go (ty := ty) ty_eq mo Try.func15 rfl Try.ntmps15 Try.results15 Try.call15 (by simp) fun P C CQ D W F E hF => ?_
    cbv
    repeat' (first
      | (refine E.c (SCalls.of_le (viewOf_no g hg h) ?_ ?_); (· (cbv; (try simp only [nc] at *); first | done | (simp; done) | (simp (disch := (first | omega | (simp only [lnS, List.length_append, List.length_map, List.length_range, List.length_replicate]; omega))) only [nc, nct, w64_of, Int.toNat_natCast, Int.toNat_zero, List.length_map, rdS, at_agg, bofZ, bof1, bof0, List.getD_cons_zero, List.getD_cons_succ, implies_true, and_true, true_and, forall_const]; first | done | omega | (refine ⟨?_, ?_⟩ <;> omega)) | (simp (disch := (first | omega | (simp only [lnS, List.length_append, List.length_map, List.length_range, List.length_replicate]; omega))) [nc, nct, w64_of, Int.toNat_natCast, Int.toNat_zero, List.length_map, rdS, at_agg, bofZ, bof1, bof0, List.getD_cons_zero, List.getD_cons_succ]; done))); cbv)
      | (refine ⟨fun _ h_s => ?_, fun _ h_s => ?_⟩ <;> (cbv; (try simp only [nc] at *); try simp (disch := (first | omega | (simp only [lnS, List.length_append, List.length_map, List.length_range, List.length_replicate]; omega))) only [nc, nct, w64_of, Int.toNat_natCast, Int.toNat_zero, List.length_map, rdS, at_agg, bofZ, bof1, bof0, List.getD_cons_zero, List.getD_cons_succ, reduceCtorEq, Bool.not_true, Bool.not_false, decide_eq_true_eq, decide_eq_false_iff_not, Bool.not_eq_true, Bool.not_eq_false, Bool.not_eq_true', Bool.not_eq_false', ne_eq, Decidable.not_not, Int.not_le, Int.not_lt, beq_iff_eq] at h_s))
      | (refine hF ?_; intro _; clear hF)
      | (refine hF ?_; cbv; clear hF)
      | (refine ⟨fun _ => ?_, ?_⟩; (· ((try simp only [nc] at *); first | done | omega | exact ⟨by omega, rfl⟩ | (simp (disch := (first | omega | (simp only [lnS, List.length_append, List.length_map, List.length_range, List.length_replicate]; omega))) only [nc, nct, w64_of, Int.toNat_natCast, Int.toNat_zero, List.length_map, rdS, at_agg, bofZ, bof1, bof0, List.getD_cons_zero, List.getD_cons_succ]; first | done | omega | rfl | exact ⟨by omega, rfl⟩ | (simp; done) | (simp; omega)) | (intros; trivial))); try cbv)
      | fail
    )
    all_goals (try simp only [nc] at *)
    all_goals (try simp (disch := (first | omega | (simp only [lnS, List.length_append, List.length_map, List.length_range, List.length_replicate]; omega))) only [nc, nct, w64_of, Int.toNat_natCast, Int.toNat_zero, List.length_map, rdS, at_agg, bofZ, bof1, bof0, List.getD_cons_zero, List.getD_cons_succ])
theorem dSequence_ok (g : Gr) (hg : Rd g) (w : Int) : Pure Try.prog γ false 17 [aGr g, .i fun _ => w] (.u fun _ => maskG g (sequF w)) := by
  by_cases h : GOk g
  · unfold maskG
    rw [if_pos h]
    have hV := viewG_wf h
    have h1 := hV.ids
    have r1 : 0 ≤ w → w < nG g → Pure Try.prog γ false 47 [pVw (viewG g), .i fun _ => w] (.b fun _ => writesM ((viewG g).ev.getD w.toNat ev0)) := fun h1 h2 => by
      have := dwrites_ok (γ := γ) (viewG g) hV w.toNat (by omega)
      rwa [Int.toNat_of_nonneg h1] at this
    have r2 : 0 ≤ w → w < nG g → Pure Try.prog γ false 54 [pVw (viewG g), .i fun _ => w] (.u fun _ => seqM (viewG g) (nG g) w.toNat) := fun h1 h2 => by
      have := sequence_ok (γ := γ) (viewG g) hV w.toNat (by omega)
      rwa [Int.toNat_of_nonneg h1] at this
    refine Pure.go (ty := ty) ty_eq mo Try.func17 rfl Try.ntmps17 Try.results17 Try.call17 (by simp) fun P C CQ D W F E hF => ?_
    cbv
    repeat' (first
      | (refine E.c (SCalls.of_le (r2 (by ((try simp only [nc] at *); omega)) (by ((try simp only [nc] at *); omega))) ?_ ?_); (· (cbv; (try simp only [nc] at *); first | done | (simp; done) | (simp (disch := (first | omega | (simp only [lnS, List.length_append, List.length_map, List.length_range, List.length_replicate]; omega))) only [nc, nct, w64_of, Int.toNat_natCast, Int.toNat_zero, List.length_map, rdS, at_agg, bofZ, bof1, bof0, List.getD_cons_zero, List.getD_cons_succ, implies_true, and_true, true_and, forall_const]; first | done | omega | (refine ⟨?_, ?_⟩ <;> omega)) | (simp (disch := (first | omega | (simp only [lnS, List.length_append, List.length_map, List.length_range, List.length_replicate]; omega))) [nc, nct, w64_of, Int.toNat_natCast, Int.toNat_zero, List.length_map, rdS, at_agg, bofZ, bof1, bof0, List.getD_cons_zero, List.getD_cons_succ]; done))); cbv)
      | (refine E.c (SCalls.of_le (r1 (by ((try simp only [nc] at *); omega)) (by ((try simp only [nc] at *); omega))) ?_ ?_); (· (cbv; (try simp only [nc] at *); first | done | (simp; done) | (simp (disch := (first | omega | (simp only [lnS, List.length_append, List.length_map, List.length_range, List.length_replicate]; omega))) only [nc, nct, w64_of, Int.toNat_natCast, Int.toNat_zero, List.length_map, rdS, at_agg, bofZ, bof1, bof0, List.getD_cons_zero, List.getD_cons_succ, implies_true, and_true, true_and, forall_const]; first | done | omega | (refine ⟨?_, ?_⟩ <;> omega)) | (simp (disch := (first | omega | (simp only [lnS, List.length_append, List.length_map, List.length_range, List.length_replicate]; omega))) [nc, nct, w64_of, Int.toNat_natCast, Int.toNat_zero, List.length_map, rdS, at_agg, bofZ, bof1, bof0, List.getD_cons_zero, List.getD_cons_succ]; done))); cbv)
      | (refine E.c (SCalls.of_le (viewOf_ok g hg h) ?_ ?_); (· (cbv; (try simp only [nc] at *); first | done | (simp; done) | (simp (disch := (first | omega | (simp only [lnS, List.length_append, List.length_map, List.length_range, List.length_replicate]; omega))) only [nc, nct, w64_of, Int.toNat_natCast, Int.toNat_zero, List.length_map, rdS, at_agg, bofZ, bof1, bof0, List.getD_cons_zero, List.getD_cons_succ, implies_true, and_true, true_and, forall_const]; first | done | omega | (refine ⟨?_, ?_⟩ <;> omega)) | (simp (disch := (first | omega | (simp only [lnS, List.length_append, List.length_map, List.length_range, List.length_replicate]; omega))) [nc, nct, w64_of, Int.toNat_natCast, Int.toNat_zero, List.length_map, rdS, at_agg, bofZ, bof1, bof0, List.getD_cons_zero, List.getD_cons_succ]; done))); cbv)
      | (refine ⟨fun _ h_s => ?_, fun _ h_s => ?_⟩ <;> (cbv; (try simp only [nc] at *); try simp (disch := (first | omega | (simp only [lnS, List.length_append, List.length_map, List.length_range, List.length_replicate]; omega))) only [nc, nct, w64_of, Int.toNat_natCast, Int.toNat_zero, List.length_map, rdS, at_agg, bofZ, bof1, bof0, List.getD_cons_zero, List.getD_cons_succ, reduceCtorEq, Bool.not_true, Bool.not_false, decide_eq_true_eq, decide_eq_false_iff_not, Bool.not_eq_true, Bool.not_eq_false, Bool.not_eq_true', Bool.not_eq_false', ne_eq, Decidable.not_not, Int.not_le, Int.not_lt, beq_iff_eq] at h_s))
      | (refine hF ?_; intro _; clear hF)
      | (refine hF ?_; cbv; clear hF)
      | (refine ⟨fun _ => ?_, ?_⟩; (· ((try simp only [nc] at *); first | done | omega | exact ⟨by omega, rfl⟩ | (simp (disch := (first | omega | (simp only [lnS, List.length_append, List.length_map, List.length_range, List.length_replicate]; omega))) only [nc, nct, w64_of, Int.toNat_natCast, Int.toNat_zero, List.length_map, rdS, at_agg, bofZ, bof1, bof0, List.getD_cons_zero, List.getD_cons_succ]; first | done | omega | rfl | exact ⟨by omega, rfl⟩ | (simp; done) | (simp; omega)) | (intros; trivial))); (try (simp only [nc] at *)); (try simp (disch := (first | omega | (simp only [lnS, List.length_append, List.length_map, List.length_range, List.length_replicate]; omega))) only [nc, nct, w64_of, Int.toNat_natCast, Int.toNat_zero, List.length_map, rdS, at_agg, bofZ, bof1, bof0, List.getD_cons_zero, List.getD_cons_succ]); (try cbv))
      | fail
    )
    all_goals (try simp only [nc] at *)
    all_goals (try simp (disch := (first | omega | (simp only [lnS, List.length_append, List.length_map, List.length_range, List.length_replicate]; omega))) only [nc, nct, w64_of, Int.toNat_natCast, Int.toNat_zero, List.length_map, rdS, at_agg, bofZ, bof1, bof0, List.getD_cons_zero, List.getD_cons_succ])
    all_goals first
      | (unfold sequF; rw [if_neg (by first | omega | (rintro ⟨_, _, _⟩; simp_all; done) | (rintro ⟨_, _, _⟩; omega))]; done)
      | (unfold sequF; rw [if_pos ⟨by omega, by omega, by assumption⟩]; done)
  · unfold maskG
    rw [if_neg h]
    refine Pure.go (ty := ty) ty_eq mo Try.func17 rfl Try.ntmps17 Try.results17 Try.call17 (by simp) fun P C CQ D W F E hF => ?_
    cbv
    repeat' (first
      | (refine E.c (SCalls.of_le (viewOf_no g hg h) ?_ ?_); (· (cbv; (try simp only [nc] at *); first | done | (simp; done) | (simp (disch := (first | omega | (simp only [lnS, List.length_append, List.length_map, List.length_range, List.length_replicate]; omega))) only [nc, nct, w64_of, Int.toNat_natCast, Int.toNat_zero, List.length_map, rdS, at_agg, bofZ, bof1, bof0, List.getD_cons_zero, List.getD_cons_succ, implies_true, and_true, true_and, forall_const]; first | done | omega | (refine ⟨?_, ?_⟩ <;> omega)) | (simp (disch := (first | omega | (simp only [lnS, List.length_append, List.length_map, List.length_range, List.length_replicate]; omega))) [nc, nct, w64_of, Int.toNat_natCast, Int.toNat_zero, List.length_map, rdS, at_agg, bofZ, bof1, bof0, List.getD_cons_zero, List.getD_cons_succ]; done))); cbv)
      | (refine ⟨fun _ h_s => ?_, fun _ h_s => ?_⟩ <;> (cbv; (try simp only [nc] at *); try simp (disch := (first | omega | (simp only [lnS, List.length_append, List.length_map, List.length_range, List.length_replicate]; omega))) only [nc, nct, w64_of, Int.toNat_natCast, Int.toNat_zero, List.length_map, rdS, at_agg, bofZ, bof1, bof0, List.getD_cons_zero, List.getD_cons_succ, reduceCtorEq, Bool.not_true, Bool.not_false, decide_eq_true_eq, decide_eq_false_iff_not, Bool.not_eq_true, Bool.not_eq_false, Bool.not_eq_true', Bool.not_eq_false', ne_eq, Decidable.not_not, Int.not_le, Int.not_lt, beq_iff_eq] at h_s))
      | (refine hF ?_; intro _; clear hF)
      | (refine hF ?_; cbv; clear hF)
      | (refine ⟨fun _ => ?_, ?_⟩; (· ((try simp only [nc] at *); first | done | omega | exact ⟨by omega, rfl⟩ | (simp (disch := (first | omega | (simp only [lnS, List.length_append, List.length_map, List.length_range, List.length_replicate]; omega))) only [nc, nct, w64_of, Int.toNat_natCast, Int.toNat_zero, List.length_map, rdS, at_agg, bofZ, bof1, bof0, List.getD_cons_zero, List.getD_cons_succ]; first | done | omega | rfl | exact ⟨by omega, rfl⟩ | (simp; done) | (simp; omega)) | (intros; trivial))); (try (simp only [nc] at *)); (try simp (disch := (first | omega | (simp only [lnS, List.length_append, List.length_map, List.length_range, List.length_replicate]; omega))) only [nc, nct, w64_of, Int.toNat_natCast, Int.toNat_zero, List.length_map, rdS, at_agg, bofZ, bof1, bof0, List.getD_cons_zero, List.getD_cons_succ]); (try cbv))
      | fail
    )
    all_goals (try simp only [nc] at *)
    all_goals (try simp (disch := (first | omega | (simp only [lnS, List.length_append, List.length_map, List.length_range, List.length_replicate]; omega))) only [nc, nct, w64_of, Int.toNat_natCast, Int.toNat_zero, List.length_map, rdS, at_agg, bofZ, bof1, bof0, List.getD_cons_zero, List.getD_cons_succ])
abbrev aDer (n : Int) (po rf co fr eco porf loc sw hb : List (BitVec 64)) : AV :=
  .agg [.i fun _ => n, .vs 1 fun _ => us po, .i fun _ => n, .vs 1 fun _ => us rf, .i fun _ => n, .vs 1 fun _ => us co, .i fun _ => n, .vs 1 fun _ => us fr, .i fun _ => n, .vs 1 fun _ => us eco, .i fun _ => n, .vs 1 fun _ => us porf, .i fun _ => n, .vs 1 fun _ => us loc, .i fun _ => n, .vs 1 fun _ => us sw, .i fun _ => n, .vs 1 fun _ => us hb]
theorem or3 (n : Nat) (a b c : List (BitVec 64)) (ha : Fits n a) (hb : Fits n b) (hc : Fits n c) : Pure Try.prog γ false 35 [.vs 2 fun _ => rls [((n : Int), a), ((n : Int), b), ((n : Int), c)]] (encRel n (orM n [((n : Int), a), ((n : Int), b), ((n : Int), c)])) :=
  or_yes _ (by simp) (alike3 n a b c ha hb hc) n rfl
theorem dAll_yes (g : Gr) (hg : Rd g) (h : GOk g) : Pure Try.prog γ false 6 [aGr g] (.tup [aDer (nG g : Nat) (poF (viewG g) (nG g)) (rfF (viewG g) (nG g)) (coF (viewG g) (nG g)) (frF (viewG g) (nG g)) (ecoF (viewG g) (nG g)) (porfF (viewG g) (nG g)) (locF (viewG g) (nG g)) (swF (viewG g) (nG g)) (hbF (viewG g) (nG g)), .i fun _ => 0]) := by
  have hV := viewG_wf h
  have a1 := vpoF_ok (γ := γ) (viewG g) hV
  have a2 := vrfF_ok (γ := γ) (viewG g) hV
  have a3 := vcoF_ok (γ := γ) (viewG g) hV
  have a4 := vfrF_ok (γ := γ) (viewG g) hV
  have a5 := vlocF_ok (γ := γ) (viewG g) hV
  have a6 := vswF_ok (γ := γ) (viewG g) hV
  have f1 := fits_poF (viewG g) hV.small
  have f2 := fits_rfF (viewG g) hV.small
  have f3 := fits_coF (viewG g) hV.small
  have f4 := fits_frF (viewG g) hV.small
  have f6 := fits_swF (viewG g) hV.small
  have o1 := or3 (γ := γ) (nG g) _ _ _ f2 f3 f4
  have o2 := or2 (γ := γ) (nG g) _ _ f1 f2
  have o3 := or2 (γ := γ) (nG g) _ _ f1 f6
  have p1 := plus_ok (γ := γ) (nG g) _ (fits_or (by have := hV.small; omega) (l := [((nG g : Int), rfF (viewG g) (nG g)), ((nG g : Int), coF (viewG g) (nG g)), ((nG g : Int), frF (viewG g) (nG g))]) (by simp [f2, f3, f4]))
  have p2 := plus_ok (γ := γ) (nG g) _ (fits_or2 f1 f2)
  have p3 := plus_ok (γ := γ) (nG g) _ (fits_or2 f1 f6)
  refine Pure.go (ty := ty) ty_eq mo Try.func6 rfl Try.ntmps6 Try.results6 Try.call6 (by simp) fun P C CQ D W F E hF => ?_
  cbv
  repeat' (first
    | (refine E.c (SCalls.of_le (p3) ?_ ?_); (· (cbv; (try simp only [nc] at *); first | done | (simp; done) | (simp (disch := (first | omega | (simp only [lnS, List.length_append, List.length_map, List.length_range, List.length_replicate]; omega))) only [nc, nct, w64_of, Int.toNat_natCast, Int.toNat_zero, List.length_map, rdS, at_agg, bofZ, bof1, bof0, List.getD_cons_zero, List.getD_cons_succ, implies_true, and_true, true_and, forall_const]; first | done | omega | (refine ⟨?_, ?_⟩ <;> omega)) | (simp (disch := (first | omega | (simp only [lnS, List.length_append, List.length_map, List.length_range, List.length_replicate]; omega))) [nc, nct, w64_of, Int.toNat_natCast, Int.toNat_zero, List.length_map, rdS, at_agg, bofZ, bof1, bof0, List.getD_cons_zero, List.getD_cons_succ]; done))); cbv)
    | (refine E.c (SCalls.of_le (p2) ?_ ?_); (· (cbv; (try simp only [nc] at *); first | done | (simp; done) | (simp (disch := (first | omega | (simp only [lnS, List.length_append, List.length_map, List.length_range, List.length_replicate]; omega))) only [nc, nct, w64_of, Int.toNat_natCast, Int.toNat_zero, List.length_map, rdS, at_agg, bofZ, bof1, bof0, List.getD_cons_zero, List.getD_cons_succ, implies_true, and_true, true_and, forall_const]; first | done | omega | (refine ⟨?_, ?_⟩ <;> omega)) | (simp (disch := (first | omega | (simp only [lnS, List.length_append, List.length_map, List.length_range, List.length_replicate]; omega))) [nc, nct, w64_of, Int.toNat_natCast, Int.toNat_zero, List.length_map, rdS, at_agg, bofZ, bof1, bof0, List.getD_cons_zero, List.getD_cons_succ]; done))); cbv)
    | (refine E.c (SCalls.of_le (p1) ?_ ?_); (· (cbv; (try simp only [nc] at *); first | done | (simp; done) | (simp (disch := (first | omega | (simp only [lnS, List.length_append, List.length_map, List.length_range, List.length_replicate]; omega))) only [nc, nct, w64_of, Int.toNat_natCast, Int.toNat_zero, List.length_map, rdS, at_agg, bofZ, bof1, bof0, List.getD_cons_zero, List.getD_cons_succ, implies_true, and_true, true_and, forall_const]; first | done | omega | (refine ⟨?_, ?_⟩ <;> omega)) | (simp (disch := (first | omega | (simp only [lnS, List.length_append, List.length_map, List.length_range, List.length_replicate]; omega))) [nc, nct, w64_of, Int.toNat_natCast, Int.toNat_zero, List.length_map, rdS, at_agg, bofZ, bof1, bof0, List.getD_cons_zero, List.getD_cons_succ]; done))); cbv)
    | (refine E.c (SCalls.of_bare (o3) rfl ?_ ?_); (· (cbv; simp [rls, ps, us, is, LV.of]; done)); cbv)
    | (refine E.c (SCalls.of_le (o3) ?_ ?_); (· (cbv; simp [rls, ps, us, is, LV.of]; done)); cbv)
    | (refine E.q (QCalls.of_le (o3) ?_ ?_); (· (cbv; simp [rls, ps, us, is, LV.of]; done)); cbv)
    | (refine E.c (SCalls.of_bare (o2) rfl ?_ ?_); (· (cbv; simp [rls, ps, us, is, LV.of]; done)); cbv)
    | (refine E.c (SCalls.of_le (o2) ?_ ?_); (· (cbv; simp [rls, ps, us, is, LV.of]; done)); cbv)
    | (refine E.q (QCalls.of_le (o2) ?_ ?_); (· (cbv; simp [rls, ps, us, is, LV.of]; done)); cbv)
    | (refine E.c (SCalls.of_bare (o1) rfl ?_ ?_); (· (cbv; simp [rls, ps, us, is, LV.of]; done)); cbv)
    | (refine E.c (SCalls.of_le (o1) ?_ ?_); (· (cbv; simp [rls, ps, us, is, LV.of]; done)); cbv)
    | (refine E.q (QCalls.of_le (o1) ?_ ?_); (· (cbv; simp [rls, ps, us, is, LV.of]; done)); cbv)
    | (refine E.c (SCalls.of_le (a6) ?_ ?_); (· (cbv; (try simp only [nc] at *); first | done | (simp; done) | (simp (disch := (first | omega | (simp only [lnS, List.length_append, List.length_map, List.length_range, List.length_replicate]; omega))) only [nc, nct, w64_of, Int.toNat_natCast, Int.toNat_zero, List.length_map, rdS, at_agg, bofZ, bof1, bof0, List.getD_cons_zero, List.getD_cons_succ, implies_true, and_true, true_and, forall_const]; first | done | omega | (refine ⟨?_, ?_⟩ <;> omega)) | (simp (disch := (first | omega | (simp only [lnS, List.length_append, List.length_map, List.length_range, List.length_replicate]; omega))) [nc, nct, w64_of, Int.toNat_natCast, Int.toNat_zero, List.length_map, rdS, at_agg, bofZ, bof1, bof0, List.getD_cons_zero, List.getD_cons_succ]; done))); cbv)
    | (refine E.c (SCalls.of_le (a5) ?_ ?_); (· (cbv; (try simp only [nc] at *); first | done | (simp; done) | (simp (disch := (first | omega | (simp only [lnS, List.length_append, List.length_map, List.length_range, List.length_replicate]; omega))) only [nc, nct, w64_of, Int.toNat_natCast, Int.toNat_zero, List.length_map, rdS, at_agg, bofZ, bof1, bof0, List.getD_cons_zero, List.getD_cons_succ, implies_true, and_true, true_and, forall_const]; first | done | omega | (refine ⟨?_, ?_⟩ <;> omega)) | (simp (disch := (first | omega | (simp only [lnS, List.length_append, List.length_map, List.length_range, List.length_replicate]; omega))) [nc, nct, w64_of, Int.toNat_natCast, Int.toNat_zero, List.length_map, rdS, at_agg, bofZ, bof1, bof0, List.getD_cons_zero, List.getD_cons_succ]; done))); cbv)
    | (refine E.c (SCalls.of_le (a4) ?_ ?_); (· (cbv; (try simp only [nc] at *); first | done | (simp; done) | (simp (disch := (first | omega | (simp only [lnS, List.length_append, List.length_map, List.length_range, List.length_replicate]; omega))) only [nc, nct, w64_of, Int.toNat_natCast, Int.toNat_zero, List.length_map, rdS, at_agg, bofZ, bof1, bof0, List.getD_cons_zero, List.getD_cons_succ, implies_true, and_true, true_and, forall_const]; first | done | omega | (refine ⟨?_, ?_⟩ <;> omega)) | (simp (disch := (first | omega | (simp only [lnS, List.length_append, List.length_map, List.length_range, List.length_replicate]; omega))) [nc, nct, w64_of, Int.toNat_natCast, Int.toNat_zero, List.length_map, rdS, at_agg, bofZ, bof1, bof0, List.getD_cons_zero, List.getD_cons_succ]; done))); cbv)
    | (refine E.c (SCalls.of_le (a3) ?_ ?_); (· (cbv; (try simp only [nc] at *); first | done | (simp; done) | (simp (disch := (first | omega | (simp only [lnS, List.length_append, List.length_map, List.length_range, List.length_replicate]; omega))) only [nc, nct, w64_of, Int.toNat_natCast, Int.toNat_zero, List.length_map, rdS, at_agg, bofZ, bof1, bof0, List.getD_cons_zero, List.getD_cons_succ, implies_true, and_true, true_and, forall_const]; first | done | omega | (refine ⟨?_, ?_⟩ <;> omega)) | (simp (disch := (first | omega | (simp only [lnS, List.length_append, List.length_map, List.length_range, List.length_replicate]; omega))) [nc, nct, w64_of, Int.toNat_natCast, Int.toNat_zero, List.length_map, rdS, at_agg, bofZ, bof1, bof0, List.getD_cons_zero, List.getD_cons_succ]; done))); cbv)
    | (refine E.c (SCalls.of_le (a2) ?_ ?_); (· (cbv; (try simp only [nc] at *); first | done | (simp; done) | (simp (disch := (first | omega | (simp only [lnS, List.length_append, List.length_map, List.length_range, List.length_replicate]; omega))) only [nc, nct, w64_of, Int.toNat_natCast, Int.toNat_zero, List.length_map, rdS, at_agg, bofZ, bof1, bof0, List.getD_cons_zero, List.getD_cons_succ, implies_true, and_true, true_and, forall_const]; first | done | omega | (refine ⟨?_, ?_⟩ <;> omega)) | (simp (disch := (first | omega | (simp only [lnS, List.length_append, List.length_map, List.length_range, List.length_replicate]; omega))) [nc, nct, w64_of, Int.toNat_natCast, Int.toNat_zero, List.length_map, rdS, at_agg, bofZ, bof1, bof0, List.getD_cons_zero, List.getD_cons_succ]; done))); cbv)
    | (refine E.c (SCalls.of_le (a1) ?_ ?_); (· (cbv; (try simp only [nc] at *); first | done | (simp; done) | (simp (disch := (first | omega | (simp only [lnS, List.length_append, List.length_map, List.length_range, List.length_replicate]; omega))) only [nc, nct, w64_of, Int.toNat_natCast, Int.toNat_zero, List.length_map, rdS, at_agg, bofZ, bof1, bof0, List.getD_cons_zero, List.getD_cons_succ, implies_true, and_true, true_and, forall_const]; first | done | omega | (refine ⟨?_, ?_⟩ <;> omega)) | (simp (disch := (first | omega | (simp only [lnS, List.length_append, List.length_map, List.length_range, List.length_replicate]; omega))) [nc, nct, w64_of, Int.toNat_natCast, Int.toNat_zero, List.length_map, rdS, at_agg, bofZ, bof1, bof0, List.getD_cons_zero, List.getD_cons_succ]; done))); cbv)
    | (refine E.c (SCalls.of_le (viewOf_ok g hg h) ?_ ?_); (· (cbv; (try simp only [nc] at *); first | done | (simp; done) | (simp (disch := (first | omega | (simp only [lnS, List.length_append, List.length_map, List.length_range, List.length_replicate]; omega))) only [nc, nct, w64_of, Int.toNat_natCast, Int.toNat_zero, List.length_map, rdS, at_agg, bofZ, bof1, bof0, List.getD_cons_zero, List.getD_cons_succ, implies_true, and_true, true_and, forall_const]; first | done | omega | (refine ⟨?_, ?_⟩ <;> omega)) | (simp (disch := (first | omega | (simp only [lnS, List.length_append, List.length_map, List.length_range, List.length_replicate]; omega))) [nc, nct, w64_of, Int.toNat_natCast, Int.toNat_zero, List.length_map, rdS, at_agg, bofZ, bof1, bof0, List.getD_cons_zero, List.getD_cons_succ]; done))); cbv)
    | (refine ⟨fun _ h_s => ?_, fun _ h_s => ?_⟩ <;> (cbv; (try simp only [nc] at *); try simp (disch := (first | omega | (simp only [lnS, List.length_append, List.length_map, List.length_range, List.length_replicate]; omega))) only [nc, nct, w64_of, Int.toNat_natCast, Int.toNat_zero, List.length_map, rdS, at_agg, bofZ, bof1, bof0, List.getD_cons_zero, List.getD_cons_succ, reduceCtorEq, Bool.not_true, Bool.not_false, decide_eq_true_eq, decide_eq_false_iff_not, Bool.not_eq_true, Bool.not_eq_false, Bool.not_eq_true', Bool.not_eq_false', ne_eq, Decidable.not_not, Int.not_le, Int.not_lt, beq_iff_eq] at h_s))
    | (refine hF ?_; intro _; clear hF)
    | (refine hF ?_; cbv; clear hF)
    | (refine ⟨fun _ => ?_, ?_⟩; (· ((try simp only [nc] at *); first | done | omega | exact ⟨by omega, rfl⟩ | (simp (disch := (first | omega | (simp only [lnS, List.length_append, List.length_map, List.length_range, List.length_replicate]; omega))) only [nc, nct, w64_of, Int.toNat_natCast, Int.toNat_zero, List.length_map, rdS, at_agg, bofZ, bof1, bof0, List.getD_cons_zero, List.getD_cons_succ]; first | done | omega | rfl | exact ⟨by omega, rfl⟩ | (simp; done) | (simp; omega)) | (intros; trivial))); try cbv)
    | fail
  )
  all_goals (try simp only [nc] at *)
  all_goals (try simp (disch := (first | omega | (simp only [lnS, List.length_append, List.length_map, List.length_range, List.length_replicate]; omega))) only [nc, nct, w64_of, Int.toNat_natCast, Int.toNat_zero, List.length_map, rdS, at_agg, bofZ, bof1, bof0, List.getD_cons_zero, List.getD_cons_succ])
  simp [ecoF, porfF, hbF]
theorem dAll_no (g : Gr) (hg : Rd g) (h : ¬ GOk g) : Pure Try.prog γ false 6 [aGr g] (.tup [aDer 0 [] [] [] [] [] [] [] [] [], .i fun _ => 2]) := by
  refine Pure.go (ty := ty) ty_eq mo Try.func6 rfl Try.ntmps6 Try.results6 Try.call6 (by simp) fun P C CQ D W F E hF => ?_
  cbv
  repeat' (first
    | (refine E.c (SCalls.of_le (viewOf_no g hg h) ?_ ?_); (· (cbv; (try simp only [nc] at *); first | done | (simp; done) | (simp (disch := (first | omega | (simp only [lnS, List.length_append, List.length_map, List.length_range, List.length_replicate]; omega))) only [nc, nct, w64_of, Int.toNat_natCast, Int.toNat_zero, List.length_map, rdS, at_agg, bofZ, bof1, bof0, List.getD_cons_zero, List.getD_cons_succ, implies_true, and_true, true_and, forall_const]; first | done | omega | (refine ⟨?_, ?_⟩ <;> omega)) | (simp (disch := (first | omega | (simp only [lnS, List.length_append, List.length_map, List.length_range, List.length_replicate]; omega))) [nc, nct, w64_of, Int.toNat_natCast, Int.toNat_zero, List.length_map, rdS, at_agg, bofZ, bof1, bof0, List.getD_cons_zero, List.getD_cons_succ]; done))); cbv)
    | (refine ⟨fun _ h_s => ?_, fun _ h_s => ?_⟩ <;> (cbv; (try simp only [nc] at *); try simp (disch := (first | omega | (simp only [lnS, List.length_append, List.length_map, List.length_range, List.length_replicate]; omega))) only [nc, nct, w64_of, Int.toNat_natCast, Int.toNat_zero, List.length_map, rdS, at_agg, bofZ, bof1, bof0, List.getD_cons_zero, List.getD_cons_succ, reduceCtorEq, Bool.not_true, Bool.not_false, decide_eq_true_eq, decide_eq_false_iff_not, Bool.not_eq_true, Bool.not_eq_false, Bool.not_eq_true', Bool.not_eq_false', ne_eq, Decidable.not_not, Int.not_le, Int.not_lt, beq_iff_eq] at h_s))
    | (refine hF ?_; intro _; clear hF)
    | (refine hF ?_; cbv; clear hF)
    | (refine ⟨fun _ => ?_, ?_⟩; (· ((try simp only [nc] at *); first | done | omega | exact ⟨by omega, rfl⟩ | (simp (disch := (first | omega | (simp only [lnS, List.length_append, List.length_map, List.length_range, List.length_replicate]; omega))) only [nc, nct, w64_of, Int.toNat_natCast, Int.toNat_zero, List.length_map, rdS, at_agg, bofZ, bof1, bof0, List.getD_cons_zero, List.getD_cons_succ]; first | done | omega | rfl | exact ⟨by omega, rfl⟩ | (simp; done) | (simp; omega)) | (intros; trivial))); try cbv)
    | fail
  )
  all_goals (try simp only [nc] at *)
  all_goals (try simp (disch := (first | omega | (simp only [lnS, List.length_append, List.length_map, List.length_range, List.length_replicate]; omega))) only [nc, nct, w64_of, Int.toNat_natCast, Int.toNat_zero, List.length_map, rdS, at_agg, bofZ, bof1, bof0, List.getD_cons_zero, List.getD_cons_succ])
  all_goals simp [us, LV.of, LV.l]
theorem dAll_ok (g : Gr) (hg : Rd g) : Pure Try.prog γ false 6 [aGr g] (.tup [aDer (NG g) (rowsG g poF) (rowsG g rfF) (rowsG g coF) (rowsG g frF) (rowsG g ecoF) (rowsG g porfF) (rowsG g locF) (rowsG g swF) (rowsG g hbF), .i fun _ => if GOk g then 0 else 2]) := by
  by_cases h : GOk g
  · have := dAll_yes (γ := γ) g hg h
    unfold NG rowsG
    simpa only [if_pos h] using this
  · have := dAll_no (γ := γ) g hg h
    unfold NG rowsG
    simpa only [if_neg h] using this
end Go.AL.Rl

namespace Go.AL.Rl
open Go Go.AL Go.Proofs
set_option maxRecDepth 100000
set_option maxHeartbeats 1600000
variable {γ : Nat → Option AV}

def runL (mx cap : Int) : List Nat → Int → Int
  | [], s => s
  | n :: r, s => if s ≤ cap then runL mx cap r (s + min (mx + 1) n) else s
def sumL (mx : Int) (l : List Nat) (s : Int) (k : Nat) : Int := (l.take k).foldl (fun (a : Int) (n : Nat) => a + min (mx + 1) (n : Int)) s
theorem sumL_zero (mx : Int) (l : List Nat) (s : Int) : sumL mx l s 0 = s := rfl
theorem sumL_succ (mx : Int) (l : List Nat) (s : Int) (k : Nat) (h : k < l.length) : sumL mx l s (k + 1) = sumL mx l s k + min (mx + 1) (l.getD k 0) := by
  simp only [sumL]
  rw [List.take_succ_eq_append_getElem h, List.foldl_append]
  simp [h]
theorem runL_step {mx cap : Int} {l : List Nat} {s : Int} {k : Nat} (h : k < l.length) (hs : sumL mx l s k ≤ cap) (hr : runL mx cap (l.drop k) (sumL mx l s k) = runL mx cap l s) :
    runL mx cap (l.drop (k + 1)) (sumL mx l s (k + 1)) = runL mx cap l s := by
  rw [← hr, List.drop_eq_getElem_cons h, runL, if_pos hs, sumL_succ _ _ _ _ h]
  simp [h]
theorem runL_end {mx cap : Int} {l : List Nat} {s : Int} {k : Nat} (h : l.length ≤ k ∨ ¬ sumL mx l s k ≤ cap) (hr : runL mx cap (l.drop k) (sumL mx l s k) = runL mx cap l s) : sumL mx l s k = runL mx cap l s := by
  rw [← hr]
  by_cases hk : l.length ≤ k
  · rw [List.drop_eq_nil_of_le hk, runL]
  · rw [List.drop_eq_getElem_cons (by omega), runL, if_neg (by rcases h with h | h; omega; exact h)]
theorem runL_bd {mx cap B : Int} (h0 : 0 ≤ mx) (hB : cap + mx + 1 ≤ B) : ∀ (l : List Nat) (s : Int), 0 ≤ s → s ≤ B → 0 ≤ runL mx cap l s ∧ runL mx cap l s ≤ B
  | [], s, h1, h2 => ⟨h1, h2⟩
  | n :: r, s, h1, h2 => by
    rw [runL]
    split
    · exact runL_bd h0 hB r _ (by omega) (by omega)
    · exact ⟨h1, h2⟩
theorem ths_le {g : Gr} (hg : Rd g) (x : Nat) : ((g.th.getD x []).length : Int) ≤ 9223372036854775807 := by
  rcases Nat.lt_or_ge x g.th.length with h1 | h1
  · exact hg.ths _ (getD_mem h1)
  · simp [List.getElem?_eq_none h1]
theorem frs_le {g : Gr} (hg : Rd g) (x : Nat) : ((g.fr.getD x []).length : Int) ≤ 9223372036854775807 := by
  rcases Nat.lt_or_ge x g.fr.length with h1 | h1
  · exact hg.frs _ (getD_mem h1)
  · simp [List.getElem?_eq_none h1]
def lensT (g : Gr) : List Nat := g.th.map (·.length)
def lensF (g : Gr) : List Nat := g.fr.map (·.length)
def lensO (g : Gr) : List Nat := g.ord.map (·.length)
def light0 (mx : Int) (g : Gr) : Int := min (mx + 1) g.init.length + min (mx + 1) g.th.length + min (mx + 1) g.fr.length + min (mx + 1) g.ord.length
def lightM (mx : Int) (g : Gr) : Bool := decide (runL mx (3 * mx) (lensO g) (runL mx (2 * mx) (lensF g) (runL mx mx (lensT g) (light0 mx g))) ≤ 3 * mx)
theorem lensT_get (g : Gr) (k : Nat) (h : k < g.th.length) : (lensT g).getD k 0 = (g.th.getD k []).length := by simp [lensT, h]
theorem lensF_get (g : Gr) (k : Nat) (h : k < g.fr.length) : (lensF g).getD k 0 = (g.fr.getD k []).length := by simp [lensF, h]
theorem lensO_get (g : Gr) (k : Nat) (h : k < g.ord.length) : (lensO g).getD k 0 = (g.ord.getD k []).length := by simp [lensO, h]
theorem light_ok (g : Gr) (hg : Rd g) (mx : Int) (h0 : 0 ≤ mx) (h1 : mx ≤ 1000) : Pure Try.prog γ false 5 [aGr g, .i fun _ => mx] (.b fun _ => lightM mx g) := by
  have b1 := hg.init
  have b2 := hg.th
  have b3 := hg.fr
  have b4 := hg.ord
  have hs0 : 0 ≤ light0 mx g ∧ light0 mx g ≤ 4 * mx + 4 := by unfold light0; omega
  obtain ⟨s0, hs⟩ : ∃ s, s = light0 mx g := ⟨_, rfl⟩
  rw [← hs] at hs0
  unfold lightM
  rw [← hs]
  have hlT : (lensT g).length = g.th.length := by simp [lensT]
  have hlF : (lensF g).length = g.fr.length := by simp [lensF]
  have hlO : (lensO g).length = g.ord.length := by simp [lensO]
  obtain ⟨r1, hr1⟩ : ∃ r, r = runL mx mx (lensT g) s0 := ⟨_, rfl⟩
  obtain ⟨r2, hr2⟩ : ∃ r, r = runL mx (2 * mx) (lensF g) r1 := ⟨_, rfl⟩
  obtain ⟨r3, hr3⟩ : ∃ r, r = runL mx (3 * mx) (lensO g) r2 := ⟨_, rfl⟩
  obtain ⟨S1, hS1⟩ : ∃ S : Nat → Int, ∀ k, S k = sumL mx (lensT g) s0 k := ⟨_, fun _ => rfl⟩
  obtain ⟨S2, hS2⟩ : ∃ S : Nat → Int, ∀ k, S k = sumL mx (lensF g) r1 k := ⟨_, fun _ => rfl⟩
  obtain ⟨S3, hS3⟩ : ∃ S : Nat → Int, ∀ k, S k = sumL mx (lensO g) r2 k := ⟨_, fun _ => rfl⟩
  have z1 : S1 0 = s0 := by rw [hS1, sumL_zero]
  have z2 : S2 0 = r1 := by rw [hS2, sumL_zero]
  have z3 : S3 0 = r2 := by rw [hS3, sumL_zero]
  have n1 : ∀ k, k < g.th.length → S1 (k + 1) = S1 k + min (mx + 1) (g.th.getD k []).length := fun k hk => by rw [hS1, hS1, sumL_succ _ _ _ _ (by omega), lensT_get _ _ hk]
  have n2 : ∀ k, k < g.fr.length → S2 (k + 1) = S2 k + min (mx + 1) (g.fr.getD k []).length := fun k hk => by rw [hS2, hS2, sumL_succ _ _ _ _ (by omega), lensF_get _ _ hk]
  have n3 : ∀ k, k < g.ord.length → S3 (k + 1) = S3 k + min (mx + 1) (g.ord.getD k []).length := fun k hk => by rw [hS3, hS3, sumL_succ _ _ _ _ (by omega), lensO_get _ _ hk]
  rw [← hr1, ← hr2, ← hr3]
  have q1 := runL_bd (mx := mx) (cap := mx) (B := 4 * mx + 4) h0 (by omega) (lensT g) s0 (by omega) (by omega)
  rw [← hr1] at q1
  have q2 := runL_bd (mx := mx) (cap := 2 * mx) (B := 4 * mx + 4) h0 (by omega) (lensF g) r1 (by omega) (by omega)
  rw [← hr2] at q2
  have q3 := runL_bd (mx := mx) (cap := 3 * mx) (B := 4 * mx + 4) h0 (by omega) (lensO g) r2 (by omega) (by omega)
  rw [← hr3] at q3
  refine Pure.goL (ty := ty) ty_eq mo Try.func5 rfl Try.ntmps5 Try.results5 Try.call5 (by simp) fun P C CQ D W F E hF => ?_
  refine E.cut 4 (told 111 [(1, .i fun _ => mx), (2, .ptr 0 0), (5, .i fun _ => r1)] [.box (aGr g)]) (by kernel_rfl) (Nat.zero_le _) (fun I hI => ?_) ?_
  · cbv
    repeat' (first
      | (refine ⟨fun _ h_s => ?_, fun _ h_s => ?_⟩ <;> (cbv; (try simp only [nc] at *); try simp (disch := (first | omega | (simp only [lnS, List.length_append, List.length_map, List.length_range, List.length_replicate]; omega))) only [nc, nct, w64_of, Int.toNat_natCast, Int.toNat_zero, List.length_map, rdS, at_agg, bofZ, bof1, bof0, List.getD_cons_zero, List.getD_cons_succ, reduceCtorEq, Bool.not_true, Bool.not_false, decide_eq_true_eq, decide_eq_false_iff_not, Bool.not_eq_true, Bool.not_eq_false, Bool.not_eq_true', Bool.not_eq_false', ne_eq, Decidable.not_not, Int.not_le, Int.not_lt, beq_iff_eq] at h_s))
      | (refine hF ?_; intro _; clear hF)
      | (refine hF ?_; cbv; clear hF)
      | (refine ⟨fun _ => ?_, ?_⟩; (· ((try simp only [nc] at *); first | done | omega | exact ⟨by omega, rfl⟩ | (simp (disch := (first | omega | (simp only [lnS, List.length_append, List.length_map, List.length_range, List.length_replicate]; omega))) only [nc, nct, w64_of, Int.toNat_natCast, Int.toNat_zero, List.length_map, rdS, at_agg, bofZ, bof1, bof0, List.getD_cons_zero, List.getD_cons_succ]; first | done | omega | rfl | exact ⟨by omega, rfl⟩ | (simp; done) | (simp; omega)) | (intros; trivial))); (try (simp only [nc] at *)); (try simp (disch := (first | omega | (simp only [lnS, List.length_append, List.length_map, List.length_range, List.length_replicate]; omega))) only [nc, nct, w64_of, Int.toNat_natCast, Int.toNat_zero, List.length_map, rdS, at_agg, bofZ, bof1, bof0, List.getD_cons_zero, List.getD_cons_succ]); (try cbv))
      | fail
    )
    refine E.loopS (ι := Nat) (fun k => k ≤ g.th.length ∧ (runL mx mx ((lensT g).drop k) (S1 k) = r1 ∧ 0 ≤ S1 k ∧ S1 k ≤ 4 * mx + 4)) (fun k => g.th.length - k) (fun k => [(6, .i fun _ => ((k : Nat) : Int)), (5, .i fun _ => S1 k)]) (fun k h => h) 0 (fun _ => by first | rfl | simp) ⟨Nat.zero_le _, ?_⟩ ?_ fun k hk I2 hI2 => ?_
    · rw [z1, List.drop_zero]; exact ⟨hr1.symm, by omega⟩
    · cbv
      rw [z1, hs]
      simp (disch := omega) [light0, w64_of]
      repeat' split
      all_goals omega
    cbv
    have hgt := ths_le hg k
    have nk := n1 k
    have ek := fun h1 h2 => runL_step (mx := mx) (cap := mx) (l := lensT g) (s := s0) (k := k) h1 h2
    have fk := fun h1 => runL_end (mx := mx) (cap := mx) (l := lensT g) (s := s0) (k := k) h1
    rw [← hS1, ← hS1, ← hr1] at ek
    rw [← hS1, ← hr1] at fk
    repeat' (first
      | (refine hI2 (k + 1) ?_ ?_ ?_; rotate_left 1; (· ((try simp only [nc] at *); omega)); (cbv; clear hI2; (try clear hF); (try simp only [nc] at *); (try simp (disch := (first | omega | (simp only [lnS, List.length_append, List.length_map, List.length_range, List.length_replicate]; omega))) only [nc, nct, w64_of, Int.toNat_natCast, Int.toNat_zero, List.length_map, rdS, at_agg, bofZ, bof1, bof0, List.getD_cons_zero, List.getD_cons_succ, implies_true, and_true, true_and, forall_const])); rotate_left 1; (try ((try simp only [nc] at *); omega)))
      | (refine ⟨fun _ h_s => ?_, fun _ h_s => ?_⟩ <;> (cbv; (try simp only [nc] at *); try simp (disch := (first | omega | (simp only [lnS, List.length_append, List.length_map, List.length_range, List.length_replicate]; omega))) only [nc, nct, w64_of, Int.toNat_natCast, Int.toNat_zero, List.length_map, rdS, at_agg, bofZ, bof1, bof0, List.getD_cons_zero, List.getD_cons_succ, reduceCtorEq, Bool.not_true, Bool.not_false, decide_eq_true_eq, decide_eq_false_iff_not, Bool.not_eq_true, Bool.not_eq_false, Bool.not_eq_true', Bool.not_eq_false', ne_eq, Decidable.not_not, Int.not_le, Int.not_lt, beq_iff_eq] at h_s))
      | (refine hF ?_; intro _; clear hF)
      | (refine hF ?_; cbv; clear hF)
      | (refine ⟨fun _ => ?_, ?_⟩; (· ((try simp only [nc] at *); first | done | omega | exact ⟨by omega, rfl⟩ | (simp (disch := (first | omega | (simp only [lnS, List.length_append, List.length_map, List.length_range, List.length_replicate]; omega))) only [nc, nct, w64_of, Int.toNat_natCast, Int.toNat_zero, List.length_map, rdS, at_agg, bofZ, bof1, bof0, List.getD_cons_zero, List.getD_cons_succ]; first | done | omega | rfl | exact ⟨by omega, rfl⟩ | (simp; done) | (simp; omega)) | (intros; trivial))); (try (simp only [nc] at *)); (try simp (disch := (first | omega | (simp only [lnS, List.length_append, List.length_map, List.length_range, List.length_replicate]; omega))) only [nc, nct, w64_of, Int.toNat_natCast, Int.toNat_zero, List.length_map, rdS, at_agg, bofZ, bof1, bof0, List.getD_cons_zero, List.getD_cons_succ]); (try cbv))
      | fail
    )
    · refine ⟨?_, ?_⟩ <;> first | omega | (rw [nk (by ((try simp only [nc] at *); omega))]; split <;> omega)
    all_goals
      have hfk := fk (by ((try simp only [nc] at *); omega)) hk.2.1
      refine hI ?_
      cbv
      clear hI hI2 ek fk nk
      simp [hfk]
  refine E.cut 2 (told 111 [(1, .i fun _ => mx), (2, .ptr 0 0), (5, .i fun _ => r2)] [.box (aGr g)]) (by kernel_rfl) (Nat.zero_le _) (fun I hI => ?_) ?_
  · cbv
    repeat' (first
      | (refine ⟨fun _ h_s => ?_, fun _ h_s => ?_⟩ <;> (cbv; (try simp only [nc] at *); try simp (disch := (first | omega | (simp only [lnS, List.length_append, List.length_map, List.length_range, List.length_replicate]; omega))) only [nc, nct, w64_of, Int.toNat_natCast, Int.toNat_zero, List.length_map, rdS, at_agg, bofZ, bof1, bof0, List.getD_cons_zero, List.getD_cons_succ, reduceCtorEq, Bool.not_true, Bool.not_false, decide_eq_true_eq, decide_eq_false_iff_not, Bool.not_eq_true, Bool.not_eq_false, Bool.not_eq_true', Bool.not_eq_false', ne_eq, Decidable.not_not, Int.not_le, Int.not_lt, beq_iff_eq] at h_s))
      | (refine hF ?_; intro _; clear hF)
      | (refine hF ?_; cbv; clear hF)
      | (refine ⟨fun _ => ?_, ?_⟩; (· ((try simp only [nc] at *); first | done | omega | exact ⟨by omega, rfl⟩ | (simp (disch := (first | omega | (simp only [lnS, List.length_append, List.length_map, List.length_range, List.length_replicate]; omega))) only [nc, nct, w64_of, Int.toNat_natCast, Int.toNat_zero, List.length_map, rdS, at_agg, bofZ, bof1, bof0, List.getD_cons_zero, List.getD_cons_succ]; first | done | omega | rfl | exact ⟨by omega, rfl⟩ | (simp; done) | (simp; omega)) | (intros; trivial))); (try (simp only [nc] at *)); (try simp (disch := (first | omega | (simp only [lnS, List.length_append, List.length_map, List.length_range, List.length_replicate]; omega))) only [nc, nct, w64_of, Int.toNat_natCast, Int.toNat_zero, List.length_map, rdS, at_agg, bofZ, bof1, bof0, List.getD_cons_zero, List.getD_cons_succ]); (try cbv))
      | fail
    )
    refine E.loopS (ι := Nat) (fun k => k ≤ g.fr.length ∧ (runL mx (2 * mx) ((lensF g).drop k) (S2 k) = r2 ∧ 0 ≤ S2 k ∧ S2 k ≤ 4 * mx + 4)) (fun k => g.fr.length - k) (fun k => [(7, .i fun _ => ((k : Nat) : Int)), (5, .i fun _ => S2 k)]) (fun k h => h) 0 (fun _ => by first | rfl | simp) ⟨Nat.zero_le _, ?_⟩ ?_ fun k hk I2 hI2 => ?_
    · rw [z2, List.drop_zero]; exact ⟨hr2.symm, by omega⟩
    · cbv
      rw [z2]
      simp
    cbv
    have hgt := frs_le hg k
    have nk := n2 k
    have ek := fun h1 h2 => runL_step (mx := mx) (cap := (2 * mx)) (l := lensF g) (s := r1) (k := k) h1 h2
    have fk := fun h1 => runL_end (mx := mx) (cap := (2 * mx)) (l := lensF g) (s := r1) (k := k) h1
    rw [← hS2, ← hS2, ← hr2] at ek
    rw [← hS2, ← hr2] at fk
    repeat' (first
      | (refine hI2 (k + 1) ?_ ?_ ?_; rotate_left 1; (· ((try simp only [nc] at *); omega)); (cbv; clear hI2; (try clear hF); (try simp only [nc] at *); (try simp (disch := (first | omega | (simp only [lnS, List.length_append, List.length_map, List.length_range, List.length_replicate]; omega))) only [nc, nct, w64_of, Int.toNat_natCast, Int.toNat_zero, List.length_map, rdS, at_agg, bofZ, bof1, bof0, List.getD_cons_zero, List.getD_cons_succ, implies_true, and_true, true_and, forall_const])); rotate_left 1; (try ((try simp only [nc] at *); omega)))
      | (refine ⟨fun _ h_s => ?_, fun _ h_s => ?_⟩ <;> (cbv; (try simp only [nc] at *); try simp (disch := (first | omega | (simp only [lnS, List.length_append, List.length_map, List.length_range, List.length_replicate]; omega))) only [nc, nct, w64_of, Int.toNat_natCast, Int.toNat_zero, List.length_map, rdS, at_agg, bofZ, bof1, bof0, List.getD_cons_zero, List.getD_cons_succ, reduceCtorEq, Bool.not_true, Bool.not_false, decide_eq_true_eq, decide_eq_false_iff_not, Bool.not_eq_true, Bool.not_eq_false, Bool.not_eq_true', Bool.not_eq_false', ne_eq, Decidable.not_not, Int.not_le, Int.not_lt, beq_iff_eq] at h_s))
      | (refine hF ?_; intro _; clear hF)
      | (refine hF ?_; cbv; clear hF)
      | (refine ⟨fun _ => ?_, ?_⟩; (· ((try simp only [nc] at *); first | done | omega | exact ⟨by omega, rfl⟩ | (simp (disch := (first | omega | (simp only [lnS, List.length_append, List.length_map, List.length_range, List.length_replicate]; omega))) only [nc, nct, w64_of, Int.toNat_natCast, Int.toNat_zero, List.length_map, rdS, at_agg, bofZ, bof1, bof0, List.getD_cons_zero, List.getD_cons_succ]; first | done | omega | rfl | exact ⟨by omega, rfl⟩ | (simp; done) | (simp; omega)) | (intros; trivial))); (try (simp only [nc] at *)); (try simp (disch := (first | omega | (simp only [lnS, List.length_append, List.length_map, List.length_range, List.length_replicate]; omega))) only [nc, nct, w64_of, Int.toNat_natCast, Int.toNat_zero, List.length_map, rdS, at_agg, bofZ, bof1, bof0, List.getD_cons_zero, List.getD_cons_succ]); (try cbv))
      | fail
    )
    · refine ⟨?_, ?_⟩ <;> first | omega | (rw [nk (by ((try simp only [nc] at *); omega))]; split <;> omega)
    all_goals
      have hfk := fk (by ((try simp only [nc] at *); omega)) hk.2.1
      refine hI ?_
      cbv
      clear hI hI2 ek fk nk
      simp [hfk]
  refine E.cut 2 (told 111 [(1, .i fun _ => mx), (2, .ptr 0 0), (5, .i fun _ => r3)] [.box (aGr g)]) (by kernel_rfl) (Nat.zero_le _) (fun I hI => ?_) (E.bl ?_)
  · cbv
    repeat' (first
      | (refine ⟨fun _ h_s => ?_, fun _ h_s => ?_⟩ <;> (cbv; (try simp only [nc] at *); try simp (disch := (first | omega | (simp only [lnS, List.length_append, List.length_map, List.length_range, List.length_replicate]; omega))) only [nc, nct, w64_of, Int.toNat_natCast, Int.toNat_zero, List.length_map, rdS, at_agg, bofZ, bof1, bof0, List.getD_cons_zero, List.getD_cons_succ, reduceCtorEq, Bool.not_true, Bool.not_false, decide_eq_true_eq, decide_eq_false_iff_not, Bool.not_eq_true, Bool.not_eq_false, Bool.not_eq_true', Bool.not_eq_false', ne_eq, Decidable.not_not, Int.not_le, Int.not_lt, beq_iff_eq] at h_s))
      | (refine hF ?_; intro _; clear hF)
      | (refine hF ?_; cbv; clear hF)
      | (refine ⟨fun _ => ?_, ?_⟩; (· ((try simp only [nc] at *); first | done | omega | exact ⟨by omega, rfl⟩ | (simp (disch := (first | omega | (simp only [lnS, List.length_append, List.length_map, List.length_range, List.length_replicate]; omega))) only [nc, nct, w64_of, Int.toNat_natCast, Int.toNat_zero, List.length_map, rdS, at_agg, bofZ, bof1, bof0, List.getD_cons_zero, List.getD_cons_succ]; first | done | omega | rfl | exact ⟨by omega, rfl⟩ | (simp; done) | (simp; omega)) | (intros; trivial))); (try (simp only [nc] at *)); (try simp (disch := (first | omega | (simp only [lnS, List.length_append, List.length_map, List.length_range, List.length_replicate]; omega))) only [nc, nct, w64_of, Int.toNat_natCast, Int.toNat_zero, List.length_map, rdS, at_agg, bofZ, bof1, bof0, List.getD_cons_zero, List.getD_cons_succ]); (try cbv))
      | fail
    )
    refine E.loopS (ι := Nat) (fun k => k ≤ g.ord.length ∧ (runL mx (3 * mx) ((lensO g).drop k) (S3 k) = r3 ∧ 0 ≤ S3 k ∧ S3 k ≤ 4 * mx + 4)) (fun k => g.ord.length - k) (fun k => [(8, .i fun _ => ((k : Nat) : Int)), (5, .i fun _ => S3 k)]) (fun k h => h) 0 (fun _ => by first | rfl | simp) ⟨Nat.zero_le _, ?_⟩ ?_ fun k hk I2 hI2 => ?_
    · rw [z3, List.drop_zero]; exact ⟨hr3.symm, by omega⟩
    · cbv
      rw [z3]
      simp
    cbv
    have hgt := ordsAt hg k
    have nk := n3 k
    have ek := fun h1 h2 => runL_step (mx := mx) (cap := (3 * mx)) (l := lensO g) (s := r2) (k := k) h1 h2
    have fk := fun h1 => runL_end (mx := mx) (cap := (3 * mx)) (l := lensO g) (s := r2) (k := k) h1
    rw [← hS3, ← hS3, ← hr3] at ek
    rw [← hS3, ← hr3] at fk
    repeat' (first
      | (refine hI2 (k + 1) ?_ ?_ ?_; rotate_left 1; (· ((try simp only [nc] at *); omega)); (cbv; clear hI2; (try clear hF); (try simp only [nc] at *); (try simp (disch := (first | omega | (simp only [lnS, List.length_append, List.length_map, List.length_range, List.length_replicate]; omega))) only [nc, nct, w64_of, Int.toNat_natCast, Int.toNat_zero, List.length_map, rdS, at_agg, bofZ, bof1, bof0, List.getD_cons_zero, List.getD_cons_succ, implies_true, and_true, true_and, forall_const])); rotate_left 1; (try ((try simp only [nc] at *); omega)))
      | (refine ⟨fun _ h_s => ?_, fun _ h_s => ?_⟩ <;> (cbv; (try simp only [nc] at *); try simp (disch := (first | omega | (simp only [lnS, List.length_append, List.length_map, List.length_range, List.length_replicate]; omega))) only [nc, nct, w64_of, Int.toNat_natCast, Int.toNat_zero, List.length_map, rdS, at_agg, bofZ, bof1, bof0, List.getD_cons_zero, List.getD_cons_succ, reduceCtorEq, Bool.not_true, Bool.not_false, decide_eq_true_eq, decide_eq_false_iff_not, Bool.not_eq_true, Bool.not_eq_false, Bool.not_eq_true', Bool.not_eq_false', ne_eq, Decidable.not_not, Int.not_le, Int.not_lt, beq_iff_eq] at h_s))
      | (refine hF ?_; intro _; clear hF)
      | (refine hF ?_; cbv; clear hF)
      | (refine ⟨fun _ => ?_, ?_⟩; (· ((try simp only [nc] at *); first | done | omega | exact ⟨by omega, rfl⟩ | (simp (disch := (first | omega | (simp only [lnS, List.length_append, List.length_map, List.length_range, List.length_replicate]; omega))) only [nc, nct, w64_of, Int.toNat_natCast, Int.toNat_zero, List.length_map, rdS, at_agg, bofZ, bof1, bof0, List.getD_cons_zero, List.getD_cons_succ]; first | done | omega | rfl | exact ⟨by omega, rfl⟩ | (simp; done) | (simp; omega)) | (intros; trivial))); (try (simp only [nc] at *)); (try simp (disch := (first | omega | (simp only [lnS, List.length_append, List.length_map, List.length_range, List.length_replicate]; omega))) only [nc, nct, w64_of, Int.toNat_natCast, Int.toNat_zero, List.length_map, rdS, at_agg, bofZ, bof1, bof0, List.getD_cons_zero, List.getD_cons_succ]); (try cbv))
      | fail
    )
    · refine ⟨?_, ?_⟩ <;> first | omega | (rw [nk (by ((try simp only [nc] at *); omega))]; split <;> omega)
    all_goals
      have hfk := fk (by ((try simp only [nc] at *); omega)) hk.2.1
      refine hI ?_
      cbv
      clear hI hI2 ek fk nk
      simp [hfk]
  · cbv
    repeat' (first
      | (refine ⟨fun _ h_s => ?_, fun _ h_s => ?_⟩ <;> (cbv; (try simp only [nc] at *); try simp (disch := (first | omega | (simp only [lnS, List.length_append, List.length_map, List.length_range, List.length_replicate]; omega))) only [nc, nct, w64_of, Int.toNat_natCast, Int.toNat_zero, List.length_map, rdS, at_agg, bofZ, bof1, bof0, List.getD_cons_zero, List.getD_cons_succ, reduceCtorEq, Bool.not_true, Bool.not_false, decide_eq_true_eq, decide_eq_false_iff_not, Bool.not_eq_true, Bool.not_eq_false, Bool.not_eq_true', Bool.not_eq_false', ne_eq, Decidable.not_not, Int.not_le, Int.not_lt, beq_iff_eq] at h_s))
      | (refine hF ?_; intro _; clear hF)
      | (refine hF ?_; cbv; clear hF)
      | (refine ⟨fun _ => ?_, ?_⟩; (· ((try simp only [nc] at *); first | done | omega | exact ⟨by omega, rfl⟩ | (simp (disch := (first | omega | (simp only [lnS, List.length_append, List.length_map, List.length_range, List.length_replicate]; omega))) only [nc, nct, w64_of, Int.toNat_natCast, Int.toNat_zero, List.length_map, rdS, at_agg, bofZ, bof1, bof0, List.getD_cons_zero, List.getD_cons_succ]; first | done | omega | rfl | exact ⟨by omega, rfl⟩ | (simp; done) | (simp; omega)) | (intros; trivial))); (try (simp only [nc] at *)); (try simp (disch := (first | omega | (simp only [lnS, List.length_append, List.length_map, List.length_range, List.length_replicate]; omega))) only [nc, nct, w64_of, Int.toNat_natCast, Int.toNat_zero, List.length_map, rdS, at_agg, bofZ, bof1, bof0, List.getD_cons_zero, List.getD_cons_succ]); (try cbv))
      | fail
    )
    rw [w64_of (by omega) (by omega)]
end Go.AL.Rl

namespace Go.AL.Rl
open Go Go.AL Go.Proofs
set_option maxRecDepth 100000
set_option maxHeartbeats 1600000
variable {γ : Nat → Option AV}

def gS (o : Int) : Gr := ⟨[0], [[⟨2, 0, o, 0, 1⟩], [⟨1, 0, 3, 1, 0⟩]], [[⟨0, 0⟩], [⟨1, 0⟩]], [[⟨1, 0⟩]]⟩
theorem small_ok (o : Int) : Pure Try.prog γ false 26 [.i fun _ => o] (aGr (gS o)) := by
  refine Pure.go (ty := ty) ty_eq mo Try.func26 rfl Try.ntmps26 Try.results26 Try.call26 (by simp) fun P C CQ D W F E hF => ?_
  cbv
  repeat' (first
    | (refine ⟨fun _ h_s => ?_, fun _ h_s => ?_⟩ <;> (cbv; (try simp only [nc] at *); try simp (disch := (first | omega | (simp only [lnS, List.length_append, List.length_map, List.length_range, List.length_replicate]; omega))) only [nc, nct, w64_of, Int.toNat_natCast, Int.toNat_zero, List.length_map, rdS, at_agg, bofZ, bof1, bof0, List.getD_cons_zero, List.getD_cons_succ, reduceCtorEq, Bool.not_true, Bool.not_false, decide_eq_true_eq, decide_eq_false_iff_not, Bool.not_eq_true, Bool.not_eq_false, Bool.not_eq_true', Bool.not_eq_false', ne_eq, Decidable.not_not, Int.not_le, Int.not_lt, beq_iff_eq] at h_s))
    | (refine hF ?_; intro _; clear hF)
    | (refine hF ?_; cbv; clear hF)
    | (refine ⟨fun _ => ?_, ?_⟩; (· ((try simp only [nc] at *); first | done | omega | exact ⟨by omega, rfl⟩ | (simp (disch := (first | omega | (simp only [lnS, List.length_append, List.length_map, List.length_range, List.length_replicate]; omega))) only [nc, nct, w64_of, Int.toNat_natCast, Int.toNat_zero, List.length_map, rdS, at_agg, bofZ, bof1, bof0, List.getD_cons_zero, List.getD_cons_succ]; first | done | omega | rfl | exact ⟨by omega, rfl⟩ | (simp; done) | (simp; omega)) | (intros; trivial))); (try (simp only [nc] at *)); (try simp (disch := (first | omega | (simp only [lnS, List.length_append, List.length_map, List.length_range, List.length_replicate]; omega))) only [nc, nct, w64_of, Int.toNat_natCast, Int.toNat_zero, List.length_map, rdS, at_agg, bofZ, bof1, bof0, List.getD_cons_zero, List.getD_cons_succ]); (try cbv))
    | fail
  )
def tgtC (V : Vw) (n w : Nat) : BitVec 64 := maskTo (fun a => acqM (V.ev.getD a ev0) && behM V n (maskTo (rdrM V (1#64 <<< w)) n) a) n
def rowC (V : Vw) (n : Nat) : Nat → Nat → BitVec 64
  | 0, _ => 0#64
  | w + 1, r => if swR V w r = true then rowC V n w r ||| tgtC V n w else rowC V n w r
def swC (V : Vw) (n : Nat) : List (BitVec 64) := relRows n (bit (tab n (rowC V n n)))
theorem seq_plain {V : Vw} {n w : Nat} (hn : n ≤ 64) (hw : w < n) (h : ∀ i < n, (V.ev.getD i ev0).kind ≠ 3) : 1#64 <<< w = seqM V n w := by
  refine seq_unique hn hw ?_ (fun j hj => ?_) fun i hi hk => absurd hk (h i hi)
  · rw [BitVec.getLsbD_shiftLeft, BitVec.getLsbD_one]; simp; omega
  · rw [BitVec.getLsbD_shiftLeft, BitVec.getLsbD_one] at hj
    simp at hj
    have : j = w := by omega
    subst this
    exact .base
theorem rowC_eq {V : Vw} {n : Nat} (hn : n ≤ 64) (h : ∀ i < n, (V.ev.getD i ev0).kind ≠ 3) : ∀ k, k ≤ n → ∀ r, rowT V n k r = rowC V n k r
  | 0, _, _ => rfl
  | k + 1, hk, r => by
    have e : tgtM V n k = tgtC V n k := by unfold tgtM tgtC; rw [seq_plain hn (by omega) h]
    show (if swR V k r = true then rowT V n k r ||| tgtM V n k else rowT V n k r) = if swR V k r = true then rowC V n k r ||| tgtC V n k else rowC V n k r
    rw [rowC_eq hn h k (by omega) r, e]
theorem swC_eq {V : Vw} {n : Nat} (hn : n ≤ 64) (h : ∀ i < n, (V.ev.getD i ev0).kind ≠ 3) : swF V n = swC V n := by
  unfold swF swC swRows
  rw [show rowT V n n = rowC V n n from funext fun r => rowC_eq hn h n (Nat.le_refl _) r]
def vS (o : Int) : Vw := ⟨[⟨0, 0⟩, ⟨1, 0⟩, ⟨2, 0⟩], [⟨2, 0, 1, 0, 0⟩, ⟨2, 0, o, 0, 1⟩, ⟨1, 0, 3, 1, 0⟩], [-1, -1, 1], [0, 1, -1]⟩
theorem gS4 : GOk (gS 4) := by decide +kernel
theorem gS4v : viewG (gS 4) = vS 4 := by
  unfold viewG vS
  simp only [Vw.mk.injEq]
  decide +kernel
theorem gSn (o : Int) : nG (gS o) = 3 := rfl
theorem NG4 : NG (gS 4) = 3 := by unfold NG; rw [if_pos gS4, gSn]; rfl
theorem rows4 (f : Vw → Nat → List (BitVec 64)) : rowsG (gS 4) f = f (vS 4) 3 := by unfold rowsG; rw [if_pos gS4, gSn, gS4v]
theorem po4 : rowsG (gS 4) poF = [6, 0, 0] := by rw [rows4]; decide +kernel
theorem rf4 : rowsG (gS 4) rfF = [0, 4, 0] := by rw [rows4]; decide +kernel
theorem sw4 : rowsG (gS 4) swF = [0, 4, 0] := by rw [rows4, swC_eq (by omega) (by decide +kernel)]; decide +kernel
theorem hb4 : rowsG (gS 4) hbF = [6, 4, 0] := by
  rw [rows4]
  have := sw4
  rw [rows4] at this
  unfold hbF
  rw [this]
  decide +kernel
theorem rdSm (o : Int) : Rd (gS o) := by
  refine ⟨by simp [gS], by simp [gS], by simp [gS], by simp [gS], ?_, ?_, ?_⟩ <;> simp [gS]
end Go.AL.Rl

namespace Go.AL.Rl
open Go Go.AL Go.Proofs
set_option maxRecDepth 100000
set_option maxHeartbeats 1600000
variable {γ : Nat → Option AV}

theorem lives15_ok : Pure Try.prog γ false 4 [] (.b fun _ => true) := by
  have p1 := dPo_ok (γ := γ) (gS 4) (rdSm 4)
  have p2 := dRf_ok (γ := γ) (gS 4) (rdSm 4)
  have p3 := dSw_ok (γ := γ) (gS 4) (rdSm 4)
  have p4 := dHb_ok (γ := γ) (gS 4) (rdSm 4)
  rw [NG4, po4] at p1
  rw [NG4, rf4] at p2
  rw [NG4, sw4] at p3
  rw [NG4, hb4] at p4
  have o1 := rof_in (γ := γ) 3 [(0, 1), (0, 2)] (by omega) (by omega) (by simp)
  have o2 := rof_in (γ := γ) 3 [(1, 2)] (by omega) (by omega) (by simp)
  have o3 := rof_in (γ := γ) 3 [(0, 1), (0, 2), (1, 2)] (by omega) (by omega) (by simp)
  rw [show ofTo 3 [(0, 1), (0, 2)] [((0 : Int), (1 : Int)), (0, 2)].length = [6, 0, 0] by decide +kernel] at o1
  rw [show ofTo 3 [(1, 2)] [((1 : Int), (2 : Int))].length = [0, 4, 0] by decide +kernel] at o2
  rw [show ofTo 3 [(0, 1), (0, 2), (1, 2)] [((0 : Int), (1 : Int)), (0, 2), (1, 2)].length = [6, 4, 0] by decide +kernel] at o3
  have k1 := kitRel_ok (γ := γ) 3 3 [6, 0, 0] [6, 0, 0] (by simp)
  have k2 := kitRel_ok (γ := γ) 3 3 [0, 4, 0] [0, 4, 0] (by simp)
  have k3 := kitRel_ok (γ := γ) 3 3 [6, 4, 0] [6, 4, 0] (by simp)
  simp only [and_self, decide_true] at k1 k2 k3
  refine Pure.go (ty := ty) ty_eq mo Try.func4 rfl Try.ntmps4 Try.results4 Try.call4 (by simp) fun P C CQ D W F E hF => ?_
  cbv
  repeat' (first
    | (refine E.c (SCalls.of_le (k3) ?_ ?_); (· (cbv; (try simp only [nc] at *); first | done | (simp; done) | (simp (disch := (first | omega | (simp only [lnS, List.length_append, List.length_map, List.length_range, List.length_replicate]; omega))) only [nc, nct, w64_of, Int.toNat_natCast, Int.toNat_zero, List.length_map, rdS, at_agg, bofZ, bof1, bof0, List.getD_cons_zero, List.getD_cons_succ, implies_true, and_true, true_and, forall_const]; first | done | omega | (refine ⟨?_, ?_⟩ <;> omega)) | (simp (disch := (first | omega | (simp only [lnS, List.length_append, List.length_map, List.length_range, List.length_replicate]; omega))) [nc, nct, w64_of, Int.toNat_natCast, Int.toNat_zero, List.length_map, rdS, at_agg, bofZ, bof1, bof0, List.getD_cons_zero, List.getD_cons_succ]; done))); cbv)
    | (refine E.c (SCalls.of_le (k2) ?_ ?_); (· (cbv; (try simp only [nc] at *); first | done | (simp; done) | (simp (disch := (first | omega | (simp only [lnS, List.length_append, List.length_map, List.length_range, List.length_replicate]; omega))) only [nc, nct, w64_of, Int.toNat_natCast, Int.toNat_zero, List.length_map, rdS, at_agg, bofZ, bof1, bof0, List.getD_cons_zero, List.getD_cons_succ, implies_true, and_true, true_and, forall_const]; first | done | omega | (refine ⟨?_, ?_⟩ <;> omega)) | (simp (disch := (first | omega | (simp only [lnS, List.length_append, List.length_map, List.length_range, List.length_replicate]; omega))) [nc, nct, w64_of, Int.toNat_natCast, Int.toNat_zero, List.length_map, rdS, at_agg, bofZ, bof1, bof0, List.getD_cons_zero, List.getD_cons_succ]; done))); cbv)
    | (refine E.c (SCalls.of_le (k1) ?_ ?_); (· (cbv; (try simp only [nc] at *); first | done | (simp; done) | (simp (disch := (first | omega | (simp only [lnS, List.length_append, List.length_map, List.length_range, List.length_replicate]; omega))) only [nc, nct, w64_of, Int.toNat_natCast, Int.toNat_zero, List.length_map, rdS, at_agg, bofZ, bof1, bof0, List.getD_cons_zero, List.getD_cons_succ, implies_true, and_true, true_and, forall_const]; first | done | omega | (refine ⟨?_, ?_⟩ <;> omega)) | (simp (disch := (first | omega | (simp only [lnS, List.length_append, List.length_map, List.length_range, List.length_replicate]; omega))) [nc, nct, w64_of, Int.toNat_natCast, Int.toNat_zero, List.length_map, rdS, at_agg, bofZ, bof1, bof0, List.getD_cons_zero, List.getD_cons_succ]; done))); cbv)
    | (refine E.c (SCalls.of_bare (o3) rfl ?_ ?_); (· (cbv; simp [rls, ps, us, is, LV.of]; done)); cbv)
    | (refine E.c (SCalls.of_le (o3) ?_ ?_); (· (cbv; simp [rls, ps, us, is, LV.of]; done)); cbv)
    | (refine E.q (QCalls.of_le (o3) ?_ ?_); (· (cbv; simp [rls, ps, us, is, LV.of]; done)); cbv)
    | (refine E.c (SCalls.of_bare (o2) rfl ?_ ?_); (· (cbv; simp [rls, ps, us, is, LV.of]; done)); cbv)
    | (refine E.c (SCalls.of_le (o2) ?_ ?_); (· (cbv; simp [rls, ps, us, is, LV.of]; done)); cbv)
    | (refine E.q (QCalls.of_le (o2) ?_ ?_); (· (cbv; simp [rls, ps, us, is, LV.of]; done)); cbv)
    | (refine E.c (SCalls.of_bare (o1) rfl ?_ ?_); (· (cbv; simp [rls, ps, us, is, LV.of]; done)); cbv)
    | (refine E.c (SCalls.of_le (o1) ?_ ?_); (· (cbv; simp [rls, ps, us, is, LV.of]; done)); cbv)
    | (refine E.q (QCalls.of_le (o1) ?_ ?_); (· (cbv; simp [rls, ps, us, is, LV.of]; done)); cbv)
    | (refine E.c (SCalls.of_le (p4) ?_ ?_); (· (cbv; (try simp only [nc] at *); first | done | (simp; done) | (simp (disch := (first | omega | (simp only [lnS, List.length_append, List.length_map, List.length_range, List.length_replicate]; omega))) only [nc, nct, w64_of, Int.toNat_natCast, Int.toNat_zero, List.length_map, rdS, at_agg, bofZ, bof1, bof0, List.getD_cons_zero, List.getD_cons_succ, implies_true, and_true, true_and, forall_const]; first | done | omega | (refine ⟨?_, ?_⟩ <;> omega)) | (simp (disch := (first | omega | (simp only [lnS, List.length_append, List.length_map, List.length_range, List.length_replicate]; omega))) [nc, nct, w64_of, Int.toNat_natCast, Int.toNat_zero, List.length_map, rdS, at_agg, bofZ, bof1, bof0, List.getD_cons_zero, List.getD_cons_succ]; done))); cbv)
    | (refine E.c (SCalls.of_le (p3) ?_ ?_); (· (cbv; (try simp only [nc] at *); first | done | (simp; done) | (simp (disch := (first | omega | (simp only [lnS, List.length_append, List.length_map, List.length_range, List.length_replicate]; omega))) only [nc, nct, w64_of, Int.toNat_natCast, Int.toNat_zero, List.length_map, rdS, at_agg, bofZ, bof1, bof0, List.getD_cons_zero, List.getD_cons_succ, implies_true, and_true, true_and, forall_const]; first | done | omega | (refine ⟨?_, ?_⟩ <;> omega)) | (simp (disch := (first | omega | (simp only [lnS, List.length_append, List.length_map, List.length_range, List.length_replicate]; omega))) [nc, nct, w64_of, Int.toNat_natCast, Int.toNat_zero, List.length_map, rdS, at_agg, bofZ, bof1, bof0, List.getD_cons_zero, List.getD_cons_succ]; done))); cbv)
    | (refine E.c (SCalls.of_le (p2) ?_ ?_); (· (cbv; (try simp only [nc] at *); first | done | (simp; done) | (simp (disch := (first | omega | (simp only [lnS, List.length_append, List.length_map, List.length_range, List.length_replicate]; omega))) only [nc, nct, w64_of, Int.toNat_natCast, Int.toNat_zero, List.length_map, rdS, at_agg, bofZ, bof1, bof0, List.getD_cons_zero, List.getD_cons_succ, implies_true, and_true, true_and, forall_const]; first | done | omega | (refine ⟨?_, ?_⟩ <;> omega)) | (simp (disch := (first | omega | (simp only [lnS, List.length_append, List.length_map, List.length_range, List.length_replicate]; omega))) [nc, nct, w64_of, Int.toNat_natCast, Int.toNat_zero, List.length_map, rdS, at_agg, bofZ, bof1, bof0, List.getD_cons_zero, List.getD_cons_succ]; done))); cbv)
    | (refine E.c (SCalls.of_le (p1) ?_ ?_); (· (cbv; (try simp only [nc] at *); first | done | (simp; done) | (simp (disch := (first | omega | (simp only [lnS, List.length_append, List.length_map, List.length_range, List.length_replicate]; omega))) only [nc, nct, w64_of, Int.toNat_natCast, Int.toNat_zero, List.length_map, rdS, at_agg, bofZ, bof1, bof0, List.getD_cons_zero, List.getD_cons_succ, implies_true, and_true, true_and, forall_const]; first | done | omega | (refine ⟨?_, ?_⟩ <;> omega)) | (simp (disch := (first | omega | (simp only [lnS, List.length_append, List.length_map, List.length_range, List.length_replicate]; omega))) [nc, nct, w64_of, Int.toNat_natCast, Int.toNat_zero, List.length_map, rdS, at_agg, bofZ, bof1, bof0, List.getD_cons_zero, List.getD_cons_succ]; done))); cbv)
    | (refine E.c (SCalls.of_le (small_ok 4) ?_ ?_); (· (cbv; (try simp only [nc] at *); first | done | (simp; done) | (simp (disch := (first | omega | (simp only [lnS, List.length_append, List.length_map, List.length_range, List.length_replicate]; omega))) only [nc, nct, w64_of, Int.toNat_natCast, Int.toNat_zero, List.length_map, rdS, at_agg, bofZ, bof1, bof0, List.getD_cons_zero, List.getD_cons_succ, implies_true, and_true, true_and, forall_const]; first | done | omega | (refine ⟨?_, ?_⟩ <;> omega)) | (simp (disch := (first | omega | (simp only [lnS, List.length_append, List.length_map, List.length_range, List.length_replicate]; omega))) [nc, nct, w64_of, Int.toNat_natCast, Int.toNat_zero, List.length_map, rdS, at_agg, bofZ, bof1, bof0, List.getD_cons_zero, List.getD_cons_succ]; done))); cbv)
    | (refine ⟨fun _ h_s => ?_, fun _ h_s => ?_⟩ <;> (cbv; (try simp only [nc] at *); try simp (disch := (first | omega | (simp only [lnS, List.length_append, List.length_map, List.length_range, List.length_replicate]; omega))) only [nc, nct, w64_of, Int.toNat_natCast, Int.toNat_zero, List.length_map, rdS, at_agg, bofZ, bof1, bof0, List.getD_cons_zero, List.getD_cons_succ, reduceCtorEq, Bool.not_true, Bool.not_false, decide_eq_true_eq, decide_eq_false_iff_not, Bool.not_eq_true, Bool.not_eq_false, Bool.not_eq_true', Bool.not_eq_false', ne_eq, Decidable.not_not, Int.not_le, Int.not_lt, beq_iff_eq] at h_s))
    | (refine hF ?_; intro _; clear hF)
    | (refine hF ?_; cbv; clear hF)
    | (refine ⟨fun _ => ?_, ?_⟩; (· ((try simp only [nc] at *); first | done | omega | exact ⟨by omega, rfl⟩ | (simp (disch := (first | omega | (simp only [lnS, List.length_append, List.length_map, List.length_range, List.length_replicate]; omega))) only [nc, nct, w64_of, Int.toNat_natCast, Int.toNat_zero, List.length_map, rdS, at_agg, bofZ, bof1, bof0, List.getD_cons_zero, List.getD_cons_succ]; first | done | omega | rfl | exact ⟨by omega, rfl⟩ | (simp; done) | (simp; omega)) | (intros; trivial))); (try (simp only [nc] at *)); (try simp (disch := (first | omega | (simp only [lnS, List.length_append, List.length_map, List.length_range, List.length_replicate]; omega))) only [nc, nct, w64_of, Int.toNat_natCast, Int.toNat_zero, List.length_map, rdS, at_agg, bofZ, bof1, bof0, List.getD_cons_zero, List.getD_cons_succ]); (try cbv))
    | fail
  )
  all_goals rfl
end Go.AL.Rl

namespace Go.AL.Rl
open Go Go.AL Go.Proofs
set_option maxRecDepth 100000

end Go.AL.Rl
