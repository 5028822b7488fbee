import Derived.Test.YtljjjeehpiaglaaDC6
set_option linter.unusedVariables false
set_option linter.unusedSimpArgs false
namespace Go.AL.Rl
open Go Go.AL Go.Proofs
set_option maxRecDepth 100000

theorem notFence_w {e : Ev} (h : writesM e = true) : fenceM e = false := by
  unfold writesM at h; unfold fenceM
  simp only [Bool.or_eq_true, decide_eq_true_eq, decide_eq_false_iff_not] at *
  omega
theorem near_of {V : Vw} {a b : Nat} (h1 : fenceM (V.ev.getD a ev0) = false) (h2 : fenceM (V.ev.getD b ev0) = false) (h : (V.ev.getD a ev0).loc = (V.ev.getD b ev0).loc) : nearM V a b = true := by
  unfold nearM
  simp only [h1, h2, Bool.not_false, Bool.true_and, decide_eq_true_eq]
  exact h
theorem event_init {g : Gr} {d : EId} {e : Ev} (h : eventM g d = some e) (h0 : d.t = 0) : e.kind = 2 ∧ e.loc = d.i ∧ 0 ≤ d.i := by
  unfold eventM at h
  rw [if_pos h0] at h
  split at h
  · rename_i hc
    cases h
    exact ⟨rfl, rfl, hc.1⟩
  · cases h
theorem event_fine {g : Gr} (hg : GOk g) {d : EId} {e : Ev} (h : eventM g d = some e) (h0 : d.t ≠ 0) : fineM g.init.length e = true := by
  unfold eventM at h
  rw [if_neg h0] at h
  split at h
  · rename_i hc
    cases h
    exact (hg.events (d.t - 1).toNat (by omega)).2 d.i.toNat (by omega)
  · cases h
theorem fine_loc {n : Int} {e : Ev} (h : fineM n e = true) (hk : fenceM e = false) : 0 ≤ e.loc ∧ e.loc < n := by
  unfold fineM at h; unfold fenceM at hk
  simp only [Bool.and_eq_true, decide_eq_true_eq, decide_eq_false_iff_not] at *
  have := h.2
  rw [if_neg hk] at this
  simpa using this
/-- each write of a thread stands in its location's order -/
theorem ord_has {g : Gr} (hg : GOk g) {x : Nat} {d : EId} (h : isW g x d = true) : d ∈ g.ord.getD x [] := by
  have hp := (orders_perm hg.lord hg.events).1 hg.orders
  have := hp.symm.subset ((isW_mem g x d).1 h)
  unfold qsT at this
  simp only [List.mem_flatMap, List.mem_range, List.mem_map] at this
  obtain ⟨k, hk, d', hd, he⟩ := this
  obtain ⟨rfl, h2⟩ := Prod.mk.inj he
  have : k = x := by omega
  subst this
  exact hd
theorem isW_of {g : Gr} {d : EId} {e : Ev} (h : eventM g d = some e) (h0 : d.t ≠ 0) (hw : writesM e = true) (x : Int) (hx : e.loc = x) : isW g x d = true := by
  unfold isW
  rw [h]
  simp [h0, hw, hx]
theorem pl_write {g : Gr} (hg : GOk g) {d : EId} {e : Ev} (h : eventM g d = some e) (hw : writesM e = true) :
    d.t = 0 ∧ plOf g d = 0 ∨ d.t ≠ 0 ∧ ∃ k : Nat, plOf g d = k + 1 ∧ k < (g.ord.getD e.loc.toNat []).length ∧ (g.ord.getD e.loc.toNat []).getD k id0 = d := by
  by_cases h0 : d.t = 0
  · exact .inl ⟨h0, by unfold plOf; rw [if_pos h0]⟩
  · refine .inr ⟨h0, ?_⟩
    have hl := fine_loc (event_fine hg h h0) (notFence_w hw)
    have hm := ord_has hg (x := e.loc.toNat) (isW_of h h0 hw _ (by omega))
    have hf := numOf_find hm
    refine ⟨numOf (g.ord.getD e.loc.toNat []) d, ?_, numOf_lt hm, numOf_get hm⟩
    unfold plOf
    rw [if_neg h0, h, Option.getD_some, hf]
theorem pl_other {g : Gr} (hg : GOk g) {d : EId} {e : Ev} (h : eventM g d = some e) (hw : writesM e = false) : plOf g d = -1 := by
  have h0 : d.t ≠ 0 := fun h0 => by
    obtain ⟨hk, _⟩ := event_init h h0
    unfold writesM at hw
    simp [hk] at hw
  unfold plOf
  rw [if_neg h0, h, Option.getD_some]
  split
  · rename_i k hk
    exfalso
    rw [List.findIdx?_eq_some_iff_getElem] at hk
    obtain ⟨h1, h2, _⟩ := hk
    have hm := List.getElem_mem h1
    simp only [decide_eq_true_eq] at h2
    rw [h2] at hm
    have hx : e.loc.toNat < g.init.length := by
      rcases Nat.lt_or_ge e.loc.toNat g.ord.length with hc | hc
      · rw [← hg.lord]; exact hc
      · rw [List.getD_eq_getElem?_getD, List.getElem?_eq_none hc] at hm; simp at hm
    obtain ⟨_, q2, _⟩ := (ordered_iff g e.loc.toNat).1 (hg.orders _ hx)
    obtain ⟨e', he', _, hw', _⟩ := isW_event (q2 _ hm)
    rw [h] at he'
    cases he'
    rw [hw] at hw'; cases hw'
  · rfl
theorem vev {g : Gr} (_ : GOk g) (i : Nat) (hi : i < nG g) : eventM g ((idsG g).getD i id0) = some ((viewG g).ev.getD i ev0) := evsG_get g i hi
theorem vpl {g : Gr} (_ : GOk g) (i : Nat) (hi : i < nG g) : (viewG g).pl.getD i 0 = plOf g ((idsG g).getD i id0) := tabI_get _ _ _ hi
theorem vfr {g : Gr} (_ : GOk g) (i : Nat) (hi : i < nG g) : (viewG g).fr.getD i 0 = frOf g ((idsG g).getD i id0) := tabI_get _ _ _ hi
theorem init_reads {g : Gr} {d : EId} {e : Ev} (h : eventM g d = some e) (h0 : d.t = 0) : readsM e = false := by
  obtain ⟨hk, _⟩ := event_init h h0
  unfold readsM; rw [hk]; rfl
section
variable {g : Gr} (hg : GOk g)
include hg
theorem pl_iff (i : Nat) (hi : i < nG g) : 0 ≤ (viewG g).pl.getD i 0 ↔ writesM ((viewG g).ev.getD i ev0) = true := by
  rw [vpl hg i hi]
  constructor
  · intro h
    cases hw : writesM ((viewG g).ev.getD i ev0) with
    | true => rfl
    | false => rw [pl_other hg (vev hg i hi) hw] at h; omega
  · intro h
    rcases pl_write hg (vev hg i hi) h with ⟨_, h2⟩ | ⟨_, k, h2, _⟩ <;> omega
theorem fr_iff (i : Nat) (hi : i < nG g) : 0 ≤ (viewG g).fr.getD i 0 ↔ readsM ((viewG g).ev.getD i ev0) = true := by
  rw [vfr hg i hi]
  have he := vev hg i hi
  unfold frOf
  split
  · rename_i h0
    rw [init_reads he h0]
    constructor
    · intro h; omega
    · intro h; cases h
  · rw [he, Option.getD_some]
    split
    · rename_i h; simp only [h, iff_true]; omega
    · rename_i h; simp only [h, Bool.false_eq_true, iff_false]; omega
end
theorem mod2_bit (x : BitVec 64) (i : Nat) : (x >>> i) % BitVec.ofInt 64 2 = 1#64 ↔ x.getLsbD i = true := by
  rw [← BitVec.toNat_inj, BitVec.toNat_umod, BitVec.toNat_ushiftRight, BitVec.getLsbD, Nat.testBit_eq_decide_div_mod_eq, decide_eq_true_eq, Nat.shiftRight_eq_div_pow]
  rfl
end Go.AL.Rl

namespace Go.AL.Rl
open Go Go.AL Go.Proofs
set_option maxRecDepth 100000
set_option maxHeartbeats 1600000
variable {γ : Nat → Option AV}

end Go.AL.Rl

namespace Go.AL.Rl
open Go Go.AL Go.Proofs
set_option maxRecDepth 100000
set_option maxHeartbeats 1600000
variable {γ : Nat → Option AV}

theorem ids14_ok (g : Gr) (hs : Short g) : Pure Try.prog γ false 71 [aGr g] (.vs 2 fun _ => ids (idsG g)) := by
  have hin := hs.init
  have hth := hs.th
  have hg : ∀ t, (g.th.getD t []).length ≤ 14 := hs.at
  obtain ⟨L, hL⟩ : ∃ L : Nat → List EId, ∀ x, L x = idsI x := ⟨_, fun _ => rfl⟩
  obtain ⟨L2, hL2⟩ : ∃ L2 : Nat → Nat → List EId, ∀ t i, L2 t i = idsI g.init.length ++ idsT g t ++ idsE t i := ⟨_, fun _ _ => rfl⟩
  have l0 : L 0 = [] := by rw [hL]; rfl
  have lS : ∀ x, L (x + 1) = L x ++ [⟨0, x⟩] := fun x => by rw [hL, hL, idsI_succ]
  have lL : ∀ x, (L x).length = x := fun x => by rw [hL, idsI_len]
  have lE : L g.init.length = L2 0 0 := by rw [hL, hL2]; simp [idsT, idsE]
  have mS : ∀ t i, L2 t (i + 1) = L2 t i ++ [⟨t + 1, i⟩] := fun t i => by rw [hL2, hL2, idsE_succ]; simp only [List.append_assoc]
  have mE : ∀ t, L2 t (g.th.getD t []).length = L2 (t + 1) 0 := fun t => by rw [hL2, hL2, idsT_succ]; simp [idsE]
  have mF : L2 g.th.length 0 = idsG g := by rw [hL2]; simp [idsE, idsG]
  have mL : ∀ t i, (L2 t i).length ≤ 6 + 14 * t + i := fun t i => by
    have := evsT_len hs t
    rw [hL2]; simp only [List.length_append, idsI_len, idsE_len, idsT_len]; omega
  obtain ⟨G, hG⟩ : ∃ G : List EId → Nat, ∀ l, G l = l.length := ⟨_, fun _ => rfl⟩
  have hG0 : G [] = 0 := by rw [hG]; rfl
  refine Pure.go (ty := ty) ty_eq mo Try.func71 rfl Try.ntmps71 Try.results71 Try.call71 (by simp) fun P C CQ D W F E hF => ?_
  cbv
  repeat' (first
    | (refine ⟨fun _ h_s => ?_, fun _ h_s => ?_⟩ <;> (cbv; (try simp only [nc] at *); try simp (disch := (first | omega | (simp only [lnS, List.length_append, List.length_map, List.length_range, List.length_replicate]; omega))) only [nc, nct, w64_of, Int.toNat_natCast, Int.toNat_zero, List.length_map, rdS, at_agg, bofZ, bof1, bof0, List.getD_cons_zero, List.getD_cons_succ, reduceCtorEq, Bool.not_true, Bool.not_false, decide_eq_true_eq, decide_eq_false_iff_not, Bool.not_eq_true, Bool.not_eq_false, Bool.not_eq_true', Bool.not_eq_false', ne_eq, Decidable.not_not, Int.not_le, Int.not_lt, beq_iff_eq] at h_s))
    | (refine hF ?_; intro _; clear hF)
    | (refine hF ?_; cbv; clear hF)
    | (refine ⟨fun _ => ?_, ?_⟩; (· ((try simp only [nc] at *); first | done | omega | exact ⟨by omega, rfl⟩ | (simp (disch := (first | omega | (simp only [lnS, List.length_append, List.length_map, List.length_range, List.length_replicate]; omega))) only [nc, nct, w64_of, Int.toNat_natCast, Int.toNat_zero, List.length_map, rdS, at_agg, bofZ, bof1, bof0, List.getD_cons_zero, List.getD_cons_succ]; first | done | omega | rfl | exact ⟨by omega, rfl⟩ | (simp; done) | (simp; omega)) | (intros; trivial))); (try (simp only [nc] at *)); (try simp (disch := (first | omega | (simp only [lnS, List.length_append, List.length_map, List.length_range, List.length_replicate]; omega))) only [nc, nct, w64_of, Int.toNat_natCast, Int.toNat_zero, List.length_map, rdS, at_agg, bofZ, bof1, bof0, List.getD_cons_zero, List.getD_cons_succ]); (try cbv))
    | fail
  )
  refine E.w (AWP.ghostSlot 3 2 rfl (by omega) (E.loopSA (ι := Nat) (fun x => x ≤ g.init.length) (fun x => g.init.length - x) (fun x => [(4, .i fun _ => ((x : Nat) : Int)), (3, .sl 1 (G (L x)) 2 (fun _ => 0) fun _ => (L x).length)]) (fun x h => h.set 1 (.run (G (L x)) 2 fun _ => ids (L x))) 0 (fun _ => by first | rfl | simp) (Nat.zero_le _) ?_ fun x hx I hI => ?_))
  · cbv; simp [l0, hG0, ids, LV.of]
  cbv
  have e1 := lS x
  have e2 := lL x
  skip
  repeat' (first
    | (refine hI (x + 1) ?_ ?_ ?_; rotate_left 1; (· ((try simp only [nc] at *); omega)); (cbv; clear hI; (try clear hF); (try simp only [nc] at *); (try simp (disch := (first | omega | (simp only [lnS, List.length_append, List.length_map, List.length_range, List.length_replicate]; omega))) only [nc, nct, w64_of, Int.toNat_natCast, Int.toNat_zero, List.length_map, rdS, at_agg, bofZ, bof1, bof0, List.getD_cons_zero, List.getD_cons_succ, implies_true, and_true, true_and, forall_const])); rotate_left 1; (try ((try simp only [nc] at *); omega)))
    | (refine ⟨fun _ h_s => ?_, fun _ h_s => ?_⟩ <;> (cbv; (try simp only [nc] at *); try simp (disch := (first | omega | (simp only [lnS, List.length_append, List.length_map, List.length_range, List.length_replicate]; omega))) only [nc, nct, w64_of, Int.toNat_natCast, Int.toNat_zero, List.length_map, rdS, at_agg, bofZ, bof1, bof0, List.getD_cons_zero, List.getD_cons_succ, reduceCtorEq, Bool.not_true, Bool.not_false, decide_eq_true_eq, decide_eq_false_iff_not, Bool.not_eq_true, Bool.not_eq_false, Bool.not_eq_true', Bool.not_eq_false', ne_eq, Decidable.not_not, Int.not_le, Int.not_lt, beq_iff_eq] at h_s))
    | (refine hF ?_; intro _; clear hF)
    | (refine hF ?_; cbv; clear hF)
    | (refine ⟨fun _ => ?_, ?_⟩; (· ((try simp only [nc] at *); first | done | omega | exact ⟨by omega, rfl⟩ | (simp (disch := (first | omega | (simp only [lnS, List.length_append, List.length_map, List.length_range, List.length_replicate]; omega))) only [nc, nct, w64_of, Int.toNat_natCast, Int.toNat_zero, List.length_map, rdS, at_agg, bofZ, bof1, bof0, List.getD_cons_zero, List.getD_cons_succ]; first | done | omega | rfl | exact ⟨by omega, rfl⟩ | (simp; done) | (simp; omega)) | (intros; trivial) | exact ⟨by first | trivial | rfl, by first | trivial | rfl | simp, by first | trivial | simp, by simp; omega, by simp; omega, by simp [AV.flat, AV.cells, AV.one]⟩)); (try (simp only [nc] at *)); (try simp (disch := (first | omega | (simp only [lnS, List.length_append, List.length_map, List.length_range, List.length_replicate]; omega))) only [nc, nct, w64_of, Int.toNat_natCast, Int.toNat_zero, List.length_map, rdS, at_agg, bofZ, bof1, bof0, List.getD_cons_zero, List.getD_cons_succ]); (try cbv))
    | fail
  )
  · refine ⟨⟨⟨by rw [hG, hG, e1]; simp, ?_⟩, by push_cast; rfl⟩, by rw [hG, hG, e1]; simp, ?_⟩
    · rw [e1]; simp [setAll]
    · show LV.of ((ids (L x)).l ++ (ids [⟨0, (x : Int)⟩]).l) = _
      rw [ids_app, ids_of, e1]
  clear hI
  have ex : x = g.init.length := by ((try simp only [nc] at *); omega)
  subst ex
  rw [lE]
  refine E.loopS (ι := Nat) (fun t => t ≤ g.th.length) (fun t => g.th.length - t) (fun t => [(5, .i fun _ => ((t : Nat) : Int)), (3, .sl 1 (G (L2 t 0)) 2 (fun _ => 0) fun _ => (L2 t 0).length)]) (fun t h => h.set 1 (.run (G (L2 t 0)) 2 fun _ => ids (L2 t 0))) 0 (fun _ => by first | rfl | simp) (Nat.zero_le _) ?_ fun t ht I1 hI1 => ?_
  · cbv; simp
  cbv
  have hgt := hg t
  repeat' (first
    | (refine ⟨fun _ h_s => ?_, fun _ h_s => ?_⟩ <;> (cbv; (try simp only [nc] at *); try simp (disch := (first | omega | (simp only [lnS, List.length_append, List.length_map, List.length_range, List.length_replicate]; omega))) only [nc, nct, w64_of, Int.toNat_natCast, Int.toNat_zero, List.length_map, rdS, at_agg, bofZ, bof1, bof0, List.getD_cons_zero, List.getD_cons_succ, reduceCtorEq, Bool.not_true, Bool.not_false, decide_eq_true_eq, decide_eq_false_iff_not, Bool.not_eq_true, Bool.not_eq_false, Bool.not_eq_true', Bool.not_eq_false', ne_eq, Decidable.not_not, Int.not_le, Int.not_lt, beq_iff_eq] at h_s))
    | (refine hF ?_; intro _; clear hF)
    | (refine hF ?_; cbv; clear hF)
    | (refine ⟨fun _ => ?_, ?_⟩; (· ((try simp only [nc] at *); first | done | omega | exact ⟨by omega, rfl⟩ | (simp (disch := (first | omega | (simp only [lnS, List.length_append, List.length_map, List.length_range, List.length_replicate]; omega))) only [nc, nct, w64_of, Int.toNat_natCast, Int.toNat_zero, List.length_map, rdS, at_agg, bofZ, bof1, bof0, List.getD_cons_zero, List.getD_cons_succ]; first | done | omega | rfl | exact ⟨by omega, rfl⟩ | (simp; done) | (simp; omega)) | (intros; trivial) | exact ⟨by first | trivial | rfl, by first | trivial | rfl | simp, by first | trivial | simp, by simp; omega, by simp; omega, by simp [AV.flat, AV.cells, AV.one]⟩)); (try (simp only [nc] at *)); (try simp (disch := (first | omega | (simp only [lnS, List.length_append, List.length_map, List.length_range, List.length_replicate]; omega))) only [nc, nct, w64_of, Int.toNat_natCast, Int.toNat_zero, List.length_map, rdS, at_agg, bofZ, bof1, bof0, List.getD_cons_zero, List.getD_cons_succ]); (try cbv))
    | fail
  )
  · refine E.loopS (ι := Nat) (fun i => i ≤ (g.th.getD t []).length) (fun i => (g.th.getD t []).length - i) (fun i => [(6, .i fun _ => ((i : Nat) : Int)), (3, .sl 1 (G (L2 t i)) 2 (fun _ => 0) fun _ => (L2 t i).length)]) (fun i h => h.set 1 (.run (G (L2 t i)) 2 fun _ => ids (L2 t i))) 0 (fun _ => by first | rfl | simp) (Nat.zero_le _) ?_ fun i hi I2 hI2 => ?_
    · cbv; simp
    cbv
    have f1 := mS t i
    have f2 := mL t i
    have f3 := mE t
    repeat' (first
      | (refine hI2 (i + 1) ?_ ?_ ?_; rotate_left 1; (· ((try simp only [nc] at *); omega)); (cbv; clear hI2; (try clear hF); (try simp only [nc] at *); (try simp (disch := (first | omega | (simp only [lnS, List.length_append, List.length_map, List.length_range, List.length_replicate]; omega))) only [nc, nct, w64_of, Int.toNat_natCast, Int.toNat_zero, List.length_map, rdS, at_agg, bofZ, bof1, bof0, List.getD_cons_zero, List.getD_cons_succ, implies_true, and_true, true_and, forall_const])); rotate_left 1; (try ((try simp only [nc] at *); omega)))
      | (refine ⟨fun _ h_s => ?_, fun _ h_s => ?_⟩ <;> (cbv; (try simp only [nc] at *); try simp (disch := (first | omega | (simp only [lnS, List.length_append, List.length_map, List.length_range, List.length_replicate]; omega))) only [nc, nct, w64_of, Int.toNat_natCast, Int.toNat_zero, List.length_map, rdS, at_agg, bofZ, bof1, bof0, List.getD_cons_zero, List.getD_cons_succ, reduceCtorEq, Bool.not_true, Bool.not_false, decide_eq_true_eq, decide_eq_false_iff_not, Bool.not_eq_true, Bool.not_eq_false, Bool.not_eq_true', Bool.not_eq_false', ne_eq, Decidable.not_not, Int.not_le, Int.not_lt, beq_iff_eq] at h_s))
      | (refine hF ?_; intro _; clear hF)
      | (refine hF ?_; cbv; clear hF)
      | (refine ⟨fun _ => ?_, ?_⟩; (· ((try simp only [nc] at *); first | done | omega | exact ⟨by omega, rfl⟩ | (simp (disch := (first | omega | (simp only [lnS, List.length_append, List.length_map, List.length_range, List.length_replicate]; omega))) only [nc, nct, w64_of, Int.toNat_natCast, Int.toNat_zero, List.length_map, rdS, at_agg, bofZ, bof1, bof0, List.getD_cons_zero, List.getD_cons_succ]; first | done | omega | rfl | exact ⟨by omega, rfl⟩ | (simp; done) | (simp; omega)) | (intros; trivial) | exact ⟨by first | trivial | rfl, by first | trivial | rfl | simp, by first | trivial | simp, by simp; omega, by simp; omega, by simp [AV.flat, AV.cells, AV.one]⟩)); (try (simp only [nc] at *)); (try simp (disch := (first | omega | (simp only [lnS, List.length_append, List.length_map, List.length_range, List.length_replicate]; omega))) only [nc, nct, w64_of, Int.toNat_natCast, Int.toNat_zero, List.length_map, rdS, at_agg, bofZ, bof1, bof0, List.getD_cons_zero, List.getD_cons_succ]); (try cbv))
      | fail
    )
    · refine ⟨⟨⟨by rw [hG, hG, f1]; simp, ?_⟩, by push_cast; rfl⟩, by rw [hG, hG, f1]; simp, ?_⟩
      · rw [f1]; simp [setAll]
      · show LV.of ((ids (L2 t i)).l ++ (ids [⟨(t : Int) + 1, (i : Int)⟩]).l) = _
        rw [ids_app, ids_of, f1]
    · have ei : i = (g.th.getD t []).length := by ((try simp only [nc] at *); omega)
      subst ei
      rw [f3]
      repeat' (first
        | (refine hI1 (t + 1) ?_ ?_ ?_; rotate_left 1; (· ((try simp only [nc] at *); omega)); (cbv; clear hI1; (try clear hF); (try simp only [nc] at *); (try simp (disch := (first | omega | (simp only [lnS, List.length_append, List.length_map, List.length_range, List.length_replicate]; omega))) only [nc, nct, w64_of, Int.toNat_natCast, Int.toNat_zero, List.length_map, rdS, at_agg, bofZ, bof1, bof0, List.getD_cons_zero, List.getD_cons_succ, implies_true, and_true, true_and, forall_const])); rotate_left 1; (try ((try simp only [nc] at *); omega)))
        | (refine ⟨fun _ h_s => ?_, fun _ h_s => ?_⟩ <;> (cbv; (try simp only [nc] at *); try simp (disch := (first | omega | (simp only [lnS, List.length_append, List.length_map, List.length_range, List.length_replicate]; omega))) only [nc, nct, w64_of, Int.toNat_natCast, Int.toNat_zero, List.length_map, rdS, at_agg, bofZ, bof1, bof0, List.getD_cons_zero, List.getD_cons_succ, reduceCtorEq, Bool.not_true, Bool.not_false, decide_eq_true_eq, decide_eq_false_iff_not, Bool.not_eq_true, Bool.not_eq_false, Bool.not_eq_true', Bool.not_eq_false', ne_eq, Decidable.not_not, Int.not_le, Int.not_lt, beq_iff_eq] at h_s))
        | (refine hF ?_; intro _; clear hF)
        | (refine hF ?_; cbv; clear hF)
        | (refine ⟨fun _ => ?_, ?_⟩; (· ((try simp only [nc] at *); first | done | omega | exact ⟨by omega, rfl⟩ | (simp (disch := (first | omega | (simp only [lnS, List.length_append, List.length_map, List.length_range, List.length_replicate]; omega))) only [nc, nct, w64_of, Int.toNat_natCast, Int.toNat_zero, List.length_map, rdS, at_agg, bofZ, bof1, bof0, List.getD_cons_zero, List.getD_cons_succ]; first | done | omega | rfl | exact ⟨by omega, rfl⟩ | (simp; done) | (simp; omega)) | (intros; trivial) | exact ⟨by first | trivial | rfl, by first | trivial | rfl | simp, by first | trivial | simp, by simp; omega, by simp; omega, by simp [AV.flat, AV.cells, AV.one]⟩)); try cbv)
        | fail
      )
      push_cast; rfl
  · have et : t = g.th.length := by ((try simp only [nc] at *); omega)
    subst et
    rw [mF]
    intro _
    refine ⟨rfl, by simp, ?_⟩
    rw [List.drop_zero, List.take_of_length_le (by simp)]
end Go.AL.Rl

namespace Go.AL.Rl
open Go Go.AL Go.Proofs
set_option maxRecDepth 100000
set_option maxHeartbeats 1600000
variable {γ : Nat → Option AV}

abbrev aV15 (g : Gr) (L : List EId) (E : List Ev) (n : Nat) : AV := .agg [.vs 1 fun _ => is g.init, .vs 1 fun _ => evss g.th, .vs 1 fun _ => idss g.fr, .vs 1 fun _ => idss g.ord, .vs 2 fun _ => ids L, .vs 5 fun _ => evs E, .i fun _ => (n : Int)]
theorem look15_no (g : Gr) (hg : Rd g) (h : ¬ GOk g) : Pure Try.prog γ false 38 [aGr g] (.tup [.np, .b fun _ => false]) := by
  have hc : gcheckM g ≠ 0 := by unfold gcheckM; split <;> simp [h]
  refine Pure.go (ty := ty) ty_eq mo Try.func38 rfl Try.ntmps38 Try.results38 Try.call38 (by simp) fun P C CQ D W F E hF => ?_
  cbv
  refine E.c (SCalls.of_le (check14_ok g hg) ?_ ?_)
  · (cbv; (try simp only [nc] at *); first | done | (simp; done) | (simp (disch := (first | omega | (simp only [lnS, List.length_append, List.length_map, List.length_range, List.length_replicate]; omega))) only [nc, nct, w64_of, Int.toNat_natCast, Int.toNat_zero, List.length_map, rdS, at_agg, bofZ, bof1, bof0, List.getD_cons_zero, List.getD_cons_succ, implies_true, and_true, true_and, forall_const]; first | done | omega | (refine ⟨?_, ?_⟩ <;> omega)) | (simp (disch := (first | omega | (simp only [lnS, List.length_append, List.length_map, List.length_range, List.length_replicate]; omega))) [nc, nct, w64_of, Int.toNat_natCast, Int.toNat_zero, List.length_map, rdS, at_agg, bofZ, bof1, bof0, List.getD_cons_zero, List.getD_cons_succ]; done))
  cbv
  refine br_t (by simpa using hc) ?_
  cbv
  refine hF ?_
  cbv
  simp
theorem event_of {g : Gr} (hg : GOk g) (i : Nat) (hi : i < nG g) :
    (¬ 0 < ((idsG g).getD i id0).t ∧ 0 ≤ ((idsG g).getD i id0).i ∧ ((idsG g).getD i id0).i.toNat < g.init.length ∧ (evsG g).getD i ev0 = ⟨2, ((idsG g).getD i id0).i, 1, 0, g.init.getD ((idsG g).getD i id0).i.toNat 0⟩) ∨
    (0 < ((idsG g).getD i id0).t ∧ ((idsG g).getD i id0).t ≤ 4 ∧ 0 ≤ ((idsG g).getD i id0).t - 1 ∧ (((idsG g).getD i id0).t - 1).toNat < g.th.length ∧ 0 ≤ ((idsG g).getD i id0).i ∧ ((idsG g).getD i id0).i.toNat < (g.th.getD (((idsG g).getD i id0).t - 1).toNat []).length ∧
      (evsG g).getD i ev0 = (g.th.getD (((idsG g).getD i id0).t - 1).toNat []).getD ((idsG g).getD i id0).i.toNat ev0) := by
  have he := evsG_get g i hi
  have hth := hg.short.th
  unfold eventM at he
  split at he
  · rename_i h0
    split at he
    · rename_i hc
      exact .inl ⟨by omega, hc.1, by omega, (Option.some.inj he).symm⟩
    · cases he
  · rename_i h0
    split at he
    · rename_i hc
      exact .inr ⟨hc.1, by omega, by omega, by omega, hc.2.2.1, by omega, (Option.some.inj he).symm⟩
    · cases he
theorem look15_yes (g : Gr) (hg : Rd g) (h : GOk g) : Pure Try.prog γ false 38 [aGr g] (.tup [.vp (fun _ => aV15 g (idsG g) (evsG g) (nG g)) 0, .b fun _ => true]) := by
  have kc := check14_ok (γ := γ) g hg
  rw [gcheck0 h] at kc
  have ki := ids14_ok (γ := γ) g h.short
  have hev := event_of h
  have hn : nG g ≤ 62 := (viewG_wf h).small
  have hin := h.short.init
  obtain ⟨Lf, hLf⟩ : ∃ L, L = idsG g := ⟨_, rfl⟩
  obtain ⟨Mf, hMf⟩ : ∃ L, L = evsG g := ⟨_, rfl⟩
  obtain ⟨n, hnn⟩ : ∃ n, n = nG g := ⟨_, rfl⟩
  have hLn : Lf.length = n := by rw [hLf, hnn]; rfl
  have hMn : Mf.length = n := by rw [hMf, ← idsG_len, ← hLf, hLn]
  rw [← hLf, ← hMf, ← hnn] at hev ⊢
  rw [← hLf] at ki
  rw [← hnn] at hn
  obtain ⟨M, hM⟩ : ∃ M : Nat → List Ev, ∀ k, M k = Mf.take k := ⟨_, fun _ => rfl⟩
  have m0 : M 0 = [] := by rw [hM]; simp
  have mS : ∀ k, k < n → M (k + 1) = M k ++ [Mf.getD k ev0] := fun k hk => by rw [hM, hM, take_succ' _ _ ev0 (by omega)]
  have mL : ∀ k, k ≤ n → (M k).length = k := fun k hk => by rw [hM, List.length_take]; omega
  have mE : M n = Mf := by rw [hM, List.take_of_length_le (by omega)]
  obtain ⟨G, hG⟩ : ∃ G : Nat → Nat, ∀ k, G k = k := ⟨_, fun _ => rfl⟩
  have hG0 : G 0 = 0 := hG 0
  refine Pure.go (ty := ty) ty_eq mo Try.func38 rfl Try.ntmps38 Try.results38 Try.call38 (by simp) fun P C CQ D W F E hF => ?_
  cbv
  repeat' (first
    | (refine E.c (SCalls.of_le (ki) ?_ ?_); (· (cbv; (try simp only [nc] at *); first | done | (simp; done) | (simp (disch := (first | omega | (simp only [lnS, List.length_append, List.length_map, List.length_range, List.length_replicate]; omega))) only [nc, nct, w64_of, Int.toNat_natCast, Int.toNat_zero, List.length_map, rdS, at_agg, bofZ, bof1, bof0, List.getD_cons_zero, List.getD_cons_succ, implies_true, and_true, true_and, forall_const]; first | done | omega | (refine ⟨?_, ?_⟩ <;> omega)) | (simp (disch := (first | omega | (simp only [lnS, List.length_append, List.length_map, List.length_range, List.length_replicate]; omega))) [nc, nct, w64_of, Int.toNat_natCast, Int.toNat_zero, List.length_map, rdS, at_agg, bofZ, bof1, bof0, List.getD_cons_zero, List.getD_cons_succ]; done))); cbv)
    | (refine E.q (QCalls.of_le (ki) ?_ ?_); (· (cbv; (try simp only [nc] at *); first | done | (simp; done) | (simp (disch := (first | omega | (simp only [lnS, List.length_append, List.length_map, List.length_range, List.length_replicate]; omega))) only [nc, nct, w64_of, Int.toNat_natCast, Int.toNat_zero, List.length_map, rdS, at_agg, bofZ, bof1, bof0, List.getD_cons_zero, List.getD_cons_succ, implies_true, and_true, true_and, forall_const]; first | done | omega | (refine ⟨?_, ?_⟩ <;> omega)) | (simp (disch := (first | omega | (simp only [lnS, List.length_append, List.length_map, List.length_range, List.length_replicate]; omega))) [nc, nct, w64_of, Int.toNat_natCast, Int.toNat_zero, List.length_map, rdS, at_agg, bofZ, bof1, bof0, List.getD_cons_zero, List.getD_cons_succ]; done))); cbv)
    | (refine E.c (SCalls.of_le (ki) ?_ ?_); (· (cbv; (try simp only [nc] at *); first | done | (simp; done) | (simp (disch := (first | omega | (simp only [lnS, List.length_append, List.length_map, List.length_range, List.length_replicate]; omega))) only [nc, nct, w64_of, Int.toNat_natCast, Int.toNat_zero, List.length_map, rdS, at_agg, bofZ, bof1, bof0, List.getD_cons_zero, List.getD_cons_succ, implies_true, and_true, true_and, forall_const]; first | done | omega | (refine ⟨?_, ?_⟩ <;> omega)) | (simp (disch := (first | omega | (simp only [lnS, List.length_append, List.length_map, List.length_range, List.length_replicate]; omega))) [nc, nct, w64_of, Int.toNat_natCast, Int.toNat_zero, List.length_map, rdS, at_agg, bofZ, bof1, bof0, List.getD_cons_zero, List.getD_cons_succ]; done))); cbv)
    | (refine E.c (SCalls.of_le (kc) ?_ ?_); (· (cbv; (try simp only [nc] at *); first | done | (simp; done) | (simp (disch := (first | omega | (simp only [lnS, List.length_append, List.length_map, List.length_range, List.length_replicate]; omega))) only [nc, nct, w64_of, Int.toNat_natCast, Int.toNat_zero, List.length_map, rdS, at_agg, bofZ, bof1, bof0, List.getD_cons_zero, List.getD_cons_succ, implies_true, and_true, true_and, forall_const]; first | done | omega | (refine ⟨?_, ?_⟩ <;> omega)) | (simp (disch := (first | omega | (simp only [lnS, List.length_append, List.length_map, List.length_range, List.length_replicate]; omega))) [nc, nct, w64_of, Int.toNat_natCast, Int.toNat_zero, List.length_map, rdS, at_agg, bofZ, bof1, bof0, List.getD_cons_zero, List.getD_cons_succ]; done))); cbv)
    | (refine ⟨fun _ h_s => ?_, fun _ h_s => ?_⟩ <;> (cbv; (try simp only [nc] at *); try simp (disch := (first | omega | (simp only [lnS, List.length_append, List.length_map, List.length_range, List.length_replicate]; omega))) only [nc, nct, w64_of, Int.toNat_natCast, Int.toNat_zero, List.length_map, rdS, at_agg, bofZ, bof1, bof0, List.getD_cons_zero, List.getD_cons_succ, reduceCtorEq, Bool.not_true, Bool.not_false, decide_eq_true_eq, decide_eq_false_iff_not, Bool.not_eq_true, Bool.not_eq_false, Bool.not_eq_true', Bool.not_eq_false', ne_eq, Decidable.not_not, Int.not_le, Int.not_lt, beq_iff_eq] at h_s))
    | (refine hF ?_; intro _; clear hF)
    | (refine hF ?_; cbv; clear hF)
    | (refine ⟨fun _ => ?_, ?_⟩; (· ((try simp only [nc] at *); first | done | omega | exact ⟨by omega, rfl⟩ | (simp (disch := (first | omega | (simp only [lnS, List.length_append, List.length_map, List.length_range, List.length_replicate]; omega))) only [nc, nct, w64_of, Int.toNat_natCast, Int.toNat_zero, List.length_map, rdS, at_agg, bofZ, bof1, bof0, List.getD_cons_zero, List.getD_cons_succ]; first | done | omega | rfl | exact ⟨by omega, rfl⟩ | (simp; done) | (simp; omega)) | (intros; trivial))); (try (simp only [nc] at *)); (try simp (disch := (first | omega | (simp only [lnS, List.length_append, List.length_map, List.length_range, List.length_replicate]; omega))) only [nc, nct, w64_of, Int.toNat_natCast, Int.toNat_zero, List.length_map, rdS, at_agg, bofZ, bof1, bof0, List.getD_cons_zero, List.getD_cons_succ]); (try cbv))
    | (refine E.d 3 (by decide +kernel) ?_; cbv; (fail_if_success guard_target =~ False))
    | (refine E.d 10 (by decide +kernel) ?_; cbv; (fail_if_success guard_target =~ False))
    | (refine E.d 21 (by decide +kernel) ?_; cbv; (fail_if_success guard_target =~ False))
    | fail
  )
  · revert h_s; simp
  refine E.w (AWP.ghostField 1 5 5 rfl rfl (E.loopSA (ι := Nat) (fun k => k ≤ n) (fun k => n - k) (fun k => [(5, .i fun _ => ((k : Nat) : Int))]) (fun k h => (h.set 1 (.box (.agg [.vs 1 fun _ => is g.init, .vs 1 fun _ => evss g.th, .vs 1 fun _ => idss g.fr, .vs 1 fun _ => idss g.ord, .vs 2 fun _ => ids Lf, .sl 2 (G k) 5 (fun _ => 0) fun _ => (M k).length, .i fun _ => (n : Int)]))).set 2 (.run (G k) 5 fun _ => evs (M k))) 0 (fun _ => by first | rfl | simp) (Nat.zero_le _) ?_ fun k hk I hI => ?_))
  · cbv; simp [m0, hG0, hLn, evs, LV.of]
  cbv
  have hv := hev k
  have ml := mL k hk
  skip
  repeat' (first
    | (refine hI (k + 1) ?_ ?_ ?_; rotate_left 1; (· ((try simp only [nc] at *); omega)); (cbv; clear hI; (try clear hF); (try simp only [nc] at *); (try simp (disch := (first | omega | (simp only [lnS, List.length_append, List.length_map, List.length_range, List.length_replicate]; omega))) only [nc, nct, w64_of, Int.toNat_natCast, Int.toNat_zero, List.length_map, rdS, at_agg, bofZ, bof1, bof0, List.getD_cons_zero, List.getD_cons_succ, implies_true, and_true, true_and, forall_const])); rotate_left 1; (try ((try simp only [nc] at *); omega)))
    | (refine E.de 8 [2] [] (by decide +kernel) ?_; cbv; (fail_if_success guard_target =~ False))
    | (refine ⟨fun _ h_s => ?_, fun _ h_s => ?_⟩ <;> (cbv; (try simp only [nc] at *); try simp (disch := (first | omega | (simp only [lnS, List.length_append, List.length_map, List.length_range, List.length_replicate]; omega))) only [nc, nct, w64_of, Int.toNat_natCast, Int.toNat_zero, List.length_map, rdS, at_agg, bofZ, bof1, bof0, List.getD_cons_zero, List.getD_cons_succ, reduceCtorEq, Bool.not_true, Bool.not_false, decide_eq_true_eq, decide_eq_false_iff_not, Bool.not_eq_true, Bool.not_eq_false, Bool.not_eq_true', Bool.not_eq_false', ne_eq, Decidable.not_not, Int.not_le, Int.not_lt, beq_iff_eq] at h_s))
    | (refine hF ?_; intro _; clear hF)
    | (refine hF ?_; cbv; clear hF)
    | (refine ⟨fun _ => ?_, ?_⟩; (· ((try simp only [nc] at *); first | done | omega | exact ⟨by omega, rfl⟩ | (simp (disch := (first | omega | (simp only [lnS, List.length_append, List.length_map, List.length_range, List.length_replicate]; omega))) only [nc, nct, w64_of, Int.toNat_natCast, Int.toNat_zero, List.length_map, rdS, at_agg, bofZ, bof1, bof0, List.getD_cons_zero, List.getD_cons_succ]; first | done | omega | rfl | exact ⟨by omega, rfl⟩ | (simp; done) | (simp; omega)) | (intros; trivial) | exact ⟨by first | trivial | rfl, by first | trivial | rfl | simp, by first | trivial | simp, by simp; omega, by simp; omega, by simp [AV.flat, AV.cells, AV.one]⟩)); (try (simp only [nc] at *)); (try simp (disch := (first | omega | (simp only [lnS, List.length_append, List.length_map, List.length_range, List.length_replicate]; omega))) only [nc, nct, w64_of, Int.toNat_natCast, Int.toNat_zero, List.length_map, rdS, at_agg, bofZ, bof1, bof0, List.getD_cons_zero, List.getD_cons_succ]); (try cbv))
    | (refine E.d 3 (by decide +kernel) ?_; cbv; (fail_if_success guard_target =~ False))
    | (refine E.d 10 (by decide +kernel) ?_; cbv; (fail_if_success guard_target =~ False))
    | (refine E.d 21 (by decide +kernel) ?_; cbv; (fail_if_success guard_target =~ False))
    | fail
  )
  · obtain ⟨c1, c2, c3, c4, c5, c6, c7⟩ := (hv (by ((try simp only [nc] at *); omega))).resolve_left fun h => h.1 h_s
    have hs := mS k (by ((try simp only [nc] at *); omega))
    (try simp only [id0, ev0] at c1 c2 c3 c4 c5 c6 c7 hs)
    (try simp only [nc] at *)
    refine ⟨by push_cast; rfl, ⟨by rw [hG, hG], by rw [hs]; simp [setAll]⟩, by rw [hG, hG], ?_⟩
    rw [hs, c7]
    generalize (g.th.getD ((Lf.getD k ⟨0, 0⟩).t - 1).toNat []).getD (Lf.getD k ⟨0, 0⟩).i.toNat ⟨0, 0, 0, 0, 0⟩ = e
    show LV.of ((evs (M k)).l ++ (evs [e]).l) = _
    rw [evs_app, evs_of]
  · obtain ⟨c1, c2, c3, c4⟩ := (hv (by ((try simp only [nc] at *); omega))).resolve_right fun h => by ((try simp only [nc] at *); omega)
    have hs := mS k (by ((try simp only [nc] at *); omega))
    (try simp only [id0, ev0] at c1 c2 c3 c4 hs)
    (try simp only [nc] at *)
    refine ⟨by push_cast; rfl, ⟨by rw [hG, hG], by rw [hs]; simp [setAll]⟩, by rw [hG, hG], ?_⟩
    rw [hs, c4]
    show LV.of ((evs (M k)).l ++ (evs [⟨2, (Lf.getD k ⟨0, 0⟩).i, 1, 0, g.init.getD (Lf.getD k ⟨0, 0⟩).i.toNat 0⟩]).l) = _
    rw [evs_app, evs_of]
  · have e : k = n := by ((try simp only [nc] at *); omega)
    subst e
    rw [mE]
    refine ⟨⟨fun _ => rfl, fun _ => rfl, fun _ => rfl, fun _ => rfl, fun _ => rfl, fun _ => ⟨rfl, by simp, by rw [List.drop_zero, List.take_of_length_le (by simp)]⟩, fun _ => rfl, trivial⟩, fun _ => rfl, trivial⟩
end Go.AL.Rl

namespace Go.AL.Rl
open Go Go.AL Go.Proofs
set_option maxRecDepth 100000
set_option maxHeartbeats 1600000
variable {γ : Nat → Option AV}

abbrev pW (g : Gr) : AV := .vp (fun _ => aV15 g (idsG g) (evsG g) (nG g)) 0
theorem ids_pos {g : Gr} {i : Nat} (hi : i < nG g) : 0 ≤ ((idsG g).getD i id0).t := by
  have hm : (idsG g).getD i id0 ∈ idsG g := getD_mem hi
  rw [idsG, List.mem_append, idsI_mem, idsT_mem, ← idsG] at hm
  omega
theorem evsG_l (g : Gr) : (evsG g).length = nG g := (idsG_len g).symm
theorem idsG_l (g : Gr) : (idsG g).length = nG g := rfl
theorem xreads_ok (g : Gr) (L : List EId) (Es : List Ev) (n a : Nat) (h1 : Es.length = n) (ha : a < n) : Pure Try.prog γ false 80 [.vp (fun _ => aV15 g L Es n) 0, .i fun _ => (a : Int)] (.b fun _ => readsM (Es.getD a ev0)) := by
  refine Pure.go (ty := ty) ty_eq mo Try.func80 rfl Try.ntmps80 Try.results80 Try.call80 (by simp) fun P C CQ D W F E hF => ?_
  cbv
  repeat' (first
    | (refine ⟨fun _ h_s => ?_, fun _ h_s => ?_⟩ <;> (cbv; (try simp only [nc] at *); try simp (disch := (first | omega | (simp only [lnS, List.length_append, List.length_map, List.length_range, List.length_replicate]; omega))) only [nc, nct, w64_of, Int.toNat_natCast, Int.toNat_zero, List.length_map, rdS, at_agg, bofZ, bof1, bof0, List.getD_cons_zero, List.getD_cons_succ, reduceCtorEq, Bool.not_true, Bool.not_false, decide_eq_true_eq, decide_eq_false_iff_not, Bool.not_eq_true, Bool.not_eq_false, Bool.not_eq_true', Bool.not_eq_false', ne_eq, Decidable.not_not, Int.not_le, Int.not_lt, beq_iff_eq] at h_s))
    | (refine hF ?_; intro _; clear hF)
    | (refine hF ?_; cbv; clear hF)
    | (refine ⟨fun _ => ?_, ?_⟩; (· ((try simp only [nc] at *); first | done | omega | exact ⟨by omega, rfl⟩ | (simp (disch := (first | omega | (simp only [lnS, List.length_append, List.length_map, List.length_range, List.length_replicate]; omega))) only [nc, nct, w64_of, Int.toNat_natCast, Int.toNat_zero, List.length_map, rdS, at_agg, bofZ, bof1, bof0, List.getD_cons_zero, List.getD_cons_succ]; first | done | omega | rfl | exact ⟨by omega, rfl⟩ | (simp; done) | (simp; omega)) | (intros; trivial))); (try (simp only [nc] at *)); (try simp (disch := (first | omega | (simp only [lnS, List.length_append, List.length_map, List.length_range, List.length_replicate]; omega))) only [nc, nct, w64_of, Int.toNat_natCast, Int.toNat_zero, List.length_map, rdS, at_agg, bofZ, bof1, bof0, List.getD_cons_zero, List.getD_cons_succ]); (try cbv))
    | fail
  )
  all_goals (try simp only [nc] at *)
  all_goals (try simp (disch := (first | omega | (simp only [lnS, List.length_append, List.length_map, List.length_range, List.length_replicate]; omega))) only [nc, nct, w64_of, Int.toNat_natCast, Int.toNat_zero, List.length_map, rdS, at_agg, bofZ, bof1, bof0, List.getD_cons_zero, List.getD_cons_succ])
  all_goals simp_all [readsM]
theorem wreads_ok (g : Gr) (a : Nat) (ha : a < nG g) : Pure Try.prog γ false 80 [pW g, .i fun _ => (a : Int)] (.b fun _ => readsM ((viewG g).ev.getD a ev0)) := xreads_ok g _ _ _ a (evsG_l g) ha
theorem xwrites_ok (g : Gr) (L : List EId) (Es : List Ev) (n a : Nat) (h1 : Es.length = n) (ha : a < n) : Pure Try.prog γ false 55 [.vp (fun _ => aV15 g L Es n) 0, .i fun _ => (a : Int)] (.b fun _ => writesM (Es.getD a ev0)) := by
  refine Pure.go (ty := ty) ty_eq mo Try.func55 rfl Try.ntmps55 Try.results55 Try.call55 (by simp) fun P C CQ D W F E hF => ?_
  cbv
  repeat' (first
    | (refine ⟨fun _ h_s => ?_, fun _ h_s => ?_⟩ <;> (cbv; (try simp only [nc] at *); try simp (disch := (first | omega | (simp only [lnS, List.length_append, List.length_map, List.length_range, List.length_replicate]; omega))) only [nc, nct, w64_of, Int.toNat_natCast, Int.toNat_zero, List.length_map, rdS, at_agg, bofZ, bof1, bof0, List.getD_cons_zero, List.getD_cons_succ, reduceCtorEq, Bool.not_true, Bool.not_false, decide_eq_true_eq, decide_eq_false_iff_not, Bool.not_eq_true, Bool.not_eq_false, Bool.not_eq_true', Bool.not_eq_false', ne_eq, Decidable.not_not, Int.not_le, Int.not_lt, beq_iff_eq] at h_s))
    | (refine hF ?_; intro _; clear hF)
    | (refine hF ?_; cbv; clear hF)
    | (refine ⟨fun _ => ?_, ?_⟩; (· ((try simp only [nc] at *); first | done | omega | exact ⟨by omega, rfl⟩ | (simp (disch := (first | omega | (simp only [lnS, List.length_append, List.length_map, List.length_range, List.length_replicate]; omega))) only [nc, nct, w64_of, Int.toNat_natCast, Int.toNat_zero, List.length_map, rdS, at_agg, bofZ, bof1, bof0, List.getD_cons_zero, List.getD_cons_succ]; first | done | omega | rfl | exact ⟨by omega, rfl⟩ | (simp; done) | (simp; omega)) | (intros; trivial))); (try (simp only [nc] at *)); (try simp (disch := (first | omega | (simp only [lnS, List.length_append, List.length_map, List.length_range, List.length_replicate]; omega))) only [nc, nct, w64_of, Int.toNat_natCast, Int.toNat_zero, List.length_map, rdS, at_agg, bofZ, bof1, bof0, List.getD_cons_zero, List.getD_cons_succ]); (try cbv))
    | fail
  )
  all_goals (try simp only [nc] at *)
  all_goals (try simp (disch := (first | omega | (simp only [lnS, List.length_append, List.length_map, List.length_range, List.length_replicate]; omega))) only [nc, nct, w64_of, Int.toNat_natCast, Int.toNat_zero, List.length_map, rdS, at_agg, bofZ, bof1, bof0, List.getD_cons_zero, List.getD_cons_succ])
  all_goals simp_all [writesM]
theorem wwrites_ok (g : Gr) (a : Nat) (ha : a < nG g) : Pure Try.prog γ false 55 [pW g, .i fun _ => (a : Int)] (.b fun _ => writesM ((viewG g).ev.getD a ev0)) := xwrites_ok g _ _ _ a (evsG_l g) ha
theorem xacq_ok (g : Gr) (L : List EId) (Es : List Ev) (n a : Nat) (h1 : Es.length = n) (ha : a < n) : Pure Try.prog γ false 83 [.vp (fun _ => aV15 g L Es n) 0, .i fun _ => (a : Int)] (.b fun _ => acqM (Es.getD a ev0)) := by
  refine Pure.go (ty := ty) ty_eq mo Try.func83 rfl Try.ntmps83 Try.results83 Try.call83 (by simp) fun P C CQ D W F E hF => ?_
  cbv
  repeat' (first
    | (refine ⟨fun _ h_s => ?_, fun _ h_s => ?_⟩ <;> (cbv; (try simp only [nc] at *); try simp (disch := (first | omega | (simp only [lnS, List.length_append, List.length_map, List.length_range, List.length_replicate]; omega))) only [nc, nct, w64_of, Int.toNat_natCast, Int.toNat_zero, List.length_map, rdS, at_agg, bofZ, bof1, bof0, List.getD_cons_zero, List.getD_cons_succ, reduceCtorEq, Bool.not_true, Bool.not_false, decide_eq_true_eq, decide_eq_false_iff_not, Bool.not_eq_true, Bool.not_eq_false, Bool.not_eq_true', Bool.not_eq_false', ne_eq, Decidable.not_not, Int.not_le, Int.not_lt, beq_iff_eq] at h_s))
    | (refine hF ?_; intro _; clear hF)
    | (refine hF ?_; cbv; clear hF)
    | (refine ⟨fun _ => ?_, ?_⟩; (· ((try simp only [nc] at *); first | done | omega | exact ⟨by omega, rfl⟩ | (simp (disch := (first | omega | (simp only [lnS, List.length_append, List.length_map, List.length_range, List.length_replicate]; omega))) only [nc, nct, w64_of, Int.toNat_natCast, Int.toNat_zero, List.length_map, rdS, at_agg, bofZ, bof1, bof0, List.getD_cons_zero, List.getD_cons_succ]; first | done | omega | rfl | exact ⟨by omega, rfl⟩ | (simp; done) | (simp; omega)) | (intros; trivial))); (try (simp only [nc] at *)); (try simp (disch := (first | omega | (simp only [lnS, List.length_append, List.length_map, List.length_range, List.length_replicate]; omega))) only [nc, nct, w64_of, Int.toNat_natCast, Int.toNat_zero, List.length_map, rdS, at_agg, bofZ, bof1, bof0, List.getD_cons_zero, List.getD_cons_succ]); (try cbv))
    | fail
  )
  all_goals (try simp only [nc] at *)
  all_goals (try simp (disch := (first | omega | (simp only [lnS, List.length_append, List.length_map, List.length_range, List.length_replicate]; omega))) only [nc, nct, w64_of, Int.toNat_natCast, Int.toNat_zero, List.length_map, rdS, at_agg, bofZ, bof1, bof0, List.getD_cons_zero, List.getD_cons_succ])
  all_goals simp_all [acqM]
theorem wacq_ok (g : Gr) (a : Nat) (ha : a < nG g) : Pure Try.prog γ false 83 [pW g, .i fun _ => (a : Int)] (.b fun _ => acqM ((viewG g).ev.getD a ev0)) := xacq_ok g _ _ _ a (evsG_l g) ha
theorem xrel_ok (g : Gr) (L : List EId) (Es : List Ev) (n a : Nat) (h1 : Es.length = n) (ha : a < n) : Pure Try.prog γ false 82 [.vp (fun _ => aV15 g L Es n) 0, .i fun _ => (a : Int)] (.b fun _ => relM (Es.getD a ev0)) := by
  refine Pure.go (ty := ty) ty_eq mo Try.func82 rfl Try.ntmps82 Try.results82 Try.call82 (by simp) fun P C CQ D W F E hF => ?_
  cbv
  repeat' (first
    | (refine ⟨fun _ h_s => ?_, fun _ h_s => ?_⟩ <;> (cbv; (try simp only [nc] at *); try simp (disch := (first | omega | (simp only [lnS, List.length_append, List.length_map, List.length_range, List.length_replicate]; omega))) only [nc, nct, w64_of, Int.toNat_natCast, Int.toNat_zero, List.length_map, rdS, at_agg, bofZ, bof1, bof0, List.getD_cons_zero, List.getD_cons_succ, reduceCtorEq, Bool.not_true, Bool.not_false, decide_eq_true_eq, decide_eq_false_iff_not, Bool.not_eq_true, Bool.not_eq_false, Bool.not_eq_true', Bool.not_eq_false', ne_eq, Decidable.not_not, Int.not_le, Int.not_lt, beq_iff_eq] at h_s))
    | (refine hF ?_; intro _; clear hF)
    | (refine hF ?_; cbv; clear hF)
    | (refine ⟨fun _ => ?_, ?_⟩; (· ((try simp only [nc] at *); first | done | omega | exact ⟨by omega, rfl⟩ | (simp (disch := (first | omega | (simp only [lnS, List.length_append, List.length_map, List.length_range, List.length_replicate]; omega))) only [nc, nct, w64_of, Int.toNat_natCast, Int.toNat_zero, List.length_map, rdS, at_agg, bofZ, bof1, bof0, List.getD_cons_zero, List.getD_cons_succ]; first | done | omega | rfl | exact ⟨by omega, rfl⟩ | (simp; done) | (simp; omega)) | (intros; trivial))); (try (simp only [nc] at *)); (try simp (disch := (first | omega | (simp only [lnS, List.length_append, List.length_map, List.length_range, List.length_replicate]; omega))) only [nc, nct, w64_of, Int.toNat_natCast, Int.toNat_zero, List.length_map, rdS, at_agg, bofZ, bof1, bof0, List.getD_cons_zero, List.getD_cons_succ]); (try cbv))
    | fail
  )
  all_goals (try simp only [nc] at *)
  all_goals (try simp (disch := (first | omega | (simp only [lnS, List.length_append, List.length_map, List.length_range, List.length_replicate]; omega))) only [nc, nct, w64_of, Int.toNat_natCast, Int.toNat_zero, List.length_map, rdS, at_agg, bofZ, bof1, bof0, List.getD_cons_zero, List.getD_cons_succ])
  all_goals simp_all [relM]
theorem wrel_ok (g : Gr) (a : Nat) (ha : a < nG g) : Pure Try.prog γ false 82 [pW g, .i fun _ => (a : Int)] (.b fun _ => relM ((viewG g).ev.getD a ev0)) := xrel_ok g _ _ _ a (evsG_l g) ha
theorem xloc_ok (g : Gr) (L : List EId) (Es : List Ev) (fr pl : List Int) (n a b : Nat) (h1 : Es.length = n) (ha : a < n) (hb : b < n) : Pure Try.prog γ false 39 [.vp (fun _ => aV15 g L Es n) 0, .i fun _ => (a : Int), .i fun _ => (b : Int)] (.b fun _ => locM ⟨L, Es, fr, pl⟩ a b) := by
  refine Pure.go (ty := ty) ty_eq mo Try.func39 rfl Try.ntmps39 Try.results39 Try.call39 (by simp) fun P C CQ D W F E hF => ?_
  cbv
  repeat' (first
    | (refine ⟨fun _ h_s => ?_, fun _ h_s => ?_⟩ <;> (cbv; (try simp only [nc] at *); try simp (disch := (first | omega | (simp only [lnS, List.length_append, List.length_map, List.length_range, List.length_replicate]; omega))) only [nc, nct, w64_of, Int.toNat_natCast, Int.toNat_zero, List.length_map, rdS, at_agg, bofZ, bof1, bof0, List.getD_cons_zero, List.getD_cons_succ, reduceCtorEq, Bool.not_true, Bool.not_false, decide_eq_true_eq, decide_eq_false_iff_not, Bool.not_eq_true, Bool.not_eq_false, Bool.not_eq_true', Bool.not_eq_false', ne_eq, Decidable.not_not, Int.not_le, Int.not_lt, beq_iff_eq] at h_s))
    | (refine hF ?_; intro _; clear hF)
    | (refine hF ?_; cbv; clear hF)
    | (refine ⟨fun _ => ?_, ?_⟩; (· ((try simp only [nc] at *); first | done | omega | exact ⟨by omega, rfl⟩ | (simp (disch := (first | omega | (simp only [lnS, List.length_append, List.length_map, List.length_range, List.length_replicate]; omega))) only [nc, nct, w64_of, Int.toNat_natCast, Int.toNat_zero, List.length_map, rdS, at_agg, bofZ, bof1, bof0, List.getD_cons_zero, List.getD_cons_succ]; first | done | omega | rfl | exact ⟨by omega, rfl⟩ | (simp; done) | (simp; omega)) | (intros; trivial))); (try (simp only [nc] at *)); (try simp (disch := (first | omega | (simp only [lnS, List.length_append, List.length_map, List.length_range, List.length_replicate]; omega))) only [nc, nct, w64_of, Int.toNat_natCast, Int.toNat_zero, List.length_map, rdS, at_agg, bofZ, bof1, bof0, List.getD_cons_zero, List.getD_cons_succ]); (try cbv))
    | (refine E.d 42 (by decide +kernel) ?_; cbv; (fail_if_success guard_target =~ False))
    | fail
  )
  all_goals (try simp only [nc] at *)
  all_goals (try simp (disch := (first | omega | (simp only [lnS, List.length_append, List.length_map, List.length_range, List.length_replicate]; omega))) only [nc, nct, w64_of, Int.toNat_natCast, Int.toNat_zero, List.length_map, rdS, at_agg, bofZ, bof1, bof0, List.getD_cons_zero, List.getD_cons_succ])
  all_goals (have e : ((a : Int) = b) ↔ a = b := Int.ofNat_inj; simp_all [locM, nearM, fenceM])
theorem wloc_ok (g : Gr) (a b : Nat) (ha : a < nG g) (hb : b < nG g) : Pure Try.prog γ false 39 [pW g, .i fun _ => (a : Int), .i fun _ => (b : Int)] (.b fun _ => locM (viewG g) a b) := xloc_ok g _ _ _ _ _ a b (evsG_l g) ha hb
theorem xpo_ok (g : Gr) (L : List EId) (Es : List Ev) (fr pl : List Int) (n a b : Nat) (h1 : L.length = n) (ha : a < n) (hb : b < n) (pa : 0 ≤ (L.getD a id0).t) (pb : 0 ≤ (L.getD b id0).t) : Pure Try.prog γ false 72 [.vp (fun _ => aV15 g L Es n) 0, .i fun _ => (a : Int), .i fun _ => (b : Int)] (.b fun _ => poM ⟨L, Es, fr, pl⟩ a b) := by
  refine Pure.go (ty := ty) ty_eq mo Try.func72 rfl Try.ntmps72 Try.results72 Try.call72 (by simp) fun P C CQ D W F E hF => ?_
  cbv
  repeat' (first
    | (refine E.de 17 [] [none, none] (by decide +kernel) ?_; cbv; (fail_if_success guard_target =~ False))
    | (refine ⟨fun _ h_s => ?_, fun _ h_s => ?_⟩ <;> (cbv; (try simp only [nc] at *); try simp (disch := (first | omega | (simp only [lnS, List.length_append, List.length_map, List.length_range, List.length_replicate]; omega))) only [nc, nct, w64_of, Int.toNat_natCast, Int.toNat_zero, List.length_map, rdS, at_agg, bofZ, bof1, bof0, List.getD_cons_zero, List.getD_cons_succ, reduceCtorEq, Bool.not_true, Bool.not_false, decide_eq_true_eq, decide_eq_false_iff_not, Bool.not_eq_true, Bool.not_eq_false, Bool.not_eq_true', Bool.not_eq_false', ne_eq, Decidable.not_not, Int.not_le, Int.not_lt, beq_iff_eq] at h_s))
    | (refine hF ?_; intro _; clear hF)
    | (refine hF ?_; cbv; clear hF)
    | (refine ⟨fun _ => ?_, ?_⟩; (· ((try simp only [nc] at *); first | done | omega | exact ⟨by omega, rfl⟩ | (simp (disch := (first | omega | (simp only [lnS, List.length_append, List.length_map, List.length_range, List.length_replicate]; omega))) only [nc, nct, w64_of, Int.toNat_natCast, Int.toNat_zero, List.length_map, rdS, at_agg, bofZ, bof1, bof0, List.getD_cons_zero, List.getD_cons_succ]; first | done | omega | rfl | exact ⟨by omega, rfl⟩ | (simp; done) | (simp; omega)) | (intros; trivial))); (try (simp only [nc] at *)); (try simp (disch := (first | omega | (simp only [lnS, List.length_append, List.length_map, List.length_range, List.length_replicate]; omega))) only [nc, nct, w64_of, Int.toNat_natCast, Int.toNat_zero, List.length_map, rdS, at_agg, bofZ, bof1, bof0, List.getD_cons_zero, List.getD_cons_succ]); (try cbv))
    | fail
  )
  all_goals (try simp only [nc] at *)
  all_goals (try simp (disch := (first | omega | (simp only [lnS, List.length_append, List.length_map, List.length_range, List.length_replicate]; omega))) only [nc, nct, w64_of, Int.toNat_natCast, Int.toNat_zero, List.length_map, rdS, at_agg, bofZ, bof1, bof0, List.getD_cons_zero, List.getD_cons_succ])
  all_goals (try simp only [poM])
  all_goals grind
end Go.AL.Rl

namespace Go.AL.Rl
open Go Go.AL Go.Proofs
set_option maxRecDepth 100000
set_option maxHeartbeats 1600000
variable {γ : Nat → Option AV}

theorem wpo_ok (g : Gr) (a b : Nat) (ha : a < nG g) (hb : b < nG g) : Pure Try.prog γ false 72 [pW g, .i fun _ => (a : Int), .i fun _ => (b : Int)] (.b fun _ => poM (viewG g) a b) := xpo_ok g _ _ _ _ _ a b (idsG_l g) ha hb (ids_pos ha) (ids_pos hb)
theorem wfrom_ok (g : Gr) (h : GOk g) (a : Nat) (ha : a < nG g) : Pure Try.prog γ false 81 [pW g, .i fun _ => (a : Int)] (.i fun _ => (viewG g).fr.getD a 0) := by
  have kr := wreads_ok (γ := γ) g a ha
  rw [vfr h a ha]
  have hev := vev h a ha
  cases hr : readsM ((viewG g).ev.getD a ev0) with
  | false =>
    rw [hr] at kr
    have e : frOf g ((idsG g).getD a id0) = -1 := by
      unfold frOf
      rw [hev, Option.getD_some, hr]; simp
    rw [e]
    refine Pure.go (ty := ty) ty_eq mo Try.func81 rfl Try.ntmps81 Try.results81 Try.call81 (by simp) fun P C CQ D W F E hF => ?_
    cbv
    repeat' (first
      | (refine E.c (SCalls.of_le (kr) ?_ ?_); (· (cbv; (try simp only [nc] at *); first | done | (simp; done) | (simp (disch := (first | omega | (simp only [lnS, List.length_append, List.length_map, List.length_range, List.length_replicate]; omega))) only [nc, nct, w64_of, Int.toNat_natCast, Int.toNat_zero, List.length_map, rdS, at_agg, bofZ, bof1, bof0, List.getD_cons_zero, List.getD_cons_succ, implies_true, and_true, true_and, forall_const]; first | done | omega | (refine ⟨?_, ?_⟩ <;> omega)) | (simp (disch := (first | omega | (simp only [lnS, List.length_append, List.length_map, List.length_range, List.length_replicate]; omega))) [nc, nct, w64_of, Int.toNat_natCast, Int.toNat_zero, List.length_map, rdS, at_agg, bofZ, bof1, bof0, List.getD_cons_zero, List.getD_cons_succ]; done))); cbv)
      | (refine ⟨fun _ h_s => ?_, fun _ h_s => ?_⟩ <;> (cbv; (try simp only [nc] at *); try simp (disch := (first | omega | (simp only [lnS, List.length_append, List.length_map, List.length_range, List.length_replicate]; omega))) only [nc, nct, w64_of, Int.toNat_natCast, Int.toNat_zero, List.length_map, rdS, at_agg, bofZ, bof1, bof0, List.getD_cons_zero, List.getD_cons_succ, reduceCtorEq, Bool.not_true, Bool.not_false, decide_eq_true_eq, decide_eq_false_iff_not, Bool.not_eq_true, Bool.not_eq_false, Bool.not_eq_true', Bool.not_eq_false', ne_eq, Decidable.not_not, Int.not_le, Int.not_lt, beq_iff_eq] at h_s))
      | (refine hF ?_; intro _; clear hF)
      | (refine hF ?_; cbv; clear hF)
      | (refine ⟨fun _ => ?_, ?_⟩; (· ((try simp only [nc] at *); first | done | omega | exact ⟨by omega, rfl⟩ | (simp (disch := (first | omega | (simp only [lnS, List.length_append, List.length_map, List.length_range, List.length_replicate]; omega))) only [nc, nct, w64_of, Int.toNat_natCast, Int.toNat_zero, List.length_map, rdS, at_agg, bofZ, bof1, bof0, List.getD_cons_zero, List.getD_cons_succ]; first | done | omega | rfl | exact ⟨by omega, rfl⟩ | (simp; done) | (simp; omega)) | (intros; trivial))); (try (simp only [nc] at *)); (try simp (disch := (first | omega | (simp only [lnS, List.length_append, List.length_map, List.length_range, List.length_replicate]; omega))) only [nc, nct, w64_of, Int.toNat_natCast, Int.toNat_zero, List.length_map, rdS, at_agg, bofZ, bof1, bof0, List.getD_cons_zero, List.getD_cons_succ]); (try cbv))
      | (refine E.d 8 (by decide +kernel) ?_; cbv; (fail_if_success guard_target =~ False))
      | fail
    )
    all_goals (try simp only [nc] at *)
    all_goals (try simp (disch := (first | omega | (simp only [lnS, List.length_append, List.length_map, List.length_range, List.length_replicate]; omega))) only [nc, nct, w64_of, Int.toNat_natCast, Int.toNat_zero, List.length_map, rdS, at_agg, bofZ, bof1, bof0, List.getD_cons_zero, List.getD_cons_succ])
    all_goals first | rfl | (revert h_s; simp)
  | true =>
    rw [hr] at kr
    have h0 : ((idsG g).getD a id0).t ≠ 0 := fun h0 => by rw [init_reads hev h0] at hr; cases hr
    obtain ⟨w1, w2, w3, w4, w5⟩ := ids_where h ha h0
    have hd : (idsG g).getD a id0 ∈ idsG g := getD_mem ha
    obtain ⟨w, hw, _⟩ := source_mem (src_ok h hd h0) (by rw [hev]; exact hr)
    have hm : srcOf g ((idsG g).getD a id0) ∈ idsG g := idsG_mem.2 (by rw [hw]; rfl)
    have e : frOf g ((idsG g).getD a id0) = (numOf (idsG g) (srcOf g ((idsG g).getD a id0)) : Nat) := by
      unfold frOf
      rw [if_neg h0, hev, Option.getD_some, if_pos hr]
    rw [e]
    have hnd := idsG_nodup g
    have hn : nG g ≤ 62 := (viewG_wf h).small
    unfold pW at kr ⊢
    obtain ⟨L, hL⟩ : ∃ L, L = idsG g := ⟨_, rfl⟩
    have hLn : L.length = nG g := by rw [hL]; rfl
    obtain ⟨n, hnn⟩ : ∃ n, n = nG g := ⟨_, rfl⟩
    rw [← hnn] at ha hn hLn kr ⊢
    rw [← hL] at kr w1 w2 w3 w4 w5 hm hnd ⊢
    obtain ⟨s, hs⟩ : ∃ s, s = srcOf g (L.getD a id0) := ⟨_, rfl⟩
    rw [← hs] at hm ⊢
    have hsd : s = (g.fr.getD ((L.getD a ⟨0, 0⟩).t - 1).toNat []).getD (L.getD a ⟨0, 0⟩).i.toNat ⟨0, 0⟩ := hs
    refine Pure.go (ty := ty) ty_eq mo Try.func81 rfl Try.ntmps81 Try.results81 Try.call81 (by simp) fun P C CQ D W F E hF => ?_
    cbv
    repeat' (first
      | (refine E.de 27 [] [none] (by decide +kernel) ?_; cbv; (fail_if_success guard_target =~ False))
      | (refine E.c (SCalls.of_le (kr) ?_ ?_); (· (cbv; (try simp only [nc] at *); first | done | (simp; done) | (simp (disch := (first | omega | (simp only [lnS, List.length_append, List.length_map, List.length_range, List.length_replicate]; omega))) only [nc, nct, w64_of, Int.toNat_natCast, Int.toNat_zero, List.length_map, rdS, at_agg, bofZ, bof1, bof0, List.getD_cons_zero, List.getD_cons_succ, implies_true, and_true, true_and, forall_const]; first | done | omega | (refine ⟨?_, ?_⟩ <;> omega)) | (simp (disch := (first | omega | (simp only [lnS, List.length_append, List.length_map, List.length_range, List.length_replicate]; omega))) [nc, nct, w64_of, Int.toNat_natCast, Int.toNat_zero, List.length_map, rdS, at_agg, bofZ, bof1, bof0, List.getD_cons_zero, List.getD_cons_succ]; done))); cbv)
      | (refine ⟨fun _ h_s => ?_, fun _ h_s => ?_⟩ <;> (cbv; (try simp only [nc] at *); try simp (disch := (first | omega | (simp only [lnS, List.length_append, List.length_map, List.length_range, List.length_replicate]; omega))) only [nc, nct, w64_of, Int.toNat_natCast, Int.toNat_zero, List.length_map, rdS, at_agg, bofZ, bof1, bof0, List.getD_cons_zero, List.getD_cons_succ, reduceCtorEq, Bool.not_true, Bool.not_false, decide_eq_true_eq, decide_eq_false_iff_not, Bool.not_eq_true, Bool.not_eq_false, Bool.not_eq_true', Bool.not_eq_false', ne_eq, Decidable.not_not, Int.not_le, Int.not_lt, beq_iff_eq] at h_s))
      | (refine hF ?_; intro _; clear hF)
      | (refine hF ?_; cbv; clear hF)
      | (refine ⟨fun _ => ?_, ?_⟩; (· ((try simp only [nc] at *); first | done | omega | exact ⟨by omega, rfl⟩ | (simp (disch := (first | omega | (simp only [lnS, List.length_append, List.length_map, List.length_range, List.length_replicate]; omega))) only [nc, nct, w64_of, Int.toNat_natCast, Int.toNat_zero, List.length_map, rdS, at_agg, bofZ, bof1, bof0, List.getD_cons_zero, List.getD_cons_succ]; first | done | omega | rfl | exact ⟨by omega, rfl⟩ | (simp; done) | (simp; omega)) | (intros; trivial))); (try (simp only [nc] at *)); (try simp (disch := (first | omega | (simp only [lnS, List.length_append, List.length_map, List.length_range, List.length_replicate]; omega))) only [nc, nct, w64_of, Int.toNat_natCast, Int.toNat_zero, List.length_map, rdS, at_agg, bofZ, bof1, bof0, List.getD_cons_zero, List.getD_cons_succ]); (try cbv))
      | (refine E.d 8 (by decide +kernel) ?_; cbv; (fail_if_success guard_target =~ False))
      | fail
    )
    skip
    refine E.loopS (ι := Nat) (fun k => k ≤ n ∧ (∀ j < k, L.getD j ⟨0, 0⟩ ≠ s)) (fun k => n - k) (fun k => [(6, .i fun _ => ((k : Nat) : Int))]) (fun k h => h) 0 (fun _ => by first | rfl | simp) ⟨Nat.zero_le _, ?_⟩ ?_ fun k hk I hI => ?_
    · intro j hj; omega
    · cbv; simp
    cbv
    repeat' (first
      | (refine hI (k + 1) ?_ ?_ ?_; rotate_left 1; (· ((try simp only [nc] at *); omega)); (cbv; clear hI; (try clear hF); (try simp only [nc] at *); (try simp (disch := (first | omega | (simp only [lnS, List.length_append, List.length_map, List.length_range, List.length_replicate]; omega))) only [nc, nct, w64_of, Int.toNat_natCast, Int.toNat_zero, List.length_map, rdS, at_agg, bofZ, bof1, bof0, List.getD_cons_zero, List.getD_cons_succ, ← hsd, implies_true, and_true, true_and, forall_const])); rotate_left 1; (try ((try simp only [nc] at *); omega)))
      | (refine ⟨fun _ h_s => ?_, fun _ h_s => ?_⟩ <;> (cbv; (try simp only [nc] at *); try simp (disch := (first | omega | (simp only [lnS, List.length_append, List.length_map, List.length_range, List.length_replicate]; omega))) only [nc, nct, w64_of, Int.toNat_natCast, Int.toNat_zero, List.length_map, rdS, at_agg, bofZ, bof1, bof0, List.getD_cons_zero, List.getD_cons_succ, ← hsd, reduceCtorEq, Bool.not_true, Bool.not_false, decide_eq_true_eq, decide_eq_false_iff_not, Bool.not_eq_true, Bool.not_eq_false, Bool.not_eq_true', Bool.not_eq_false', ne_eq, Decidable.not_not, Int.not_le, Int.not_lt, beq_iff_eq] at h_s))
      | (refine hF ?_; intro _; clear hF)
      | (refine hF ?_; cbv; clear hF)
      | (refine ⟨fun _ => ?_, ?_⟩; (· ((try simp only [nc] at *); first | done | omega | exact ⟨by omega, rfl⟩ | (simp (disch := (first | omega | (simp only [lnS, List.length_append, List.length_map, List.length_range, List.length_replicate]; omega))) only [nc, nct, w64_of, Int.toNat_natCast, Int.toNat_zero, List.length_map, rdS, at_agg, bofZ, bof1, bof0, List.getD_cons_zero, List.getD_cons_succ, ← hsd]; first | done | omega | rfl | exact ⟨by omega, rfl⟩ | (simp; done) | (simp; omega)) | (intros; trivial))); (try (simp only [nc] at *)); (try simp (disch := (first | omega | (simp only [lnS, List.length_append, List.length_map, List.length_range, List.length_replicate]; omega))) only [nc, nct, w64_of, Int.toNat_natCast, Int.toNat_zero, List.length_map, rdS, at_agg, bofZ, bof1, bof0, List.getD_cons_zero, List.getD_cons_succ, ← hsd]); (try cbv))
      | (refine E.d 8 (by decide +kernel) ?_; cbv; (fail_if_success guard_target =~ False))
      | fail
    )
    · simp only [Bool.and_true, Bool.and_eq_true, decide_eq_true_eq] at h_s
      have he : L.getD k id0 = s := EId.ext' h_s.1 h_s.2
      have := numOf_at hnd (k := k) (by ((try simp only [nc] at *); omega))
      rw [he] at this
      show (k : Int) = _
      rw [this]
    · refine ⟨by ((try simp only [nc] at *); omega), fun j hj => ?_⟩
      rcases Nat.lt_or_ge j k with hjk | hjk
      · exact hk.2 j hjk
      · have : j = k := by omega
        subst this
        intro he
        rw [he] at h_s
        simp at h_s
    · push_cast; rfl
    · exfalso
      exact hk.2 _ (by have := numOf_lt hm; ((try simp only [nc] at *); omega)) (numOf_get hm)
end Go.AL.Rl

namespace Go.AL.Rl
open Go Go.AL Go.Proofs
set_option maxRecDepth 100000
set_option maxHeartbeats 1600000
variable {γ : Nat → Option AV}

theorem wplace_ok (g : Gr) (hg : Rd g) (h : GOk g) (a : Nat) (ha : a < nG g) (hw : writesM ((viewG g).ev.getD a ev0) = true) : Pure Try.prog γ false 94 [pW g, .i fun _ => (a : Int)] (.i fun _ => (viewG g).pl.getD a 0) := by
  rw [vpl h a ha]
  have hev : eventM g ((idsG g).getD a id0) = some ((evsG g).getD a ev0) := vev h a ha
  have hw : writesM ((evsG g).getD a ev0) = true := hw
  have hn : nG g ≤ 62 := (viewG_wf h).small
  have hEl := evsG_l g
  have hLn := idsG_l g
  unfold pW
  generalize idsG g = L at *
  generalize evsG g = Es at *
  generalize nG g = n at *
  have hpw := pl_write h hev hw
  have hl : (L.getD a id0).t ≠ 0 → 0 ≤ (Es.getD a ev0).loc ∧ (Es.getD a ev0).loc < g.ord.length := fun h0 => by
    have := fine_loc (event_fine h hev h0) (notFence_w hw)
    rw [h.lord]; exact this
  have hord := ordsAt hg (Es.getD a ev0).loc.toNat
  have hnd : (g.ord.getD (Es.getD a ev0).loc.toNat []).Nodup := by
    by_cases hx : (Es.getD a ev0).loc.toNat < g.init.length
    · exact ((ordered_iff g _).1 (h.orders _ hx)).1
    · rw [List.getD_eq_getElem?_getD, List.getElem?_eq_none (by rw [h.lord]; omega)]; simp
  obtain ⟨l, hll⟩ : ∃ l, l = g.ord.getD (Es.getD a ⟨0, 0, 0, 0, 0⟩).loc.toNat [] := ⟨_, rfl⟩
  obtain ⟨p, hp⟩ : ∃ p, p = plOf g (L.getD a id0) := ⟨_, rfl⟩
  rw [← hp] at hpw ⊢
  rw [← hll] at hpw hord hnd
  refine Pure.go (ty := ty) ty_eq mo Try.func94 rfl Try.ntmps94 Try.results94 Try.call94 (by simp) fun P C CQ D W F E hF => ?_
  cbv
  skip
  repeat' (first
    | (refine ⟨fun _ h_s => ?_, fun _ h_s => ?_⟩ <;> (cbv; (try simp only [nc] at *); try simp (disch := (first | omega | (simp only [lnS, List.length_append, List.length_map, List.length_range, List.length_replicate]; omega))) only [nc, nct, w64_of, Int.toNat_natCast, Int.toNat_zero, List.length_map, rdS, at_agg, bofZ, bof1, bof0, List.getD_cons_zero, List.getD_cons_succ, ← hll, reduceCtorEq, Bool.not_true, Bool.not_false, decide_eq_true_eq, decide_eq_false_iff_not, Bool.not_eq_true, Bool.not_eq_false, Bool.not_eq_true', Bool.not_eq_false', ne_eq, Decidable.not_not, Int.not_le, Int.not_lt, beq_iff_eq] at h_s))
    | (refine hF ?_; intro _; clear hF)
    | (refine hF ?_; cbv; clear hF)
    | (refine ⟨fun _ => ?_, ?_⟩; (· ((try simp only [nc] at *); first | done | omega | exact ⟨by omega, rfl⟩ | (simp (disch := (first | omega | (simp only [lnS, List.length_append, List.length_map, List.length_range, List.length_replicate]; omega))) only [nc, nct, w64_of, Int.toNat_natCast, Int.toNat_zero, List.length_map, rdS, at_agg, bofZ, bof1, bof0, List.getD_cons_zero, List.getD_cons_succ, ← hll]; first | done | omega | rfl | exact ⟨by omega, rfl⟩ | (simp; done) | (simp; omega)) | (intros; trivial))); (try (simp only [nc] at *)); (try simp (disch := (first | omega | (simp only [lnS, List.length_append, List.length_map, List.length_range, List.length_replicate]; omega))) only [nc, nct, w64_of, Int.toNat_natCast, Int.toNat_zero, List.length_map, rdS, at_agg, bofZ, bof1, bof0, List.getD_cons_zero, List.getD_cons_succ, ← hll]); (try cbv))
    | (refine E.d 11 (by decide +kernel) ?_; cbv; (fail_if_success guard_target =~ False))
    | (refine E.d 13 (by decide +kernel) ?_; cbv; (fail_if_success guard_target =~ False))
    | fail
  )
  · rcases hpw with h1 | h1
    · exact h1.2.symm
    · exact absurd h_s h1.1
  · obtain ⟨h0, k0, hk1, hk2, hk3⟩ := hpw.resolve_left fun h1 => h_s h1.1
    have hl' := hl h0
    repeat' (first
      | (refine ⟨fun _ h_s => ?_, fun _ h_s => ?_⟩ <;> (cbv; (try simp only [nc] at *); try simp (disch := (first | omega | (simp only [lnS, List.length_append, List.length_map, List.length_range, List.length_replicate]; omega))) only [nc, nct, w64_of, Int.toNat_natCast, Int.toNat_zero, List.length_map, rdS, at_agg, bofZ, bof1, bof0, List.getD_cons_zero, List.getD_cons_succ, ← hll, reduceCtorEq, Bool.not_true, Bool.not_false, decide_eq_true_eq, decide_eq_false_iff_not, Bool.not_eq_true, Bool.not_eq_false, Bool.not_eq_true', Bool.not_eq_false', ne_eq, Decidable.not_not, Int.not_le, Int.not_lt, beq_iff_eq] at h_s))
      | (refine hF ?_; intro _; clear hF)
      | (refine hF ?_; cbv; clear hF)
      | (refine ⟨fun _ => ?_, ?_⟩; (· ((try simp only [nc] at *); first | done | omega | exact ⟨by omega, rfl⟩ | (simp (disch := (first | omega | (simp only [lnS, List.length_append, List.length_map, List.length_range, List.length_replicate]; omega))) only [nc, nct, w64_of, Int.toNat_natCast, Int.toNat_zero, List.length_map, rdS, at_agg, bofZ, bof1, bof0, List.getD_cons_zero, List.getD_cons_succ, ← hll]; first | done | omega | rfl | exact ⟨by omega, rfl⟩ | (simp; done) | (simp; omega)) | (intros; trivial))); (try (simp only [nc] at *)); (try simp (disch := (first | omega | (simp only [lnS, List.length_append, List.length_map, List.length_range, List.length_replicate]; omega))) only [nc, nct, w64_of, Int.toNat_natCast, Int.toNat_zero, List.length_map, rdS, at_agg, bofZ, bof1, bof0, List.getD_cons_zero, List.getD_cons_succ, ← hll]); (try cbv))
      | (refine E.d 11 (by decide +kernel) ?_; cbv; (fail_if_success guard_target =~ False))
      | (refine E.d 13 (by decide +kernel) ?_; cbv; (fail_if_success guard_target =~ False))
      | fail
    )
    refine E.loopS (ι := Nat) (fun k => k ≤ l.length ∧ (k ≤ k0)) (fun k => l.length - k) (fun k => [(6, .i fun _ => ((k : Nat) : Int))]) (fun k h => h) 0 (fun _ => by first | rfl | simp) ⟨Nat.zero_le _, ?_⟩ ?_ fun k hk I hI => ?_
    · omega
    · cbv; simp
    cbv
    repeat' (first
      | (refine hI (k + 1) ?_ ?_ ?_; rotate_left 1; (· ((try simp only [nc] at *); omega)); (cbv; clear hI; (try clear hF); (try simp only [nc] at *); (try simp (disch := (first | omega | (simp only [lnS, List.length_append, List.length_map, List.length_range, List.length_replicate]; omega))) only [nc, nct, w64_of, Int.toNat_natCast, Int.toNat_zero, List.length_map, rdS, at_agg, bofZ, bof1, bof0, List.getD_cons_zero, List.getD_cons_succ, ← hll, implies_true, and_true, true_and, forall_const])); rotate_left 1; (try ((try simp only [nc] at *); omega)))
      | (refine ⟨fun _ h_s => ?_, fun _ h_s => ?_⟩ <;> (cbv; (try simp only [nc] at *); try simp (disch := (first | omega | (simp only [lnS, List.length_append, List.length_map, List.length_range, List.length_replicate]; omega))) only [nc, nct, w64_of, Int.toNat_natCast, Int.toNat_zero, List.length_map, rdS, at_agg, bofZ, bof1, bof0, List.getD_cons_zero, List.getD_cons_succ, ← hll, reduceCtorEq, Bool.not_true, Bool.not_false, decide_eq_true_eq, decide_eq_false_iff_not, Bool.not_eq_true, Bool.not_eq_false, Bool.not_eq_true', Bool.not_eq_false', ne_eq, Decidable.not_not, Int.not_le, Int.not_lt, beq_iff_eq] at h_s))
      | (refine hF ?_; intro _; clear hF)
      | (refine hF ?_; cbv; clear hF)
      | (refine ⟨fun _ => ?_, ?_⟩; (· ((try simp only [nc] at *); first | done | omega | exact ⟨by omega, rfl⟩ | (simp (disch := (first | omega | (simp only [lnS, List.length_append, List.length_map, List.length_range, List.length_replicate]; omega))) only [nc, nct, w64_of, Int.toNat_natCast, Int.toNat_zero, List.length_map, rdS, at_agg, bofZ, bof1, bof0, List.getD_cons_zero, List.getD_cons_succ, ← hll]; first | done | omega | rfl | exact ⟨by omega, rfl⟩ | (simp; done) | (simp; omega)) | (intros; trivial))); (try (simp only [nc] at *)); (try simp (disch := (first | omega | (simp only [lnS, List.length_append, List.length_map, List.length_range, List.length_replicate]; omega))) only [nc, nct, w64_of, Int.toNat_natCast, Int.toNat_zero, List.length_map, rdS, at_agg, bofZ, bof1, bof0, List.getD_cons_zero, List.getD_cons_succ, ← hll]); (try cbv))
      | (refine E.d 11 (by decide +kernel) ?_; cbv; (fail_if_success guard_target =~ False))
      | (refine E.d 13 (by decide +kernel) ?_; cbv; (fail_if_success guard_target =~ False))
      | fail
    )
    · simp only [Bool.and_true, Bool.and_eq_true, decide_eq_true_eq] at h_s
      have he : l.getD k id0 = l.getD k0 id0 := (EId.ext' h_s.1 h_s.2).trans hk3.symm
      have e : k = k0 := getD_inj hnd (by ((try simp only [nc] at *); omega)) hk2 he
      subst e
      show w64 ((k : Int) + 1) = p
      rw [hk1, w64_of (by ((try simp only [nc] at *); omega)) (by ((try simp only [nc] at *); omega))]
    · refine ⟨by ((try simp only [nc] at *); omega), ?_⟩
      rcases Nat.lt_or_ge k k0 with hlt | hge
      · omega
      · exfalso
        have : k = k0 := by omega
        subst this
        rw [hk3] at h_s
        simp at h_s
    · push_cast; rfl
    · exfalso; ((try simp only [nc] at *); omega)
theorem wrf_ok (g : Gr) (h : GOk g) (a b : Nat) (ha : a < nG g) (hb : b < nG g) : Pure Try.prog γ false 73 [pW g, .i fun _ => (a : Int), .i fun _ => (b : Int)] (.b fun _ => rfM (viewG g) a b) := by
  have k := wfrom_ok (γ := γ) g h b hb
  refine Pure.go (ty := ty) ty_eq mo Try.func73 rfl Try.ntmps73 Try.results73 Try.call73 (by simp) fun P C CQ D W F E hF => ?_
  cbv
  repeat' (first
    | (refine E.c (SCalls.of_le (k) ?_ ?_); (· (cbv; (try simp only [nc] at *); first | done | (simp; done) | (simp (disch := (first | omega | (simp only [lnS, List.length_append, List.length_map, List.length_range, List.length_replicate]; omega))) only [nc, nct, w64_of, Int.toNat_natCast, Int.toNat_zero, List.length_map, rdS, at_agg, bofZ, bof1, bof0, List.getD_cons_zero, List.getD_cons_succ, ← hll, implies_true, and_true, true_and, forall_const]; first | done | omega | (refine ⟨?_, ?_⟩ <;> omega)) | (simp (disch := (first | omega | (simp only [lnS, List.length_append, List.length_map, List.length_range, List.length_replicate]; omega))) [nc, nct, w64_of, Int.toNat_natCast, Int.toNat_zero, List.length_map, rdS, at_agg, bofZ, bof1, bof0, List.getD_cons_zero, List.getD_cons_succ, ← hll]; done))); cbv)
    | (refine E.q (QCalls.of_le (k) ?_ ?_); (· (cbv; (try simp only [nc] at *); first | done | (simp; done) | (simp (disch := (first | omega | (simp only [lnS, List.length_append, List.length_map, List.length_range, List.length_replicate]; omega))) only [nc, nct, w64_of, Int.toNat_natCast, Int.toNat_zero, List.length_map, rdS, at_agg, bofZ, bof1, bof0, List.getD_cons_zero, List.getD_cons_succ, ← hll, implies_true, and_true, true_and, forall_const]; first | done | omega | (refine ⟨?_, ?_⟩ <;> omega)) | (simp (disch := (first | omega | (simp only [lnS, List.length_append, List.length_map, List.length_range, List.length_replicate]; omega))) [nc, nct, w64_of, Int.toNat_natCast, Int.toNat_zero, List.length_map, rdS, at_agg, bofZ, bof1, bof0, List.getD_cons_zero, List.getD_cons_succ, ← hll]; done))); cbv)
    | (refine ⟨fun _ h_s => ?_, fun _ h_s => ?_⟩ <;> (cbv; (try simp only [nc] at *); try simp (disch := (first | omega | (simp only [lnS, List.length_append, List.length_map, List.length_range, List.length_replicate]; omega))) only [nc, nct, w64_of, Int.toNat_natCast, Int.toNat_zero, List.length_map, rdS, at_agg, bofZ, bof1, bof0, List.getD_cons_zero, List.getD_cons_succ, ← hll, reduceCtorEq, Bool.not_true, Bool.not_false, decide_eq_true_eq, decide_eq_false_iff_not, Bool.not_eq_true, Bool.not_eq_false, Bool.not_eq_true', Bool.not_eq_false', ne_eq, Decidable.not_not, Int.not_le, Int.not_lt, beq_iff_eq] at h_s))
    | (refine hF ?_; intro _; clear hF)
    | (refine hF ?_; cbv; clear hF)
    | (refine ⟨fun _ => ?_, ?_⟩; (· ((try simp only [nc] at *); first | done | omega | exact ⟨by omega, rfl⟩ | (simp (disch := (first | omega | (simp only [lnS, List.length_append, List.length_map, List.length_range, List.length_replicate]; omega))) only [nc, nct, w64_of, Int.toNat_natCast, Int.toNat_zero, List.length_map, rdS, at_agg, bofZ, bof1, bof0, List.getD_cons_zero, List.getD_cons_succ, ← hll]; first | done | omega | rfl | exact ⟨by omega, rfl⟩ | (simp; done) | (simp; omega)) | (intros; trivial))); (try (simp only [nc] at *)); (try simp (disch := (first | omega | (simp only [lnS, List.length_append, List.length_map, List.length_range, List.length_replicate]; omega))) only [nc, nct, w64_of, Int.toNat_natCast, Int.toNat_zero, List.length_map, rdS, at_agg, bofZ, bof1, bof0, List.getD_cons_zero, List.getD_cons_succ, ← hll]); (try cbv))
    | fail
  )
  all_goals (try simp only [nc] at *)
  all_goals (try simp (disch := (first | omega | (simp only [lnS, List.length_append, List.length_map, List.length_range, List.length_replicate]; omega))) only [nc, nct, w64_of, Int.toNat_natCast, Int.toNat_zero, List.length_map, rdS, at_agg, bofZ, bof1, bof0, List.getD_cons_zero, List.getD_cons_succ, ← hll])
  all_goals (try simp only [rfM])
end Go.AL.Rl

namespace Go.AL.Rl
open Go Go.AL Go.Proofs
set_option maxRecDepth 100000
set_option maxHeartbeats 1600000
variable {γ : Nat → Option AV}

theorem co_eq {g : Gr} (h : GOk g) (a b : Nat) (ha : a < nG g) (hb : b < nG g) : coM (viewG g) a b = (writesM ((viewG g).ev.getD a ev0) && writesM ((viewG g).ev.getD b ev0) && decide (((viewG g).ev.getD a ev0).loc = ((viewG g).ev.getD b ev0).loc) && decide ((viewG g).pl.getD a 0 < (viewG g).pl.getD b 0)) := by
  rw [Bool.eq_iff_iff]
  unfold coM
  simp only [Bool.and_eq_true, decide_eq_true_eq, pl_iff h a ha]
  constructor
  · rintro ⟨⟨h1, h2⟩, h3⟩
    have p1 := (pl_iff h a ha).2 h1
    refine ⟨⟨⟨h1, (pl_iff h b hb).1 (by omega)⟩, ?_⟩, h3⟩
    unfold nearM at h2
    simp only [Bool.and_eq_true, decide_eq_true_eq] at h2
    exact h2.2
  · rintro ⟨⟨⟨h1, h2⟩, h3⟩, h4⟩
    exact ⟨⟨h1, near_of (notFence_w h1) (notFence_w h2) h3⟩, h4⟩
theorem fr_eq {g : Gr} (h : GOk g) (a b : Nat) (ha : a < nG g) : frM (viewG g) a b = (decide (a ≠ b) && readsM ((viewG g).ev.getD a ev0) && coM (viewG g) ((viewG g).fr.getD a 0).toNat b) := by
  unfold frM
  congr 2
  rw [Bool.eq_iff_iff, decide_eq_true_eq, fr_iff h a ha]
theorem wco_ok (g : Gr) (hg : Rd g) (h : GOk g) (a b : Nat) (ha : a < nG g) (hb : b < nG g) : Pure Try.prog γ false 74 [pW g, .i fun _ => (a : Int), .i fun _ => (b : Int)] (.b fun _ => coM (viewG g) a b) := by
  have h1 := evsG_l g
  have q1 := wwrites_ok (γ := γ) g a ha
  have q2 := wwrites_ok (γ := γ) g b hb
  have q3 := wplace_ok (γ := γ) g hg h a ha
  have q4 := wplace_ok (γ := γ) g hg h b hb
  rw [co_eq h a b ha hb]
  obtain ⟨wa, hwa⟩ : ∃ w, w = writesM ((viewG g).ev.getD a ev0) := ⟨_, rfl⟩
  obtain ⟨wb, hwb⟩ : ∃ w, w = writesM ((viewG g).ev.getD b ev0) := ⟨_, rfl⟩
  rw [← hwa] at q1 q3 ⊢
  rw [← hwb] at q2 q4 ⊢
  show Pure _ _ _ _ _ (.b fun _ => wa && wb && decide (((evsG g).getD a ev0).loc = ((evsG g).getD b ev0).loc) && decide ((viewG g).pl.getD a 0 < (viewG g).pl.getD b 0))
  generalize (viewG g).pl.getD a 0 = pa at *
  generalize (viewG g).pl.getD b 0 = pb at *
  refine Pure.go (ty := ty) ty_eq mo Try.func74 rfl Try.ntmps74 Try.results74 Try.call74 (by simp) fun P C CQ D W F E hF => ?_
  cbv
  repeat' (first
    | (refine E.c (SCalls.of_le (q4 (by assumption)) ?_ ?_); (· (cbv; (try simp only [nc] at *); first | done | (simp; done) | (simp (disch := (first | omega | (simp only [lnS, List.length_append, List.length_map, List.length_range, List.length_replicate]; omega))) only [nc, nct, w64_of, Int.toNat_natCast, Int.toNat_zero, List.length_map, rdS, at_agg, bofZ, bof1, bof0, List.getD_cons_zero, List.getD_cons_succ, implies_true, and_true, true_and, forall_const]; first | done | omega | (refine ⟨?_, ?_⟩ <;> omega)) | (simp (disch := (first | omega | (simp only [lnS, List.length_append, List.length_map, List.length_range, List.length_replicate]; omega))) [nc, nct, w64_of, Int.toNat_natCast, Int.toNat_zero, List.length_map, rdS, at_agg, bofZ, bof1, bof0, List.getD_cons_zero, List.getD_cons_succ]; done))); cbv)
    | (refine E.q (QCalls.of_le (q4 (by assumption)) ?_ ?_); (· (cbv; (try simp only [nc] at *); first | done | (simp; done) | (simp (disch := (first | omega | (simp only [lnS, List.length_append, List.length_map, List.length_range, List.length_replicate]; omega))) only [nc, nct, w64_of, Int.toNat_natCast, Int.toNat_zero, List.length_map, rdS, at_agg, bofZ, bof1, bof0, List.getD_cons_zero, List.getD_cons_succ, implies_true, and_true, true_and, forall_const]; first | done | omega | (refine ⟨?_, ?_⟩ <;> omega)) | (simp (disch := (first | omega | (simp only [lnS, List.length_append, List.length_map, List.length_range, List.length_replicate]; omega))) [nc, nct, w64_of, Int.toNat_natCast, Int.toNat_zero, List.length_map, rdS, at_agg, bofZ, bof1, bof0, List.getD_cons_zero, List.getD_cons_succ]; done))); cbv)
    | (refine E.c (SCalls.of_le (q3 (by assumption)) ?_ ?_); (· (cbv; (try simp only [nc] at *); first | done | (simp; done) | (simp (disch := (first | omega | (simp only [lnS, List.length_append, List.length_map, List.length_range, List.length_replicate]; omega))) only [nc, nct, w64_of, Int.toNat_natCast, Int.toNat_zero, List.length_map, rdS, at_agg, bofZ, bof1, bof0, List.getD_cons_zero, List.getD_cons_succ, implies_true, and_true, true_and, forall_const]; first | done | omega | (refine ⟨?_, ?_⟩ <;> omega)) | (simp (disch := (first | omega | (simp only [lnS, List.length_append, List.length_map, List.length_range, List.length_replicate]; omega))) [nc, nct, w64_of, Int.toNat_natCast, Int.toNat_zero, List.length_map, rdS, at_agg, bofZ, bof1, bof0, List.getD_cons_zero, List.getD_cons_succ]; done))); cbv)
    | (refine E.q (QCalls.of_le (q3 (by assumption)) ?_ ?_); (· (cbv; (try simp only [nc] at *); first | done | (simp; done) | (simp (disch := (first | omega | (simp only [lnS, List.length_append, List.length_map, List.length_range, List.length_replicate]; omega))) only [nc, nct, w64_of, Int.toNat_natCast, Int.toNat_zero, List.length_map, rdS, at_agg, bofZ, bof1, bof0, List.getD_cons_zero, List.getD_cons_succ, implies_true, and_true, true_and, forall_const]; first | done | omega | (refine ⟨?_, ?_⟩ <;> omega)) | (simp (disch := (first | omega | (simp only [lnS, List.length_append, List.length_map, List.length_range, List.length_replicate]; omega))) [nc, nct, w64_of, Int.toNat_natCast, Int.toNat_zero, List.length_map, rdS, at_agg, bofZ, bof1, bof0, List.getD_cons_zero, List.getD_cons_succ]; done))); cbv)
    | (refine E.c (SCalls.of_le (q2) ?_ ?_); (· (cbv; (try simp only [nc] at *); first | done | (simp; done) | (simp (disch := (first | omega | (simp only [lnS, List.length_append, List.length_map, List.length_range, List.length_replicate]; omega))) only [nc, nct, w64_of, Int.toNat_natCast, Int.toNat_zero, List.length_map, rdS, at_agg, bofZ, bof1, bof0, List.getD_cons_zero, List.getD_cons_succ, implies_true, and_true, true_and, forall_const]; first | done | omega | (refine ⟨?_, ?_⟩ <;> omega)) | (simp (disch := (first | omega | (simp only [lnS, List.length_append, List.length_map, List.length_range, List.length_replicate]; omega))) [nc, nct, w64_of, Int.toNat_natCast, Int.toNat_zero, List.length_map, rdS, at_agg, bofZ, bof1, bof0, List.getD_cons_zero, List.getD_cons_succ]; done))); cbv)
    | (refine E.q (QCalls.of_le (q2) ?_ ?_); (· (cbv; (try simp only [nc] at *); first | done | (simp; done) | (simp (disch := (first | omega | (simp only [lnS, List.length_append, List.length_map, List.length_range, List.length_replicate]; omega))) only [nc, nct, w64_of, Int.toNat_natCast, Int.toNat_zero, List.length_map, rdS, at_agg, bofZ, bof1, bof0, List.getD_cons_zero, List.getD_cons_succ, implies_true, and_true, true_and, forall_const]; first | done | omega | (refine ⟨?_, ?_⟩ <;> omega)) | (simp (disch := (first | omega | (simp only [lnS, List.length_append, List.length_map, List.length_range, List.length_replicate]; omega))) [nc, nct, w64_of, Int.toNat_natCast, Int.toNat_zero, List.length_map, rdS, at_agg, bofZ, bof1, bof0, List.getD_cons_zero, List.getD_cons_succ]; done))); cbv)
    | (refine E.c (SCalls.of_le (q1) ?_ ?_); (· (cbv; (try simp only [nc] at *); first | done | (simp; done) | (simp (disch := (first | omega | (simp only [lnS, List.length_append, List.length_map, List.length_range, List.length_replicate]; omega))) only [nc, nct, w64_of, Int.toNat_natCast, Int.toNat_zero, List.length_map, rdS, at_agg, bofZ, bof1, bof0, List.getD_cons_zero, List.getD_cons_succ, implies_true, and_true, true_and, forall_const]; first | done | omega | (refine ⟨?_, ?_⟩ <;> omega)) | (simp (disch := (first | omega | (simp only [lnS, List.length_append, List.length_map, List.length_range, List.length_replicate]; omega))) [nc, nct, w64_of, Int.toNat_natCast, Int.toNat_zero, List.length_map, rdS, at_agg, bofZ, bof1, bof0, List.getD_cons_zero, List.getD_cons_succ]; done))); cbv)
    | (refine E.q (QCalls.of_le (q1) ?_ ?_); (· (cbv; (try simp only [nc] at *); first | done | (simp; done) | (simp (disch := (first | omega | (simp only [lnS, List.length_append, List.length_map, List.length_range, List.length_replicate]; omega))) only [nc, nct, w64_of, Int.toNat_natCast, Int.toNat_zero, List.length_map, rdS, at_agg, bofZ, bof1, bof0, List.getD_cons_zero, List.getD_cons_succ, implies_true, and_true, true_and, forall_const]; first | done | omega | (refine ⟨?_, ?_⟩ <;> omega)) | (simp (disch := (first | omega | (simp only [lnS, List.length_append, List.length_map, List.length_range, List.length_replicate]; omega))) [nc, nct, w64_of, Int.toNat_natCast, Int.toNat_zero, List.length_map, rdS, at_agg, bofZ, bof1, bof0, List.getD_cons_zero, List.getD_cons_succ]; done))); cbv)
    | (refine ⟨fun _ h_s => ?_, fun _ h_s => ?_⟩ <;> (cbv; (try simp only [nc] at *); try simp (disch := (first | omega | (simp only [lnS, List.length_append, List.length_map, List.length_range, List.length_replicate]; omega))) only [nc, nct, w64_of, Int.toNat_natCast, Int.toNat_zero, List.length_map, rdS, at_agg, bofZ, bof1, bof0, List.getD_cons_zero, List.getD_cons_succ, reduceCtorEq, Bool.not_true, Bool.not_false, decide_eq_true_eq, decide_eq_false_iff_not, Bool.not_eq_true, Bool.not_eq_false, Bool.not_eq_true', Bool.not_eq_false', ne_eq, Decidable.not_not, Int.not_le, Int.not_lt, beq_iff_eq] at h_s))
    | (refine hF ?_; intro _; clear hF)
    | (refine hF ?_; cbv; clear hF)
    | (refine ⟨fun _ => ?_, ?_⟩; (· ((try simp only [nc] at *); first | done | omega | exact ⟨by omega, rfl⟩ | (simp (disch := (first | omega | (simp only [lnS, List.length_append, List.length_map, List.length_range, List.length_replicate]; omega))) only [nc, nct, w64_of, Int.toNat_natCast, Int.toNat_zero, List.length_map, rdS, at_agg, bofZ, bof1, bof0, List.getD_cons_zero, List.getD_cons_succ]; first | done | omega | rfl | exact ⟨by omega, rfl⟩ | (simp; done) | (simp; omega)) | (intros; trivial))); (try (simp only [nc] at *)); (try simp (disch := (first | omega | (simp only [lnS, List.length_append, List.length_map, List.length_range, List.length_replicate]; omega))) only [nc, nct, w64_of, Int.toNat_natCast, Int.toNat_zero, List.length_map, rdS, at_agg, bofZ, bof1, bof0, List.getD_cons_zero, List.getD_cons_succ]); (try cbv))
    | (refine E.d 33 (by decide +kernel) ?_; cbv; (fail_if_success guard_target =~ False))
    | fail
  )
  all_goals (try simp only [nc] at *)
  all_goals (try simp (disch := (first | omega | (simp only [lnS, List.length_append, List.length_map, List.length_range, List.length_replicate]; omega))) only [nc, nct, w64_of, Int.toNat_natCast, Int.toNat_zero, List.length_map, rdS, at_agg, bofZ, bof1, bof0, List.getD_cons_zero, List.getD_cons_succ])
  all_goals clear q1 q2 q3 q4
  all_goals simp_all
theorem wfr_ok (g : Gr) (hg : Rd g) (h : GOk g) (a b : Nat) (ha : a < nG g) (hb : b < nG g) : Pure Try.prog γ false 75 [pW g, .i fun _ => (a : Int), .i fun _ => (b : Int)] (.b fun _ => frM (viewG g) a b) := by
  have q1 := wreads_ok (γ := γ) g a ha
  have q2 := wfrom_ok (γ := γ) g h a ha
  have hi := fr_iff h a ha
  have hl := (viewG_wf h).frl a ha
  have q3 := fun h0 : 0 ≤ (viewG g).fr.getD a 0 => wco_ok (γ := γ) g hg h ((viewG g).fr.getD a 0).toNat b (by omega) hb
  rw [fr_eq h a b ha]
  obtain ⟨c, hc⟩ : ∃ c, c = coM (viewG g) ((viewG g).fr.getD a 0).toNat b := ⟨_, rfl⟩
  rw [← hc] at q3 ⊢
  obtain ⟨r, hr⟩ : ∃ w, w = readsM ((viewG g).ev.getD a ev0) := ⟨_, rfl⟩
  rw [← hr] at q1 hi ⊢
  generalize (viewG g).fr.getD a 0 = f at *
  have q4 : r = true → Pure Try.prog γ false 74 [pW g, .i fun _ => f, .i fun _ => (b : Int)] (.b fun _ => c) := fun hr => by
    have := q3 (hi.2 hr)
    rwa [Int.toNat_of_nonneg (hi.2 hr)] at this
  refine Pure.go (ty := ty) ty_eq mo Try.func75 rfl Try.ntmps75 Try.results75 Try.call75 (by simp) fun P C CQ D W F E hF => ?_
  cbv
  repeat' (first
    | (refine E.c (SCalls.of_le (q4 (by assumption)) ?_ ?_); (· (cbv; (try simp only [nc] at *); first | done | (simp; done) | (simp (disch := (first | omega | (simp only [lnS, List.length_append, List.length_map, List.length_range, List.length_replicate]; omega))) only [nc, nct, w64_of, Int.toNat_natCast, Int.toNat_zero, List.length_map, rdS, at_agg, bofZ, bof1, bof0, List.getD_cons_zero, List.getD_cons_succ, implies_true, and_true, true_and, forall_const]; first | done | omega | (refine ⟨?_, ?_⟩ <;> omega)) | (simp (disch := (first | omega | (simp only [lnS, List.length_append, List.length_map, List.length_range, List.length_replicate]; omega))) [nc, nct, w64_of, Int.toNat_natCast, Int.toNat_zero, List.length_map, rdS, at_agg, bofZ, bof1, bof0, List.getD_cons_zero, List.getD_cons_succ]; done))); cbv)
    | (refine E.c (SCalls.of_le (q2) ?_ ?_); (· (cbv; (try simp only [nc] at *); first | done | (simp; done) | (simp (disch := (first | omega | (simp only [lnS, List.length_append, List.length_map, List.length_range, List.length_replicate]; omega))) only [nc, nct, w64_of, Int.toNat_natCast, Int.toNat_zero, List.length_map, rdS, at_agg, bofZ, bof1, bof0, List.getD_cons_zero, List.getD_cons_succ, implies_true, and_true, true_and, forall_const]; first | done | omega | (refine ⟨?_, ?_⟩ <;> omega)) | (simp (disch := (first | omega | (simp only [lnS, List.length_append, List.length_map, List.length_range, List.length_replicate]; omega))) [nc, nct, w64_of, Int.toNat_natCast, Int.toNat_zero, List.length_map, rdS, at_agg, bofZ, bof1, bof0, List.getD_cons_zero, List.getD_cons_succ]; done))); cbv)
    | (refine E.c (SCalls.of_le (q1) ?_ ?_); (· (cbv; (try simp only [nc] at *); first | done | (simp; done) | (simp (disch := (first | omega | (simp only [lnS, List.length_append, List.length_map, List.length_range, List.length_replicate]; omega))) only [nc, nct, w64_of, Int.toNat_natCast, Int.toNat_zero, List.length_map, rdS, at_agg, bofZ, bof1, bof0, List.getD_cons_zero, List.getD_cons_succ, implies_true, and_true, true_and, forall_const]; first | done | omega | (refine ⟨?_, ?_⟩ <;> omega)) | (simp (disch := (first | omega | (simp only [lnS, List.length_append, List.length_map, List.length_range, List.length_replicate]; omega))) [nc, nct, w64_of, Int.toNat_natCast, Int.toNat_zero, List.length_map, rdS, at_agg, bofZ, bof1, bof0, List.getD_cons_zero, List.getD_cons_succ]; done))); cbv)
    | (refine ⟨fun _ h_s => ?_, fun _ h_s => ?_⟩ <;> (cbv; (try simp only [nc] at *); try simp (disch := (first | omega | (simp only [lnS, List.length_append, List.length_map, List.length_range, List.length_replicate]; omega))) only [nc, nct, w64_of, Int.toNat_natCast, Int.toNat_zero, List.length_map, rdS, at_agg, bofZ, bof1, bof0, List.getD_cons_zero, List.getD_cons_succ, reduceCtorEq, Bool.not_true, Bool.not_false, decide_eq_true_eq, decide_eq_false_iff_not, Bool.not_eq_true, Bool.not_eq_false, Bool.not_eq_true', Bool.not_eq_false', ne_eq, Decidable.not_not, Int.not_le, Int.not_lt, beq_iff_eq] at h_s))
    | (refine hF ?_; intro _; clear hF)
    | (refine hF ?_; cbv; clear hF)
    | (refine ⟨fun _ => ?_, ?_⟩; (· ((try simp only [nc] at *); first | done | omega | exact ⟨by omega, rfl⟩ | (simp (disch := (first | omega | (simp only [lnS, List.length_append, List.length_map, List.length_range, List.length_replicate]; omega))) only [nc, nct, w64_of, Int.toNat_natCast, Int.toNat_zero, List.length_map, rdS, at_agg, bofZ, bof1, bof0, List.getD_cons_zero, List.getD_cons_succ]; first | done | omega | rfl | exact ⟨by omega, rfl⟩ | (simp; done) | (simp; omega)) | (intros; trivial))); (try (simp only [nc] at *)); (try simp (disch := (first | omega | (simp only [lnS, List.length_append, List.length_map, List.length_range, List.length_replicate]; omega))) only [nc, nct, w64_of, Int.toNat_natCast, Int.toNat_zero, List.length_map, rdS, at_agg, bofZ, bof1, bof0, List.getD_cons_zero, List.getD_cons_succ]); (try cbv))
    | fail
  )
  all_goals (try simp only [nc] at *)
  all_goals (try simp (disch := (first | omega | (simp only [lnS, List.length_append, List.length_map, List.length_range, List.length_replicate]; omega))) only [nc, nct, w64_of, Int.toNat_natCast, Int.toNat_zero, List.length_map, rdS, at_agg, bofZ, bof1, bof0, List.getD_cons_zero, List.getD_cons_succ])
  all_goals clear q1 q2 q3 q4
  all_goals (have e : ((a : Int) = b) ↔ a = b := Int.ofNat_inj; simp_all)
end Go.AL.Rl

namespace Go.AL.Rl
open Go Go.AL Go.Proofs
set_option maxRecDepth 100000
set_option maxHeartbeats 1600000
variable {γ : Nat → Option AV}

def whatM (w loc : Int) (e : Ev) : Bool := if w = 1 then readsM e else if w = 2 then writesM e else if w = 3 then ofM loc e else if w = 4 then acqM e else if w = 5 then relM e else if w = 6 then decide (e.order = 6) else if w = 7 then decide (e.order ≠ 1) else false
def whatF (w loc : Int) (V : Vw) (n : Nat) : BitVec 64 := maskTo (fun a => whatM w loc (V.ev.getD a ev0)) n
theorem bits_ok (g : Gr) (hg : Rd g) (w loc : Int) : Pure Try.prog γ false 46 [aGr g, .i fun _ => w, .i fun _ => loc] (.u fun _ => maskG g (whatF w loc)) := by
  by_cases h : GOk g
  · unfold maskG
    rw [if_pos h]
    have kl := look15_yes (γ := γ) g hg h
    have hn := (viewG_wf h).small
    have r1 := wreads_ok (γ := γ) g
    have r2 := wwrites_ok (γ := γ) g
    have r3 := wacq_ok (γ := γ) g
    have r4 := wrel_ok (γ := γ) g
    have hEl := evsG_l g
    have hVl : (viewG g).ev = evsG g := rfl
    unfold whatF
    rw [hVl] at r1 r2 r3 r4 ⊢
    obtain ⟨P', hP⟩ : ∃ P' : Nat → Bool, ∀ k, P' k = whatM w loc ((evsG g).getD k ⟨0, 0, 0, 0, 0⟩) := ⟨_, fun _ => rfl⟩
    have hPe : (fun a => whatM w loc ((evsG g).getD a ev0)) = P' := funext fun k => (hP k).symm
    rw [hPe]
    refine Pure.go (ty := ty) ty_eq mo Try.func46 rfl Try.ntmps46 Try.results46 Try.call46 (by simp) fun P C CQ D W F E hF => ?_
    cbv
    repeat' (first
      | (refine E.c (SCalls.of_le (kl) ?_ ?_); (· (cbv; (try simp only [nc] at *); first | done | (simp; done) | (simp (disch := (first | omega | (simp only [lnS, List.length_append, List.length_map, List.length_range, List.length_replicate]; omega))) only [nc, nct, w64_of, Int.toNat_natCast, Int.toNat_zero, List.length_map, rdS, at_agg, bofZ, bof1, bof0, List.getD_cons_zero, List.getD_cons_succ, implies_true, and_true, true_and, forall_const]; first | done | omega | (refine ⟨?_, ?_⟩ <;> omega)) | (simp (disch := (first | omega | (simp only [lnS, List.length_append, List.length_map, List.length_range, List.length_replicate]; omega))) [nc, nct, w64_of, Int.toNat_natCast, Int.toNat_zero, List.length_map, rdS, at_agg, bofZ, bof1, bof0, List.getD_cons_zero, List.getD_cons_succ]; done))); cbv)
      | (refine ⟨fun _ h_s => ?_, fun _ h_s => ?_⟩ <;> (cbv; (try simp only [nc] at *); try simp (disch := (first | omega | (simp only [lnS, List.length_append, List.length_map, List.length_range, List.length_replicate]; omega))) only [nc, nct, w64_of, Int.toNat_natCast, Int.toNat_zero, List.length_map, rdS, at_agg, bofZ, bof1, bof0, List.getD_cons_zero, List.getD_cons_succ, reduceCtorEq, Bool.not_true, Bool.not_false, decide_eq_true_eq, decide_eq_false_iff_not, Bool.not_eq_true, Bool.not_eq_false, Bool.not_eq_true', Bool.not_eq_false', ne_eq, Decidable.not_not, Int.not_le, Int.not_lt, beq_iff_eq] at h_s))
      | (refine hF ?_; intro _; clear hF)
      | (refine hF ?_; cbv; clear hF)
      | (refine ⟨fun _ => ?_, ?_⟩; (· ((try simp only [nc] at *); first | done | omega | exact ⟨by omega, rfl⟩ | (simp (disch := (first | omega | (simp only [lnS, List.length_append, List.length_map, List.length_range, List.length_replicate]; omega))) only [nc, nct, w64_of, Int.toNat_natCast, Int.toNat_zero, List.length_map, rdS, at_agg, bofZ, bof1, bof0, List.getD_cons_zero, List.getD_cons_succ]; first | done | omega | rfl | exact ⟨by omega, rfl⟩ | (simp; done) | (simp; omega)) | (intros; trivial))); (try (simp only [nc] at *)); (try simp (disch := (first | omega | (simp only [lnS, List.length_append, List.length_map, List.length_range, List.length_replicate]; omega))) only [nc, nct, w64_of, Int.toNat_natCast, Int.toNat_zero, List.length_map, rdS, at_agg, bofZ, bof1, bof0, List.getD_cons_zero, List.getD_cons_succ]); (try cbv))
      | fail
    )
    refine E.loopS (ι := Nat) (fun k => k ≤ (nG g)) (fun k => (nG g) - k) (fun k => [(10, .i fun _ => ((k : Nat) : Int)), (9, .u fun _ => maskTo P' k)]) (fun k h => h) 0 (fun _ => by first | rfl | simp) (Nat.zero_le _) ?_ fun k hk I hI => ?_
    · cbv; simp [maskTo]
    cbv
    have hbk := bofInt (k := k) (by omega)
    have hPk := hP k
    have q1 := r1 k
    have q2 := r2 k
    have q3 := r3 k
    have q4 := r4 k
    repeat' (first
      | (refine hI (k + 1) ?_ ?_ ?_; rotate_left 1; (· ((try simp only [nc] at *); omega)); (cbv; clear hI; (try clear hF); (try simp only [nc] at *); (try simp (disch := (first | omega | (simp only [lnS, List.length_append, List.length_map, List.length_range, List.length_replicate]; omega))) only [nc, nct, w64_of, Int.toNat_natCast, Int.toNat_zero, List.length_map, rdS, at_agg, bofZ, bof1, bof0, List.getD_cons_zero, List.getD_cons_succ, implies_true, and_true, true_and, forall_const])); rotate_left 1; (try ((try simp only [nc] at *); omega)))
      | (refine E.c (SCalls.of_le (q4 (by ((try simp only [nc] at *); omega))) ?_ ?_); (· (cbv; (try simp only [nc] at *); first | done | (simp; done) | (simp (disch := (first | omega | (simp only [lnS, List.length_append, List.length_map, List.length_range, List.length_replicate]; omega))) only [nc, nct, w64_of, Int.toNat_natCast, Int.toNat_zero, List.length_map, rdS, at_agg, bofZ, bof1, bof0, List.getD_cons_zero, List.getD_cons_succ, implies_true, and_true, true_and, forall_const]; first | done | omega | (refine ⟨?_, ?_⟩ <;> omega)) | (simp (disch := (first | omega | (simp only [lnS, List.length_append, List.length_map, List.length_range, List.length_replicate]; omega))) [nc, nct, w64_of, Int.toNat_natCast, Int.toNat_zero, List.length_map, rdS, at_agg, bofZ, bof1, bof0, List.getD_cons_zero, List.getD_cons_succ]; done))); cbv)
      | (refine E.c (SCalls.of_le (q3 (by ((try simp only [nc] at *); omega))) ?_ ?_); (· (cbv; (try simp only [nc] at *); first | done | (simp; done) | (simp (disch := (first | omega | (simp only [lnS, List.length_append, List.length_map, List.length_range, List.length_replicate]; omega))) only [nc, nct, w64_of, Int.toNat_natCast, Int.toNat_zero, List.length_map, rdS, at_agg, bofZ, bof1, bof0, List.getD_cons_zero, List.getD_cons_succ, implies_true, and_true, true_and, forall_const]; first | done | omega | (refine ⟨?_, ?_⟩ <;> omega)) | (simp (disch := (first | omega | (simp only [lnS, List.length_append, List.length_map, List.length_range, List.length_replicate]; omega))) [nc, nct, w64_of, Int.toNat_natCast, Int.toNat_zero, List.length_map, rdS, at_agg, bofZ, bof1, bof0, List.getD_cons_zero, List.getD_cons_succ]; done))); cbv)
      | (refine E.c (SCalls.of_le (q2 (by ((try simp only [nc] at *); omega))) ?_ ?_); (· (cbv; (try simp only [nc] at *); first | done | (simp; done) | (simp (disch := (first | omega | (simp only [lnS, List.length_append, List.length_map, List.length_range, List.length_replicate]; omega))) only [nc, nct, w64_of, Int.toNat_natCast, Int.toNat_zero, List.length_map, rdS, at_agg, bofZ, bof1, bof0, List.getD_cons_zero, List.getD_cons_succ, implies_true, and_true, true_and, forall_const]; first | done | omega | (refine ⟨?_, ?_⟩ <;> omega)) | (simp (disch := (first | omega | (simp only [lnS, List.length_append, List.length_map, List.length_range, List.length_replicate]; omega))) [nc, nct, w64_of, Int.toNat_natCast, Int.toNat_zero, List.length_map, rdS, at_agg, bofZ, bof1, bof0, List.getD_cons_zero, List.getD_cons_succ]; done))); cbv)
      | (refine E.c (SCalls.of_le (q1 (by ((try simp only [nc] at *); omega))) ?_ ?_); (· (cbv; (try simp only [nc] at *); first | done | (simp; done) | (simp (disch := (first | omega | (simp only [lnS, List.length_append, List.length_map, List.length_range, List.length_replicate]; omega))) only [nc, nct, w64_of, Int.toNat_natCast, Int.toNat_zero, List.length_map, rdS, at_agg, bofZ, bof1, bof0, List.getD_cons_zero, List.getD_cons_succ, implies_true, and_true, true_and, forall_const]; first | done | omega | (refine ⟨?_, ?_⟩ <;> omega)) | (simp (disch := (first | omega | (simp only [lnS, List.length_append, List.length_map, List.length_range, List.length_replicate]; omega))) [nc, nct, w64_of, Int.toNat_natCast, Int.toNat_zero, List.length_map, rdS, at_agg, bofZ, bof1, bof0, List.getD_cons_zero, List.getD_cons_succ]; done))); cbv)
      | (refine ⟨fun _ h_s => ?_, fun _ h_s => ?_⟩ <;> (cbv; (try simp only [nc] at *); try simp (disch := (first | omega | (simp only [lnS, List.length_append, List.length_map, List.length_range, List.length_replicate]; omega))) only [nc, nct, w64_of, Int.toNat_natCast, Int.toNat_zero, List.length_map, rdS, at_agg, bofZ, bof1, bof0, List.getD_cons_zero, List.getD_cons_succ, reduceCtorEq, Bool.not_true, Bool.not_false, decide_eq_true_eq, decide_eq_false_iff_not, Bool.not_eq_true, Bool.not_eq_false, Bool.not_eq_true', Bool.not_eq_false', ne_eq, Decidable.not_not, Int.not_le, Int.not_lt, beq_iff_eq] at h_s))
      | (refine hF ?_; intro _; clear hF)
      | (refine hF ?_; cbv; clear hF)
      | (refine ⟨fun _ => ?_, ?_⟩; (· ((try simp only [nc] at *); first | done | omega | exact ⟨by omega, rfl⟩ | (simp (disch := (first | omega | (simp only [lnS, List.length_append, List.length_map, List.length_range, List.length_replicate]; omega))) only [nc, nct, w64_of, Int.toNat_natCast, Int.toNat_zero, List.length_map, rdS, at_agg, bofZ, bof1, bof0, List.getD_cons_zero, List.getD_cons_succ]; first | done | omega | rfl | exact ⟨by omega, rfl⟩ | (simp; done) | (simp; omega)) | (intros; trivial))); (try (simp only [nc] at *)); (try simp (disch := (first | omega | (simp only [lnS, List.length_append, List.length_map, List.length_range, List.length_replicate]; omega))) only [nc, nct, w64_of, Int.toNat_natCast, Int.toNat_zero, List.length_map, rdS, at_agg, bofZ, bof1, bof0, List.getD_cons_zero, List.getD_cons_succ]); (try cbv))
      | fail
    )
    all_goals clear kl r1 r2 r3 r4 q1 q2 q3 q4 E
    all_goals first
      | (have e : k = nG g := by ((try simp only [nc] at *); omega)
         rw [e]; done)
      | (refine ⟨?_, by push_cast; rfl⟩
         have hp : P' k = true := by rw [hPk]; clear hPk hPe hP; simp_all [whatM, ofM, fenceM]
         rw [maskTo, if_pos hp]; done)
      | (refine ⟨?_, by push_cast; rfl⟩
         have hp : P' k = false := by rw [hPk]; clear hPk hPe hP; simp_all [whatM, ofM, fenceM]
         rw [maskTo, hp, if_neg (by simp)]; done)
  · unfold maskG
    rw [if_neg h]
    refine Pure.go (ty := ty) ty_eq mo Try.func46 rfl Try.ntmps46 Try.results46 Try.call46 (by simp) fun P C CQ D W F E hF => ?_
    cbv
    repeat' (first
      | (refine E.c (SCalls.of_le (look15_no g hg h) ?_ ?_); (· (cbv; (try simp only [nc] at *); first | done | (simp; done) | (simp (disch := (first | omega | (simp only [lnS, List.length_append, List.length_map, List.length_range, List.length_replicate]; omega))) only [nc, nct, w64_of, Int.toNat_natCast, Int.toNat_zero, List.length_map, rdS, at_agg, bofZ, bof1, bof0, List.getD_cons_zero, List.getD_cons_succ, implies_true, and_true, true_and, forall_const]; first | done | omega | (refine ⟨?_, ?_⟩ <;> omega)) | (simp (disch := (first | omega | (simp only [lnS, List.length_append, List.length_map, List.length_range, List.length_replicate]; omega))) [nc, nct, w64_of, Int.toNat_natCast, Int.toNat_zero, List.length_map, rdS, at_agg, bofZ, bof1, bof0, List.getD_cons_zero, List.getD_cons_succ]; done))); cbv)
      | (refine ⟨fun _ h_s => ?_, fun _ h_s => ?_⟩ <;> (cbv; (try simp only [nc] at *); try simp (disch := (first | omega | (simp only [lnS, List.length_append, List.length_map, List.length_range, List.length_replicate]; omega))) only [nc, nct, w64_of, Int.toNat_natCast, Int.toNat_zero, List.length_map, rdS, at_agg, bofZ, bof1, bof0, List.getD_cons_zero, List.getD_cons_succ, reduceCtorEq, Bool.not_true, Bool.not_false, decide_eq_true_eq, decide_eq_false_iff_not, Bool.not_eq_true, Bool.not_eq_false, Bool.not_eq_true', Bool.not_eq_false', ne_eq, Decidable.not_not, Int.not_le, Int.not_lt, beq_iff_eq] at h_s))
      | (refine hF ?_; intro _; clear hF)
      | (refine hF ?_; cbv; clear hF)
      | (refine ⟨fun _ => ?_, ?_⟩; (· ((try simp only [nc] at *); first | done | omega | exact ⟨by omega, rfl⟩ | (simp (disch := (first | omega | (simp only [lnS, List.length_append, List.length_map, List.length_range, List.length_replicate]; omega))) only [nc, nct, w64_of, Int.toNat_natCast, Int.toNat_zero, List.length_map, rdS, at_agg, bofZ, bof1, bof0, List.getD_cons_zero, List.getD_cons_succ]; first | done | omega | rfl | exact ⟨by omega, rfl⟩ | (simp; done) | (simp; omega)) | (intros; trivial))); (try (simp only [nc] at *)); (try simp (disch := (first | omega | (simp only [lnS, List.length_append, List.length_map, List.length_range, List.length_replicate]; omega))) only [nc, nct, w64_of, Int.toNat_natCast, Int.toNat_zero, List.length_map, rdS, at_agg, bofZ, bof1, bof0, List.getD_cons_zero, List.getD_cons_succ]); (try cbv))
      | fail
    )
    all_goals (try simp only [nc] at *)
    all_goals (try simp (disch := (first | omega | (simp only [lnS, List.length_append, List.length_map, List.length_range, List.length_replicate]; omega))) only [nc, nct, w64_of, Int.toNat_natCast, Int.toNat_zero, List.length_map, rdS, at_agg, bofZ, bof1, bof0, List.getD_cons_zero, List.getD_cons_succ])
theorem wReads_ok (g : Gr) (hg : Rd g) : Pure Try.prog γ false 10 [aGr g] (.u fun _ => maskG g readsF) := by
  have k := bits_ok (γ := γ) g hg 1 0
  rw [show maskG g (whatF 1 0) = maskG g readsF from rfl] at k
  refine Pure.go (ty := ty) ty_eq mo Try.func10 rfl Try.ntmps10 Try.results10 Try.call10 (by simp) fun P C CQ D W F E hF => ?_
  cbv
  repeat' (first
    | (refine E.c (SCalls.of_le (k) ?_ ?_); (· (cbv; (try simp only [nc] at *); first | done | (simp; done) | (simp (disch := (first | omega | (simp only [lnS, List.length_append, List.length_map, List.length_range, List.length_replicate]; omega))) only [nc, nct, w64_of, Int.toNat_natCast, Int.toNat_zero, List.length_map, rdS, at_agg, bofZ, bof1, bof0, List.getD_cons_zero, List.getD_cons_succ, implies_true, and_true, true_and, forall_const]; first | done | omega | (refine ⟨?_, ?_⟩ <;> omega)) | (simp (disch := (first | omega | (simp only [lnS, List.length_append, List.length_map, List.length_range, List.length_replicate]; omega))) [nc, nct, w64_of, Int.toNat_natCast, Int.toNat_zero, List.length_map, rdS, at_agg, bofZ, bof1, bof0, List.getD_cons_zero, List.getD_cons_succ]; done))); cbv)
    | (refine ⟨fun _ h_s => ?_, fun _ h_s => ?_⟩ <;> (cbv; (try simp only [nc] at *); try simp (disch := (first | omega | (simp only [lnS, List.length_append, List.length_map, List.length_range, List.length_replicate]; omega))) only [nc, nct, w64_of, Int.toNat_natCast, Int.toNat_zero, List.length_map, rdS, at_agg, bofZ, bof1, bof0, List.getD_cons_zero, List.getD_cons_succ, reduceCtorEq, Bool.not_true, Bool.not_false, decide_eq_true_eq, decide_eq_false_iff_not, Bool.not_eq_true, Bool.not_eq_false, Bool.not_eq_true', Bool.not_eq_false', ne_eq, Decidable.not_not, Int.not_le, Int.not_lt, beq_iff_eq] at h_s))
    | (refine hF ?_; intro _; clear hF)
    | (refine hF ?_; cbv; clear hF)
    | (refine ⟨fun _ => ?_, ?_⟩; (· ((try simp only [nc] at *); first | done | omega | exact ⟨by omega, rfl⟩ | (simp (disch := (first | omega | (simp only [lnS, List.length_append, List.length_map, List.length_range, List.length_replicate]; omega))) only [nc, nct, w64_of, Int.toNat_natCast, Int.toNat_zero, List.length_map, rdS, at_agg, bofZ, bof1, bof0, List.getD_cons_zero, List.getD_cons_succ]; first | done | omega | rfl | exact ⟨by omega, rfl⟩ | (simp; done) | (simp; omega)) | (intros; trivial))); try cbv)
    | fail
  )
  all_goals rfl
theorem wWrites_ok (g : Gr) (hg : Rd g) : Pure Try.prog γ false 12 [aGr g] (.u fun _ => maskG g writesF) := by
  have k := bits_ok (γ := γ) g hg 2 0
  rw [show maskG g (whatF 2 0) = maskG g writesF from rfl] at k
  refine Pure.go (ty := ty) ty_eq mo Try.func12 rfl Try.ntmps12 Try.results12 Try.call12 (by simp) fun P C CQ D W F E hF => ?_
  cbv
  repeat' (first
    | (refine E.c (SCalls.of_le (k) ?_ ?_); (· (cbv; (try simp only [nc] at *); first | done | (simp; done) | (simp (disch := (first | omega | (simp only [lnS, List.length_append, List.length_map, List.length_range, List.length_replicate]; omega))) only [nc, nct, w64_of, Int.toNat_natCast, Int.toNat_zero, List.length_map, rdS, at_agg, bofZ, bof1, bof0, List.getD_cons_zero, List.getD_cons_succ, implies_true, and_true, true_and, forall_const]; first | done | omega | (refine ⟨?_, ?_⟩ <;> omega)) | (simp (disch := (first | omega | (simp only [lnS, List.length_append, List.length_map, List.length_range, List.length_replicate]; omega))) [nc, nct, w64_of, Int.toNat_natCast, Int.toNat_zero, List.length_map, rdS, at_agg, bofZ, bof1, bof0, List.getD_cons_zero, List.getD_cons_succ]; done))); cbv)
    | (refine ⟨fun _ h_s => ?_, fun _ h_s => ?_⟩ <;> (cbv; (try simp only [nc] at *); try simp (disch := (first | omega | (simp only [lnS, List.length_append, List.length_map, List.length_range, List.length_replicate]; omega))) only [nc, nct, w64_of, Int.toNat_natCast, Int.toNat_zero, List.length_map, rdS, at_agg, bofZ, bof1, bof0, List.getD_cons_zero, List.getD_cons_succ, reduceCtorEq, Bool.not_true, Bool.not_false, decide_eq_true_eq, decide_eq_false_iff_not, Bool.not_eq_true, Bool.not_eq_false, Bool.not_eq_true', Bool.not_eq_false', ne_eq, Decidable.not_not, Int.not_le, Int.not_lt, beq_iff_eq] at h_s))
    | (refine hF ?_; intro _; clear hF)
    | (refine hF ?_; cbv; clear hF)
    | (refine ⟨fun _ => ?_, ?_⟩; (· ((try simp only [nc] at *); first | done | omega | exact ⟨by omega, rfl⟩ | (simp (disch := (first | omega | (simp only [lnS, List.length_append, List.length_map, List.length_range, List.length_replicate]; omega))) only [nc, nct, w64_of, Int.toNat_natCast, Int.toNat_zero, List.length_map, rdS, at_agg, bofZ, bof1, bof0, List.getD_cons_zero, List.getD_cons_succ]; first | done | omega | rfl | exact ⟨by omega, rfl⟩ | (simp; done) | (simp; omega)) | (intros; trivial))); try cbv)
    | fail
  )
  all_goals rfl
theorem wOf_ok (g : Gr) (hg : Rd g) (loc : Int) : Pure Try.prog γ false 14 [aGr g, .i fun _ => loc] (.u fun _ => maskG g (ofF loc)) := by
  have k := bits_ok (γ := γ) g hg 3 loc
  rw [show maskG g (whatF 3 loc) = maskG g (ofF loc) from rfl] at k
  refine Pure.go (ty := ty) ty_eq mo Try.func14 rfl Try.ntmps14 Try.results14 Try.call14 (by simp) fun P C CQ D W F E hF => ?_
  cbv
  repeat' (first
    | (refine E.c (SCalls.of_le (k) ?_ ?_); (· (cbv; (try simp only [nc] at *); first | done | (simp; done) | (simp (disch := (first | omega | (simp only [lnS, List.length_append, List.length_map, List.length_range, List.length_replicate]; omega))) only [nc, nct, w64_of, Int.toNat_natCast, Int.toNat_zero, List.length_map, rdS, at_agg, bofZ, bof1, bof0, List.getD_cons_zero, List.getD_cons_succ, implies_true, and_true, true_and, forall_const]; first | done | omega | (refine ⟨?_, ?_⟩ <;> omega)) | (simp (disch := (first | omega | (simp only [lnS, List.length_append, List.length_map, List.length_range, List.length_replicate]; omega))) [nc, nct, w64_of, Int.toNat_natCast, Int.toNat_zero, List.length_map, rdS, at_agg, bofZ, bof1, bof0, List.getD_cons_zero, List.getD_cons_succ]; done))); cbv)
    | (refine ⟨fun _ h_s => ?_, fun _ h_s => ?_⟩ <;> (cbv; (try simp only [nc] at *); try simp (disch := (first | omega | (simp only [lnS, List.length_append, List.length_map, List.length_range, List.length_replicate]; omega))) only [nc, nct, w64_of, Int.toNat_natCast, Int.toNat_zero, List.length_map, rdS, at_agg, bofZ, bof1, bof0, List.getD_cons_zero, List.getD_cons_succ, reduceCtorEq, Bool.not_true, Bool.not_false, decide_eq_true_eq, decide_eq_false_iff_not, Bool.not_eq_true, Bool.not_eq_false, Bool.not_eq_true', Bool.not_eq_false', ne_eq, Decidable.not_not, Int.not_le, Int.not_lt, beq_iff_eq] at h_s))
    | (refine hF ?_; intro _; clear hF)
    | (refine hF ?_; cbv; clear hF)
    | (refine ⟨fun _ => ?_, ?_⟩; (· ((try simp only [nc] at *); first | done | omega | exact ⟨by omega, rfl⟩ | (simp (disch := (first | omega | (simp only [lnS, List.length_append, List.length_map, List.length_range, List.length_replicate]; omega))) only [nc, nct, w64_of, Int.toNat_natCast, Int.toNat_zero, List.length_map, rdS, at_agg, bofZ, bof1, bof0, List.getD_cons_zero, List.getD_cons_succ]; first | done | omega | rfl | exact ⟨by omega, rfl⟩ | (simp; done) | (simp; omega)) | (intros; trivial))); try cbv)
    | fail
  )
  all_goals rfl
theorem wLeast_ok (g : Gr) (hg : Rd g) (o : Int) : Pure Try.prog γ false 16 [aGr g, .i fun _ => o] (.u fun _ => maskG g (leastF o)) := by
  have k4 := bits_ok (γ := γ) g hg 4 0
  have k5 := bits_ok (γ := γ) g hg 5 0
  have k6 := bits_ok (γ := γ) g hg 6 0
  have k7 := bits_ok (γ := γ) g hg 7 0
  have key : ∀ w, (∀ e, whatM w 0 e = leastM o e) → maskG g (whatF w 0) = maskG g (leastF o) := fun w he => by
    have : whatF w 0 = leastF o := funext fun V => funext fun n => by unfold whatF leastF; simp only [he]
    rw [this]
  have key0 : (∀ e, leastM o e = false) → 0#64 = maskG g (leastF o) := fun he => by
    unfold maskG leastF
    simp only [he, mask0, ite_self]
  refine Pure.go (ty := ty) ty_eq mo Try.func16 rfl Try.ntmps16 Try.results16 Try.call16 (by simp) fun P C CQ D W F E hF => ?_
  cbv
  repeat' (first
    | (refine E.c (SCalls.of_le (k7) ?_ ?_); (· (cbv; (try simp only [nc] at *); first | done | (simp; done) | (simp (disch := (first | omega | (simp only [lnS, List.length_append, List.length_map, List.length_range, List.length_replicate]; omega))) only [nc, nct, w64_of, Int.toNat_natCast, Int.toNat_zero, List.length_map, rdS, at_agg, bofZ, bof1, bof0, List.getD_cons_zero, List.getD_cons_succ, implies_true, and_true, true_and, forall_const]; first | done | omega | (refine ⟨?_, ?_⟩ <;> omega)) | (simp (disch := (first | omega | (simp only [lnS, List.length_append, List.length_map, List.length_range, List.length_replicate]; omega))) [nc, nct, w64_of, Int.toNat_natCast, Int.toNat_zero, List.length_map, rdS, at_agg, bofZ, bof1, bof0, List.getD_cons_zero, List.getD_cons_succ]; done))); cbv)
    | (refine E.c (SCalls.of_le (k6) ?_ ?_); (· (cbv; (try simp only [nc] at *); first | done | (simp; done) | (simp (disch := (first | omega | (simp only [lnS, List.length_append, List.length_map, List.length_range, List.length_replicate]; omega))) only [nc, nct, w64_of, Int.toNat_natCast, Int.toNat_zero, List.length_map, rdS, at_agg, bofZ, bof1, bof0, List.getD_cons_zero, List.getD_cons_succ, implies_true, and_true, true_and, forall_const]; first | done | omega | (refine ⟨?_, ?_⟩ <;> omega)) | (simp (disch := (first | omega | (simp only [lnS, List.length_append, List.length_map, List.length_range, List.length_replicate]; omega))) [nc, nct, w64_of, Int.toNat_natCast, Int.toNat_zero, List.length_map, rdS, at_agg, bofZ, bof1, bof0, List.getD_cons_zero, List.getD_cons_succ]; done))); cbv)
    | (refine E.c (SCalls.of_le (k5) ?_ ?_); (· (cbv; (try simp only [nc] at *); first | done | (simp; done) | (simp (disch := (first | omega | (simp only [lnS, List.length_append, List.length_map, List.length_range, List.length_replicate]; omega))) only [nc, nct, w64_of, Int.toNat_natCast, Int.toNat_zero, List.length_map, rdS, at_agg, bofZ, bof1, bof0, List.getD_cons_zero, List.getD_cons_succ, implies_true, and_true, true_and, forall_const]; first | done | omega | (refine ⟨?_, ?_⟩ <;> omega)) | (simp (disch := (first | omega | (simp only [lnS, List.length_append, List.length_map, List.length_range, List.length_replicate]; omega))) [nc, nct, w64_of, Int.toNat_natCast, Int.toNat_zero, List.length_map, rdS, at_agg, bofZ, bof1, bof0, List.getD_cons_zero, List.getD_cons_succ]; done))); cbv)
    | (refine E.c (SCalls.of_le (k4) ?_ ?_); (· (cbv; (try simp only [nc] at *); first | done | (simp; done) | (simp (disch := (first | omega | (simp only [lnS, List.length_append, List.length_map, List.length_range, List.length_replicate]; omega))) only [nc, nct, w64_of, Int.toNat_natCast, Int.toNat_zero, List.length_map, rdS, at_agg, bofZ, bof1, bof0, List.getD_cons_zero, List.getD_cons_succ, implies_true, and_true, true_and, forall_const]; first | done | omega | (refine ⟨?_, ?_⟩ <;> omega)) | (simp (disch := (first | omega | (simp only [lnS, List.length_append, List.length_map, List.length_range, List.length_replicate]; omega))) [nc, nct, w64_of, Int.toNat_natCast, Int.toNat_zero, List.length_map, rdS, at_agg, bofZ, bof1, bof0, List.getD_cons_zero, List.getD_cons_succ]; done))); cbv)
    | (refine ⟨fun _ h_s => ?_, fun _ h_s => ?_⟩ <;> (cbv; (try simp only [nc] at *); try simp (disch := (first | omega | (simp only [lnS, List.length_append, List.length_map, List.length_range, List.length_replicate]; omega))) only [nc, nct, w64_of, Int.toNat_natCast, Int.toNat_zero, List.length_map, rdS, at_agg, bofZ, bof1, bof0, List.getD_cons_zero, List.getD_cons_succ, reduceCtorEq, Bool.not_true, Bool.not_false, decide_eq_true_eq, decide_eq_false_iff_not, Bool.not_eq_true, Bool.not_eq_false, Bool.not_eq_true', Bool.not_eq_false', ne_eq, Decidable.not_not, Int.not_le, Int.not_lt, beq_iff_eq] at h_s))
    | (refine hF ?_; intro _; clear hF)
    | (refine hF ?_; cbv; clear hF)
    | (refine ⟨fun _ => ?_, ?_⟩; (· ((try simp only [nc] at *); first | done | omega | exact ⟨by omega, rfl⟩ | (simp (disch := (first | omega | (simp only [lnS, List.length_append, List.length_map, List.length_range, List.length_replicate]; omega))) only [nc, nct, w64_of, Int.toNat_natCast, Int.toNat_zero, List.length_map, rdS, at_agg, bofZ, bof1, bof0, List.getD_cons_zero, List.getD_cons_succ]; first | done | omega | rfl | exact ⟨by omega, rfl⟩ | (simp; done) | (simp; omega)) | (intros; trivial))); (try (simp only [nc] at *)); (try simp (disch := (first | omega | (simp only [lnS, List.length_append, List.length_map, List.length_range, List.length_replicate]; omega))) only [nc, nct, w64_of, Int.toNat_natCast, Int.toNat_zero, List.length_map, rdS, at_agg, bofZ, bof1, bof0, List.getD_cons_zero, List.getD_cons_succ]); (try cbv))
    | fail
  )
  all_goals clear k4 k5 k6 k7 E
  all_goals first
    | (refine key _ fun e => ?_; simp_all [whatM, leastM]; done)
    | (refine key0 fun e => ?_; simp_all [leastM]; done)
end Go.AL.Rl

namespace Go.AL.Rl
open Go Go.AL Go.Proofs
set_option maxRecDepth 100000
set_option maxHeartbeats 1600000
variable {γ : Nat → Option AV}

def closedTo (V : Vw) (s : BitVec 64) (i : Nat) : Prop := ∀ j < i, (V.ev.getD j ev0).kind = 3 → s.getLsbD (V.fr.getD j 0).toNat = true → s.getLsbD j = true
theorem mod2_bit0 (x : BitVec 64) (i : Nat) : (x >>> i) % BitVec.ofInt 64 2 = 0#64 ↔ x.getLsbD i = false := by
  rw [← BitVec.toNat_inj, BitVec.toNat_umod, BitVec.toNat_ushiftRight, BitVec.getLsbD, Nat.testBit_eq_decide_div_mod_eq, decide_eq_false_iff_not, Nat.shiftRight_eq_div_pow]
  show x.toNat / 2 ^ i % 2 = 0 ↔ ¬ x.toNat / 2 ^ i % 2 = 1
  omega
theorem wsequence_ok (g : Gr) (h : GOk g) (w : Nat) (hw : w < nG g) : Pure Try.prog γ false 56 [pW g, .i fun _ => (w : Int)] (.u fun _ => seqM (viewG g) (nG g) w) := by
  have hn := (viewG_wf h).small
  have h64 : nG g ≤ 64 := by omega
  have hbw := bofInt (k := w) (by omega)
  have ew : w % 18446744073709551616 = w := Nat.mod_eq_of_lt (by omega)
  have hEl := evsG_l g
  have hVl : (viewG g).ev = evsG g := rfl
  have hfrom := fun i hi => wfrom_ok (γ := γ) g h i hi
  have hfr0 := fun i hi => fr_iff h i hi
  have hfrl := (viewG_wf h).frl
  refine Pure.go (ty := ty) ty_eq mo Try.func56 rfl Try.ntmps56 Try.results56 Try.call56 (by simp) fun P C CQ D W F E hF => ?_
  cbv
  repeat' (first
    | (refine ⟨fun _ h_s => ?_, fun _ h_s => ?_⟩ <;> (cbv; (try simp only [nc] at *); try simp (disch := (first | omega | (simp only [lnS, List.length_append, List.length_map, List.length_range, List.length_replicate]; omega))) only [nc, nct, w64_of, Int.toNat_natCast, Int.toNat_zero, List.length_map, rdS, at_agg, bofZ, bof1, bof0, List.getD_cons_zero, List.getD_cons_succ, reduceCtorEq, Bool.not_true, Bool.not_false, decide_eq_true_eq, decide_eq_false_iff_not, Bool.not_eq_true, Bool.not_eq_false, Bool.not_eq_true', Bool.not_eq_false', ne_eq, Decidable.not_not, Int.not_le, Int.not_lt, beq_iff_eq] at h_s))
    | (refine hF ?_; intro _; clear hF)
    | (refine hF ?_; cbv; clear hF)
    | (refine ⟨fun _ => ?_, ?_⟩; (· ((try simp only [nc] at *); first | done | omega | exact ⟨by omega, rfl⟩ | (simp (disch := (first | omega | (simp only [lnS, List.length_append, List.length_map, List.length_range, List.length_replicate]; omega))) only [nc, nct, w64_of, Int.toNat_natCast, Int.toNat_zero, List.length_map, rdS, at_agg, bofZ, bof1, bof0, List.getD_cons_zero, List.getD_cons_succ]; first | done | omega | rfl | exact ⟨by omega, rfl⟩ | (simp; done) | (simp; omega)) | (intros; trivial))); (try (simp only [nc] at *)); (try simp (disch := (first | omega | (simp only [lnS, List.length_append, List.length_map, List.length_range, List.length_replicate]; omega))) only [nc, nct, w64_of, Int.toNat_natCast, Int.toNat_zero, List.length_map, rdS, at_agg, bofZ, bof1, bof0, List.getD_cons_zero, List.getD_cons_succ]); (try cbv))
    | fail
  )
  refine E.loopS (ι := BitVec 64 × Bool) (fun q => q.1.getLsbD w = true ∧ (∀ j, q.1.getLsbD j = true → InSeq (viewG g) (nG g) w j) ∧ (q.2 = false → closedTo (viewG g) q.1 (nG g))) (fun q => 2 * (64 - cntB 64 q.1) + if q.2 = true then 1 else 0) (fun q => [(5, .u fun _ => q.1), (6, .b fun _ => q.2)]) (fun q h => h) (1#64 <<< w, true) (fun _ => rfl) ?_ ?_ fun q hq I hI => ?_
  · refine ⟨?_, fun j hj => ?_, fun hf => by cases hf⟩
    · simp only; rw [BitVec.getLsbD_shiftLeft, BitVec.getLsbD_one]; simp; omega
    · simp only at hj
      rw [BitVec.getLsbD_shiftLeft, BitVec.getLsbD_one] at hj
      simp at hj
      obtain rfl : j = w := by omega
      exact .base
  · cbv
    simp only [hbw, bof0, bof1]
    simp
  obtain ⟨s, ag⟩ := q
  obtain ⟨hq1, hq2, hq3⟩ := hq
  simp only at hq1 hq2 hq3
  cbv
  repeat' (first
    | (refine ⟨fun _ h_s => ?_, fun _ h_s => ?_⟩ <;> (cbv; (try simp only [nc] at *); try simp (disch := (first | omega | (simp only [lnS, List.length_append, List.length_map, List.length_range, List.length_replicate]; omega))) only [nc, nct, w64_of, Int.toNat_natCast, Int.toNat_zero, List.length_map, rdS, at_agg, bofZ, bof1, bof0, List.getD_cons_zero, List.getD_cons_succ, reduceCtorEq, Bool.not_true, Bool.not_false, decide_eq_true_eq, decide_eq_false_iff_not, Bool.not_eq_true, Bool.not_eq_false, Bool.not_eq_true', Bool.not_eq_false', ne_eq, Decidable.not_not, Int.not_le, Int.not_lt, beq_iff_eq] at h_s))
    | (refine hF ?_; intro _; clear hF)
    | (refine hF ?_; cbv; clear hF)
    | (refine ⟨fun _ => ?_, ?_⟩; (· ((try simp only [nc] at *); first | done | omega | exact ⟨by omega, rfl⟩ | (simp (disch := (first | omega | (simp only [lnS, List.length_append, List.length_map, List.length_range, List.length_replicate]; omega))) only [nc, nct, w64_of, Int.toNat_natCast, Int.toNat_zero, List.length_map, rdS, at_agg, bofZ, bof1, bof0, List.getD_cons_zero, List.getD_cons_succ]; first | done | omega | rfl | exact ⟨by omega, rfl⟩ | (simp; done) | (simp; omega)) | (intros; trivial))); (try (simp only [nc] at *)); (try simp (disch := (first | omega | (simp only [lnS, List.length_append, List.length_map, List.length_range, List.length_replicate]; omega))) only [nc, nct, w64_of, Int.toNat_natCast, Int.toNat_zero, List.length_map, rdS, at_agg, bofZ, bof1, bof0, List.getD_cons_zero, List.getD_cons_succ]); (try cbv))
    | fail
  )
  · have hag : ag = true := by simpa using h_s
    subst hag
    refine E.loopS (ι := Nat × BitVec 64 × Bool) (fun p => p.1 ≤ nG g ∧ p.2.1.getLsbD w = true ∧ (∀ j, s.getLsbD j = true → p.2.1.getLsbD j = true) ∧ (∀ j, p.2.1.getLsbD j = true → InSeq (viewG g) (nG g) w j) ∧ (p.2.2 = false → p.2.1 = s ∧ closedTo (viewG g) s p.1) ∧ (p.2.2 = true → p.2.1 ≠ s)) (fun p => nG g - p.1) (fun p => [(5, .u fun _ => p.2.1), (6, .b fun _ => p.2.2), (7, .i fun _ => ((p.1 : Nat) : Int))]) (fun p h => h) (0, s, false) (fun _ => rfl) ?_ ?_ fun p hp I2 hI2 => ?_
    · exact ⟨Nat.zero_le _, hq1, fun _ h => h, hq2, fun _ => ⟨rfl, fun j hj => absurd hj (Nat.not_lt_zero j)⟩, fun hf => by cases hf⟩
    · cbv; simp
    obtain ⟨i, t, b⟩ := p
    obtain ⟨hp0, hp1, hp2, hp3, hp4, hp5⟩ := hp
    simp only at hp0 hp1 hp2 hp3 hp4 hp5
    cbv
    have kf := hfrom i
    have hbi := bofInt (k := i) (by omega)
    have eim : i % 18446744073709551616 = i := Nat.mod_eq_of_lt (by omega)
    have hstep : i < nG g → ((viewG g).ev.getD i ev0).kind = 3 → t.getLsbD ((viewG g).fr.getD i 0).toNat = true → InSeq (viewG g) (nG g) w i := fun h1 h2 h3 => .step h1 h2 (hp3 _ h3)
    have hnext : i < nG g → (((viewG g).ev.getD i ev0).kind = 3 → t.getLsbD i = false → t.getLsbD ((viewG g).fr.getD i 0).toNat = false) → (i + 1 ≤ nG g ∧ t.getLsbD w = true ∧ (∀ j, s.getLsbD j = true → t.getLsbD j = true) ∧ (∀ j, t.getLsbD j = true → InSeq (viewG g) (nG g) w j) ∧ (b = false → t = s ∧ closedTo (viewG g) s (i + 1)) ∧ (b = true → t ≠ s)) := fun h1 h2 => by
      refine ⟨h1, hp1, hp2, hp3, fun hb => ⟨(hp4 hb).1, fun j hj hk hs => ?_⟩, hp5⟩
      rcases Nat.lt_or_ge j i with hji | hji
      · exact (hp4 hb).2 j hji hk hs
      · have : j = i := by omega
        subst this
        cases hc : s.getLsbD j with
        | true => rfl
        | false =>
          have e := (hp4 hb).1
          have := h2 hk (by rw [e]; exact hc)
          rw [e, hs] at this; cases this
    repeat' (first
      | (refine E.c (SCalls.of_le (kf (by ((try simp only [nc] at *); omega))) ?_ ?_); (· (cbv; (try simp only [nc] at *); first | done | (simp; done) | (simp (disch := (first | omega | (simp only [lnS, List.length_append, List.length_map, List.length_range, List.length_replicate]; omega))) only [nc, nct, w64_of, Int.toNat_natCast, Int.toNat_zero, List.length_map, rdS, at_agg, bofZ, bof1, bof0, List.getD_cons_zero, List.getD_cons_succ, implies_true, and_true, true_and, forall_const]; first | done | omega | (refine ⟨?_, ?_⟩ <;> omega)) | (simp (disch := (first | omega | (simp only [lnS, List.length_append, List.length_map, List.length_range, List.length_replicate]; omega))) [nc, nct, w64_of, Int.toNat_natCast, Int.toNat_zero, List.length_map, rdS, at_agg, bofZ, bof1, bof0, List.getD_cons_zero, List.getD_cons_succ]; done))); cbv)
      | (refine ⟨fun _ h_s => ?_, fun _ h_s => ?_⟩ <;> (cbv; (try simp only [nc] at *); try simp (disch := (first | omega | (simp only [lnS, List.length_append, List.length_map, List.length_range, List.length_replicate]; omega))) only [nc, nct, w64_of, Int.toNat_natCast, Int.toNat_zero, List.length_map, rdS, at_agg, bofZ, bof1, bof0, List.getD_cons_zero, List.getD_cons_succ, reduceCtorEq, Bool.not_true, Bool.not_false, decide_eq_true_eq, decide_eq_false_iff_not, Bool.not_eq_true, Bool.not_eq_false, Bool.not_eq_true', Bool.not_eq_false', ne_eq, Decidable.not_not, Int.not_le, Int.not_lt, beq_iff_eq] at h_s))
      | (refine hF ?_; intro _; clear hF)
      | (refine hF ?_; cbv; clear hF)
      | (refine ⟨fun _ => ?_, ?_⟩; (· ((try simp only [nc] at *); first | done | omega | exact ⟨by omega, rfl⟩ | (simp (disch := (first | omega | (simp only [lnS, List.length_append, List.length_map, List.length_range, List.length_replicate]; omega))) only [nc, nct, w64_of, Int.toNat_natCast, Int.toNat_zero, List.length_map, rdS, at_agg, bofZ, bof1, bof0, List.getD_cons_zero, List.getD_cons_succ]; first | done | omega | rfl | exact ⟨by omega, rfl⟩ | (simp; done) | (simp; omega)) | (intros; trivial))); (try (simp only [nc] at *)); (try simp (disch := (first | omega | (simp only [lnS, List.length_append, List.length_map, List.length_range, List.length_replicate]; omega))) only [nc, nct, w64_of, Int.toNat_natCast, Int.toNat_zero, List.length_map, rdS, at_agg, bofZ, bof1, bof0, List.getD_cons_zero, List.getD_cons_succ]); (try cbv))
      | fail
    )
    · have hk3 : ((viewG g).ev.getD i ev0).kind = 3 := by assumption
      have hin : i < nG g := by ((try simp only [nc] at *); omega)
      have hf0 : 0 ≤ (viewG g).fr.getD i 0 := (hfr0 i hin).2 (by unfold readsM; rw [hk3]; rfl)
      have hb0 : t.getLsbD i = false := (mod2_bit0 t i).1 (by assumption)
      rw [bofZ hf0 (by have := hfrl i hin; omega), mod2_bit] at h_s
      have hbit : ∀ j, (t ||| 1#64 <<< i).getLsbD j = (t.getLsbD j || (1#64 <<< i).getLsbD j) := fun j => BitVec.getLsbD_or
      have hii : (1#64 <<< i).getLsbD i = true := by rw [one_shl_bit i i (by omega)]; simp
      refine hI2 (i + 1, t ||| 1#64 <<< i, true) ⟨hin, ?_, fun j hj => ?_, fun j hj => ?_, fun hf => (by cases hf), fun _ he => ?_⟩ (by simp only; omega) ?_
      · simp only; rw [hbit, hp1]; rfl
      · simp only; rw [hbit, hp2 j hj]; rfl
      · simp only at hj
        rw [hbit, Bool.or_eq_true] at hj
        rcases hj with hj | hj
        · exact hp3 j hj
        · have hj64 : j < 64 := by
            rcases Nat.lt_or_ge j 64 with h' | h'
            · exact h'
            · rw [BitVec.getLsbD_of_ge _ _ h'] at hj; cases hj
          rw [one_shl_bit i j hj64] at hj
          have : i = j := by simpa using hj
          subst this
          exact hstep hin hk3 h_s
      · simp only at he
        have h1 : s.getLsbD i = true := by rw [← he, hbit, hii]; simp
        rw [hp2 i h1] at hb0; cases hb0
      · cbv
        clear hI hI2 kf hfrom
        have e := w64_of (n := (i : Int) + 1) (by omega) (by omega)
        (try simp only [nc] at *)
        simp [e, ew, eim]
    · have hin : i < nG g := by ((try simp only [nc] at *); omega)
      refine hI2 (i + 1, t, b) (hnext hin fun hk3 hb0 => ?_) (by simp only; omega) ?_
      · have hf0 : 0 ≤ (viewG g).fr.getD i 0 := (hfr0 i hin).2 (by unfold readsM; rw [hk3]; rfl)
        rw [bofZ hf0 (by have := hfrl i hin; omega), mod2_bit] at h_s
        simpa using h_s
      · cbv
        clear hI hI2 kf hfrom
        have e := w64_of (n := (i : Int) + 1) (by omega) (by omega)
        (try simp only [nc] at *)
        simp [e, ew, eim]
    · have hin : i < nG g := by ((try simp only [nc] at *); omega)
      refine hI2 (i + 1, t, b) (hnext hin fun hk3 hb0 => ?_) (by simp only; omega) ?_
      · exfalso
        exact h_s ((mod2_bit0 t i).2 hb0)
      · cbv
        clear hI hI2 kf hfrom
        have e := w64_of (n := (i : Int) + 1) (by omega) (by omega)
        (try simp only [nc] at *)
        simp [e, ew, eim]
    · have hin : i < nG g := by ((try simp only [nc] at *); omega)
      refine hI2 (i + 1, t, b) (hnext hin fun hk3 hb0 => absurd hk3 h_s) (by simp only; omega) ?_
      cbv
      clear hI hI2 kf hfrom
      have e := w64_of (n := (i : Int) + 1) (by omega) (by omega)
      (try simp only [nc] at *)
      simp [e, ew, eim]
    · have ei : i = nG g := by ((try simp only [nc] at *); omega)
      refine hI (t, b) ⟨hp1, hp3, fun hb => ?_⟩ ?_ ?_
      · rw [(hp4 hb).1, ← ei]; exact (hp4 hb).2
      · simp only
        have c1 := cntB_le s 64
        have c2 := cntB_le t 64
        cases b with
        | false => rw [(hp4 rfl).1]; simp
        | true => have := cntB_ne hp2 (Ne.symm (hp5 rfl)); simp; omega
      · cbv
        clear hI hI2 kf hfrom
        simp [ew]
  · have hag : ag = false := by simpa using h_s
    exact seq_unique h64 hw hq1 hq2 (hq3 hag)
end Go.AL.Rl

namespace Go.AL.Rl
open Go Go.AL Go.Proofs
set_option maxRecDepth 100000
set_option maxHeartbeats 1600000
variable {γ : Nat → Option AV}

theorem wSequence_ok (g : Gr) (hg : Rd g) (w : Int) : Pure Try.prog γ false 18 [aGr g, .i fun _ => w] (.u fun _ => maskG g (sequF w)) := by
  by_cases h : GOk g
  · unfold maskG
    rw [if_pos h]
    have kl := look15_yes (γ := γ) g hg h
    have r1 : 0 ≤ w → w < nG g → Pure Try.prog γ false 55 [pW g, .i fun _ => w] (.b fun _ => writesM ((viewG g).ev.getD w.toNat ev0)) := fun h1 h2 => by
      have := wwrites_ok (γ := γ) g w.toNat (by omega)
      rwa [Int.toNat_of_nonneg h1] at this
    have r2 : 0 ≤ w → w < nG g → Pure Try.prog γ false 56 [pW g, .i fun _ => w] (.u fun _ => seqM (viewG g) (nG g) w.toNat) := fun h1 h2 => by
      have := wsequence_ok (γ := γ) g h w.toNat (by omega)
      rwa [Int.toNat_of_nonneg h1] at this
    refine Pure.go (ty := ty) ty_eq mo Try.func18 rfl Try.ntmps18 Try.results18 Try.call18 (by simp) fun P C CQ D W F E hF => ?_
    cbv
    repeat' (first
      | (refine E.c (SCalls.of_le (r2 (by ((try simp only [nc] at *); omega)) (by ((try simp only [nc] at *); omega))) ?_ ?_); (· (cbv; (try simp only [nc] at *); first | done | (simp; done) | (simp (disch := (first | omega | (simp only [lnS, List.length_append, List.length_map, List.length_range, List.length_replicate]; omega))) only [nc, nct, w64_of, Int.toNat_natCast, Int.toNat_zero, List.length_map, rdS, at_agg, bofZ, bof1, bof0, List.getD_cons_zero, List.getD_cons_succ, implies_true, and_true, true_and, forall_const]; first | done | omega | (refine ⟨?_, ?_⟩ <;> omega)) | (simp (disch := (first | omega | (simp only [lnS, List.length_append, List.length_map, List.length_range, List.length_replicate]; omega))) [nc, nct, w64_of, Int.toNat_natCast, Int.toNat_zero, List.length_map, rdS, at_agg, bofZ, bof1, bof0, List.getD_cons_zero, List.getD_cons_succ]; done))); cbv)
      | (refine E.c (SCalls.of_le (r1 (by ((try simp only [nc] at *); omega)) (by ((try simp only [nc] at *); omega))) ?_ ?_); (· (cbv; (try simp only [nc] at *); first | done | (simp; done) | (simp (disch := (first | omega | (simp only [lnS, List.length_append, List.length_map, List.length_range, List.length_replicate]; omega))) only [nc, nct, w64_of, Int.toNat_natCast, Int.toNat_zero, List.length_map, rdS, at_agg, bofZ, bof1, bof0, List.getD_cons_zero, List.getD_cons_succ, implies_true, and_true, true_and, forall_const]; first | done | omega | (refine ⟨?_, ?_⟩ <;> omega)) | (simp (disch := (first | omega | (simp only [lnS, List.length_append, List.length_map, List.length_range, List.length_replicate]; omega))) [nc, nct, w64_of, Int.toNat_natCast, Int.toNat_zero, List.length_map, rdS, at_agg, bofZ, bof1, bof0, List.getD_cons_zero, List.getD_cons_succ]; done))); cbv)
      | (refine E.c (SCalls.of_le (kl) ?_ ?_); (· (cbv; (try simp only [nc] at *); first | done | (simp; done) | (simp (disch := (first | omega | (simp only [lnS, List.length_append, List.length_map, List.length_range, List.length_replicate]; omega))) only [nc, nct, w64_of, Int.toNat_natCast, Int.toNat_zero, List.length_map, rdS, at_agg, bofZ, bof1, bof0, List.getD_cons_zero, List.getD_cons_succ, implies_true, and_true, true_and, forall_const]; first | done | omega | (refine ⟨?_, ?_⟩ <;> omega)) | (simp (disch := (first | omega | (simp only [lnS, List.length_append, List.length_map, List.length_range, List.length_replicate]; omega))) [nc, nct, w64_of, Int.toNat_natCast, Int.toNat_zero, List.length_map, rdS, at_agg, bofZ, bof1, bof0, List.getD_cons_zero, List.getD_cons_succ]; done))); cbv)
      | (refine ⟨fun _ h_s => ?_, fun _ h_s => ?_⟩ <;> (cbv; (try simp only [nc] at *); try simp (disch := (first | omega | (simp only [lnS, List.length_append, List.length_map, List.length_range, List.length_replicate]; omega))) only [nc, nct, w64_of, Int.toNat_natCast, Int.toNat_zero, List.length_map, rdS, at_agg, bofZ, bof1, bof0, List.getD_cons_zero, List.getD_cons_succ, reduceCtorEq, Bool.not_true, Bool.not_false, decide_eq_true_eq, decide_eq_false_iff_not, Bool.not_eq_true, Bool.not_eq_false, Bool.not_eq_true', Bool.not_eq_false', ne_eq, Decidable.not_not, Int.not_le, Int.not_lt, beq_iff_eq] at h_s))
      | (refine hF ?_; intro _; clear hF)
      | (refine hF ?_; cbv; clear hF)
      | (refine ⟨fun _ => ?_, ?_⟩; (· ((try simp only [nc] at *); first | done | omega | exact ⟨by omega, rfl⟩ | (simp (disch := (first | omega | (simp only [lnS, List.length_append, List.length_map, List.length_range, List.length_replicate]; omega))) only [nc, nct, w64_of, Int.toNat_natCast, Int.toNat_zero, List.length_map, rdS, at_agg, bofZ, bof1, bof0, List.getD_cons_zero, List.getD_cons_succ]; first | done | omega | rfl | exact ⟨by omega, rfl⟩ | (simp; done) | (simp; omega)) | (intros; trivial))); (try (simp only [nc] at *)); (try simp (disch := (first | omega | (simp only [lnS, List.length_append, List.length_map, List.length_range, List.length_replicate]; omega))) only [nc, nct, w64_of, Int.toNat_natCast, Int.toNat_zero, List.length_map, rdS, at_agg, bofZ, bof1, bof0, List.getD_cons_zero, List.getD_cons_succ]); (try cbv))
      | fail
    )
    all_goals (try simp only [nc] at *)
    all_goals (try simp (disch := (first | omega | (simp only [lnS, List.length_append, List.length_map, List.length_range, List.length_replicate]; omega))) only [nc, nct, w64_of, Int.toNat_natCast, Int.toNat_zero, List.length_map, rdS, at_agg, bofZ, bof1, bof0, List.getD_cons_zero, List.getD_cons_succ])
    all_goals first
      | (unfold sequF; rw [if_neg (by first | omega | (rintro ⟨_, _, _⟩; simp_all; done) | (rintro ⟨_, _, _⟩; omega))]; done)
      | (unfold sequF; rw [if_pos ⟨by omega, by omega, by assumption⟩]; done)
  · unfold maskG
    rw [if_neg h]
    refine Pure.go (ty := ty) ty_eq mo Try.func18 rfl Try.ntmps18 Try.results18 Try.call18 (by simp) fun P C CQ D W F E hF => ?_
    cbv
    repeat' (first
      | (refine E.c (SCalls.of_le (look15_no g hg h) ?_ ?_); (· (cbv; (try simp only [nc] at *); first | done | (simp; done) | (simp (disch := (first | omega | (simp only [lnS, List.length_append, List.length_map, List.length_range, List.length_replicate]; omega))) only [nc, nct, w64_of, Int.toNat_natCast, Int.toNat_zero, List.length_map, rdS, at_agg, bofZ, bof1, bof0, List.getD_cons_zero, List.getD_cons_succ, implies_true, and_true, true_and, forall_const]; first | done | omega | (refine ⟨?_, ?_⟩ <;> omega)) | (simp (disch := (first | omega | (simp only [lnS, List.length_append, List.length_map, List.length_range, List.length_replicate]; omega))) [nc, nct, w64_of, Int.toNat_natCast, Int.toNat_zero, List.length_map, rdS, at_agg, bofZ, bof1, bof0, List.getD_cons_zero, List.getD_cons_succ]; done))); cbv)
      | (refine ⟨fun _ h_s => ?_, fun _ h_s => ?_⟩ <;> (cbv; (try simp only [nc] at *); try simp (disch := (first | omega | (simp only [lnS, List.length_append, List.length_map, List.length_range, List.length_replicate]; omega))) only [nc, nct, w64_of, Int.toNat_natCast, Int.toNat_zero, List.length_map, rdS, at_agg, bofZ, bof1, bof0, List.getD_cons_zero, List.getD_cons_succ, reduceCtorEq, Bool.not_true, Bool.not_false, decide_eq_true_eq, decide_eq_false_iff_not, Bool.not_eq_true, Bool.not_eq_false, Bool.not_eq_true', Bool.not_eq_false', ne_eq, Decidable.not_not, Int.not_le, Int.not_lt, beq_iff_eq] at h_s))
      | (refine hF ?_; intro _; clear hF)
      | (refine hF ?_; cbv; clear hF)
      | (refine ⟨fun _ => ?_, ?_⟩; (· ((try simp only [nc] at *); first | done | omega | exact ⟨by omega, rfl⟩ | (simp (disch := (first | omega | (simp only [lnS, List.length_append, List.length_map, List.length_range, List.length_replicate]; omega))) only [nc, nct, w64_of, Int.toNat_natCast, Int.toNat_zero, List.length_map, rdS, at_agg, bofZ, bof1, bof0, List.getD_cons_zero, List.getD_cons_succ]; first | done | omega | rfl | exact ⟨by omega, rfl⟩ | (simp; done) | (simp; omega)) | (intros; trivial))); (try (simp only [nc] at *)); (try simp (disch := (first | omega | (simp only [lnS, List.length_append, List.length_map, List.length_range, List.length_replicate]; omega))) only [nc, nct, w64_of, Int.toNat_natCast, Int.toNat_zero, List.length_map, rdS, at_agg, bofZ, bof1, bof0, List.getD_cons_zero, List.getD_cons_succ]); (try cbv))
      | fail
    )
    all_goals (try simp only [nc] at *)
    all_goals (try simp (disch := (first | omega | (simp only [lnS, List.length_append, List.length_map, List.length_range, List.length_replicate]; omega))) only [nc, nct, w64_of, Int.toNat_natCast, Int.toNat_zero, List.length_map, rdS, at_agg, bofZ, bof1, bof0, List.getD_cons_zero, List.getD_cons_succ])
end Go.AL.Rl

namespace Go.AL.Rl
open Go Go.AL Go.Proofs
set_option maxRecDepth 100000
set_option maxHeartbeats 3200000
variable {γ : Nat → Option AV}

abbrev aGiven (n : Int) (po rf co fr : List (BitVec 64)) : AV := .agg [.i fun _ => n, .vs 1 fun _ => us po, .i fun _ => n, .vs 1 fun _ => us rf, .i fun _ => n, .vs 1 fun _ => us co, .i fun _ => n, .vs 1 fun _ => us fr]
theorem wgiven_ok (g : Gr) (hg : Rd g) (h : GOk g) : Pure Try.prog γ false 40 [pW g] (aGiven (nG g : Nat) (poF (viewG g) (nG g)) (rfF (viewG g) (nG g)) (coF (viewG g) (nG g)) (frF (viewG g) (nG g))) := by
  have hn := (viewG_wf h).small
  have c1 := fun a b => wpo_ok (γ := γ) g a b
  have c2 := fun a b => wrf_ok (γ := γ) g h a b
  have c3 := fun a b => wco_ok (γ := γ) g hg h a b
  have c4 := fun a b => wfr_ok (γ := γ) g hg h a b
  unfold poF rfF coF frF
  generalize poM (viewG g) = p1 at *
  generalize rfM (viewG g) = p2 at *
  generalize coM (viewG g) = p3 at *
  generalize frM (viewG g) = p4 at *
  obtain ⟨L, hL⟩ : ∃ L : (Nat → Nat → Bool) → Nat → Nat → List (Int × Int), ∀ p a b, L p a b = prA p (nG g) a ++ prE p a b := ⟨_, fun _ _ _ => rfl⟩
  obtain ⟨G, hG⟩ : ∃ G : List (Int × Int) → Nat, ∀ l, G l = l.length := ⟨_, fun _ => rfl⟩
  have hG0 : G [] = 0 := by rw [hG]; rfl
  have l0 : ∀ p, L p 0 0 = [] := fun p => by rw [hL]; rfl
  have lS : ∀ p a b, L p a (b + 1) = L p a b ++ if p a b = true then [((a : Int), (b : Int))] else [] := fun p a b => by rw [hL, hL, prE_succ]; simp only [List.append_assoc]
  have lE : ∀ p a, L p a (nG g) = L p (a + 1) 0 := fun p a => by rw [hL, hL, prA_succ]; simp [prE]
  have lL : ∀ p a b, a ≤ nG g → b ≤ nG g → (L p a b).length ≤ 4000 := fun p a b ha hb => by
    have q1 := prA_len p (nG g) a
    have q2 := prE_len p a b
    have q3 : a * nG g ≤ 62 * 62 := Nat.mul_le_mul (by omega) hn
    rw [hL, List.length_append]; omega
  have lF : ∀ p, L p (nG g) 0 = prA p (nG g) (nG g) := fun p => by rw [hL]; simp [prE]
  have hlen : ∀ p, (prA p (nG g) (nG g)).length ≤ 4000 := fun p => by rw [← lF]; exact lL p _ _ (Nat.le_refl _) (Nat.zero_le _)
  have o2 : ∀ p, Pure Try.prog γ false 27 [.i fun _ => (nG g : Int), .vs 2 fun _ => ps (prA p (nG g) (nG g))] (encRel (nG g) (relRows (nG g) p)) := fun p => by
    have := rof_in (γ := γ) (nG g : Int) (prA p (nG g) (nG g)) (by omega) (by omega) (by have := hlen p; omega)
    rwa [ofTo_rel (nG g) (by omega) p] at this
  have k1 := o2 p1
  have k2 := o2 p2
  have k3 := o2 p3
  have k4 := o2 p4
  clear o2
  refine Pure.goL (ty := ty) ty_eq mo Try.func40 rfl Try.ntmps40 Try.results40 Try.call40 (by simp) fun P C CQ D W F E hF => ?_
  refine E.cut 4 (told 95 [(0, pW g), (2, .ptr 0 0), (3, .ptr 1 0)] [.box (.agg [.lit 0, .nils, .lit 0, .nils, .lit 0, .nils, .lit 0, .nils]), .box (.agg [.vs 2 fun _ => ps (prA p1 (nG g) (nG g)), .vs 2 fun _ => ps (prA p2 (nG g) (nG g)), .vs 2 fun _ => ps (prA p3 (nG g) (nG g)), .vs 2 fun _ => ps (prA p4 (nG g) (nG g))])]) (by kernel_rfl) (Nat.zero_le _) (fun I hI => ?_) (E.bl ?_)
  · cbv
    repeat' (first
      | (refine ⟨fun _ h_s => ?_, fun _ h_s => ?_⟩ <;> (cbv; (try simp only [nc] at *); try simp (disch := (first | omega | (simp only [lnS, List.length_append, List.length_map, List.length_range, List.length_replicate]; omega))) only [nc, nct, w64_of, Int.toNat_natCast, Int.toNat_zero, List.length_map, rdS, at_agg, bofZ, bof1, bof0, List.getD_cons_zero, List.getD_cons_succ, reduceCtorEq, Bool.not_true, Bool.not_false, decide_eq_true_eq, decide_eq_false_iff_not, Bool.not_eq_true, Bool.not_eq_false, Bool.not_eq_true', Bool.not_eq_false', ne_eq, Decidable.not_not, Int.not_le, Int.not_lt, beq_iff_eq] at h_s))
      | (refine hF ?_; intro _; clear hF)
      | (refine hF ?_; cbv; clear hF)
      | (refine ⟨fun _ => ?_, ?_⟩; (· ((try simp only [nc] at *); first | done | omega | exact ⟨by omega, rfl⟩ | (simp (disch := (first | omega | (simp only [lnS, List.length_append, List.length_map, List.length_range, List.length_replicate]; omega))) only [nc, nct, w64_of, Int.toNat_natCast, Int.toNat_zero, List.length_map, rdS, at_agg, bofZ, bof1, bof0, List.getD_cons_zero, List.getD_cons_succ]; first | done | omega | rfl | exact ⟨by omega, rfl⟩ | (simp; done) | (simp; omega)) | (intros; trivial))); (try (simp only [nc] at *)); (try simp (disch := (first | omega | (simp only [lnS, List.length_append, List.length_map, List.length_range, List.length_replicate]; omega))) only [nc, nct, w64_of, Int.toNat_natCast, Int.toNat_zero, List.length_map, rdS, at_agg, bofZ, bof1, bof0, List.getD_cons_zero, List.getD_cons_succ]); (try cbv))
      | (refine E.d 27 (by decide +kernel) ?_; cbv; (fail_if_success guard_target =~ False))
      | fail
    )
    refine E.w (AWP.ghostField 1 0 2 rfl rfl ?_)
    refine AWP.ghostField 1 1 2 rfl rfl ?_
    refine AWP.ghostField 1 2 2 rfl rfl ?_
    refine AWP.ghostField 1 3 2 rfl rfl ?_
    refine E.loopSA (ι := Nat) (fun a => a ≤ nG g) (fun a => nG g - a) (fun a => [(4, .i fun _ => ((a : Nat) : Int))]) (fun a h => (((((h.set 1 (.box (.agg [.sl 2 (G (L p1 a 0)) 2 (fun _ => 0) fun _ => (L p1 a 0).length, .sl 3 (G (L p2 a 0)) 2 (fun _ => 0) fun _ => (L p2 a 0).length, .sl 4 (G (L p3 a 0)) 2 (fun _ => 0) fun _ => (L p3 a 0).length, .sl 5 (G (L p4 a 0)) 2 (fun _ => 0) fun _ => (L p4 a 0).length]))).set 2 (.run (G (L p1 a 0)) 2 fun _ => ps (L p1 a 0))).set 3 (.run (G (L p2 a 0)) 2 fun _ => ps (L p2 a 0))).set 4 (.run (G (L p3 a 0)) 2 fun _ => ps (L p3 a 0))).set 5 (.run (G (L p4 a 0)) 2 fun _ => ps (L p4 a 0)))) 0 (fun _ => by first | rfl | simp) (Nat.zero_le _) ?_ fun a ha I1 hJ => ?_
    · cbv
      simp [l0, hG0, ps, LV.of]
    cbv
    repeat' (first
      | (refine ⟨fun _ h_s => ?_, fun _ h_s => ?_⟩ <;> (cbv; (try simp only [nc] at *); try simp (disch := (first | omega | (simp only [lnS, List.length_append, List.length_map, List.length_range, List.length_replicate]; omega))) only [nc, nct, w64_of, Int.toNat_natCast, Int.toNat_zero, List.length_map, rdS, at_agg, bofZ, bof1, bof0, List.getD_cons_zero, List.getD_cons_succ, reduceCtorEq, Bool.not_true, Bool.not_false, decide_eq_true_eq, decide_eq_false_iff_not, Bool.not_eq_true, Bool.not_eq_false, Bool.not_eq_true', Bool.not_eq_false', ne_eq, Decidable.not_not, Int.not_le, Int.not_lt, beq_iff_eq] at h_s))
      | (refine hF ?_; intro _; clear hF)
      | (refine hF ?_; cbv; clear hF)
      | (refine ⟨fun _ => ?_, ?_⟩; (· ((try simp only [nc] at *); first | done | omega | exact ⟨by omega, rfl⟩ | (simp (disch := (first | omega | (simp only [lnS, List.length_append, List.length_map, List.length_range, List.length_replicate]; omega))) only [nc, nct, w64_of, Int.toNat_natCast, Int.toNat_zero, List.length_map, rdS, at_agg, bofZ, bof1, bof0, List.getD_cons_zero, List.getD_cons_succ]; first | done | omega | rfl | exact ⟨by omega, rfl⟩ | (simp; done) | (simp; omega)) | (intros; trivial))); (try (simp only [nc] at *)); (try simp (disch := (first | omega | (simp only [lnS, List.length_append, List.length_map, List.length_range, List.length_replicate]; omega))) only [nc, nct, w64_of, Int.toNat_natCast, Int.toNat_zero, List.length_map, rdS, at_agg, bofZ, bof1, bof0, List.getD_cons_zero, List.getD_cons_succ]); (try cbv))
      | (refine E.d 27 (by decide +kernel) ?_; cbv; (fail_if_success guard_target =~ False))
      | fail
    )
    · refine E.loopS (ι := Nat) (fun b => b ≤ (nG g)) (fun b => (nG g) - b) (fun b => [(5, .i fun _ => ((b : Nat) : Int))]) (fun b h => (((((h.set 1 (.box (.agg [.sl 2 (G (L p1 a b)) 2 (fun _ => 0) fun _ => (L p1 a b).length, .sl 3 (G (L p2 a b)) 2 (fun _ => 0) fun _ => (L p2 a b).length, .sl 4 (G (L p3 a b)) 2 (fun _ => 0) fun _ => (L p3 a b).length, .sl 5 (G (L p4 a b)) 2 (fun _ => 0) fun _ => (L p4 a b).length]))).set 2 (.run (G (L p1 a b)) 2 fun _ => ps (L p1 a b))).set 3 (.run (G (L p2 a b)) 2 fun _ => ps (L p2 a b))).set 4 (.run (G (L p3 a b)) 2 fun _ => ps (L p3 a b))).set 5 (.run (G (L p4 a b)) 2 fun _ => ps (L p4 a b)))) 0 (fun _ => by first | rfl | simp) (Nat.zero_le _) ?_ fun b hb I2 hI2 => ?_
      · cbv; simp
      cbv
      have d1 := lL p1 a b ha hb
      have d2 := lL p2 a b ha hb
      have d3 := lL p3 a b ha hb
      have d4 := lL p4 a b ha hb
      skip
      repeat' (first
        | (refine hI2 (b + 1) ?_ ?_ ?_; rotate_left 1; (· ((try simp only [nc] at *); omega)); (cbv; clear hI2; (try clear hF); (try simp only [nc] at *); (try simp (disch := (first | omega | (simp only [lnS, List.length_append, List.length_map, List.length_range, List.length_replicate]; omega))) only [nc, nct, w64_of, Int.toNat_natCast, Int.toNat_zero, List.length_map, rdS, at_agg, bofZ, bof1, bof0, List.getD_cons_zero, List.getD_cons_succ, implies_true, and_true, true_and, forall_const])); rotate_left 1; (try ((try simp only [nc] at *); omega)))
        | (refine E.c (SCalls.of_le (c4 a b (by ((try simp only [nc] at *); omega)) (by ((try simp only [nc] at *); omega))) ?_ ?_); (· (cbv; (try simp only [nc] at *); first | done | (simp; done) | (simp (disch := (first | omega | (simp only [lnS, List.length_append, List.length_map, List.length_range, List.length_replicate]; omega))) only [nc, nct, w64_of, Int.toNat_natCast, Int.toNat_zero, List.length_map, rdS, at_agg, bofZ, bof1, bof0, List.getD_cons_zero, List.getD_cons_succ, implies_true, and_true, true_and, forall_const]; first | done | omega | (refine ⟨?_, ?_⟩ <;> omega)) | (simp (disch := (first | omega | (simp only [lnS, List.length_append, List.length_map, List.length_range, List.length_replicate]; omega))) [nc, nct, w64_of, Int.toNat_natCast, Int.toNat_zero, List.length_map, rdS, at_agg, bofZ, bof1, bof0, List.getD_cons_zero, List.getD_cons_succ]; done))); cbv)
        | (refine E.c (SCalls.of_le (c3 a b (by ((try simp only [nc] at *); omega)) (by ((try simp only [nc] at *); omega))) ?_ ?_); (· (cbv; (try simp only [nc] at *); first | done | (simp; done) | (simp (disch := (first | omega | (simp only [lnS, List.length_append, List.length_map, List.length_range, List.length_replicate]; omega))) only [nc, nct, w64_of, Int.toNat_natCast, Int.toNat_zero, List.length_map, rdS, at_agg, bofZ, bof1, bof0, List.getD_cons_zero, List.getD_cons_succ, implies_true, and_true, true_and, forall_const]; first | done | omega | (refine ⟨?_, ?_⟩ <;> omega)) | (simp (disch := (first | omega | (simp only [lnS, List.length_append, List.length_map, List.length_range, List.length_replicate]; omega))) [nc, nct, w64_of, Int.toNat_natCast, Int.toNat_zero, List.length_map, rdS, at_agg, bofZ, bof1, bof0, List.getD_cons_zero, List.getD_cons_succ]; done))); cbv)
        | (refine E.c (SCalls.of_le (c2 a b (by ((try simp only [nc] at *); omega)) (by ((try simp only [nc] at *); omega))) ?_ ?_); (· (cbv; (try simp only [nc] at *); first | done | (simp; done) | (simp (disch := (first | omega | (simp only [lnS, List.length_append, List.length_map, List.length_range, List.length_replicate]; omega))) only [nc, nct, w64_of, Int.toNat_natCast, Int.toNat_zero, List.length_map, rdS, at_agg, bofZ, bof1, bof0, List.getD_cons_zero, List.getD_cons_succ, implies_true, and_true, true_and, forall_const]; first | done | omega | (refine ⟨?_, ?_⟩ <;> omega)) | (simp (disch := (first | omega | (simp only [lnS, List.length_append, List.length_map, List.length_range, List.length_replicate]; omega))) [nc, nct, w64_of, Int.toNat_natCast, Int.toNat_zero, List.length_map, rdS, at_agg, bofZ, bof1, bof0, List.getD_cons_zero, List.getD_cons_succ]; done))); cbv)
        | (refine E.c (SCalls.of_le (c1 a b (by ((try simp only [nc] at *); omega)) (by ((try simp only [nc] at *); omega))) ?_ ?_); (· (cbv; (try simp only [nc] at *); first | done | (simp; done) | (simp (disch := (first | omega | (simp only [lnS, List.length_append, List.length_map, List.length_range, List.length_replicate]; omega))) only [nc, nct, w64_of, Int.toNat_natCast, Int.toNat_zero, List.length_map, rdS, at_agg, bofZ, bof1, bof0, List.getD_cons_zero, List.getD_cons_succ, implies_true, and_true, true_and, forall_const]; first | done | omega | (refine ⟨?_, ?_⟩ <;> omega)) | (simp (disch := (first | omega | (simp only [lnS, List.length_append, List.length_map, List.length_range, List.length_replicate]; omega))) [nc, nct, w64_of, Int.toNat_natCast, Int.toNat_zero, List.length_map, rdS, at_agg, bofZ, bof1, bof0, List.getD_cons_zero, List.getD_cons_succ]; done))); cbv)
        | (refine ⟨fun _ h_s => ?_, fun _ h_s => ?_⟩ <;> (cbv; (try simp only [nc] at *); try simp (disch := (first | omega | (simp only [lnS, List.length_append, List.length_map, List.length_range, List.length_replicate]; omega))) only [nc, nct, w64_of, Int.toNat_natCast, Int.toNat_zero, List.length_map, rdS, at_agg, bofZ, bof1, bof0, List.getD_cons_zero, List.getD_cons_succ, reduceCtorEq, Bool.not_true, Bool.not_false, decide_eq_true_eq, decide_eq_false_iff_not, Bool.not_eq_true, Bool.not_eq_false, Bool.not_eq_true', Bool.not_eq_false', ne_eq, Decidable.not_not, Int.not_le, Int.not_lt, beq_iff_eq] at h_s))
        | (refine hF ?_; intro _; clear hF)
        | (refine hF ?_; cbv; clear hF)
        | (refine ⟨fun _ => ?_, ?_⟩; (· ((try simp only [nc] at *); first | done | omega | exact ⟨by omega, rfl⟩ | (simp (disch := (first | omega | (simp only [lnS, List.length_append, List.length_map, List.length_range, List.length_replicate]; omega))) only [nc, nct, w64_of, Int.toNat_natCast, Int.toNat_zero, List.length_map, rdS, at_agg, bofZ, bof1, bof0, List.getD_cons_zero, List.getD_cons_succ]; first | done | omega | rfl | exact ⟨by omega, rfl⟩ | (simp; done) | (simp; omega)) | (intros; trivial) | exact ⟨by first | trivial | rfl, by first | trivial | rfl | simp, by first | trivial | simp, by simp; omega, by simp; omega, by simp [AV.flat, AV.cells, AV.one]⟩)); (try (simp only [nc] at *)); (try simp (disch := (first | omega | (simp only [lnS, List.length_append, List.length_map, List.length_range, List.length_replicate]; omega))) only [nc, nct, w64_of, Int.toNat_natCast, Int.toNat_zero, List.length_map, rdS, at_agg, bofZ, bof1, bof0, List.getD_cons_zero, List.getD_cons_succ]); (try cbv))
        | (refine E.d 27 (by decide +kernel) ?_; cbv; (fail_if_success guard_target =~ False))
        | fail
      )
      all_goals clear c1 c2 c3 c4 E lL lF l0 hG0 d1 d2 d3 d4
      rotate_right 1
      · have eb : b = nG g := by ((try simp only [nc] at *); omega)
        subst eb
        simp only [lE]
        refine hJ (a + 1) (by ((try simp only [nc] at *); omega)) (by ((try simp only [nc] at *); omega)) ?_
        cbv
        clear hJ hI hI2
        have e := w64_of (n := (a : Int) + 1) (by omega) (by omega)
        simp [e]
      all_goals clear lE
      all_goals simp_all [hG, setAll, ps, AV.nrm]
      all_goals omega
    · have ea : a = nG g := by ((try simp only [nc] at *); omega)
      subst ea
      simp only [lF]
      refine hI ?_
      cbv
      clear hI hJ
      simp only [List.drop_zero, nc]
      simp
      refine ⟨?_, ?_, ?_, ?_⟩ <;> exact List.take_of_length_le (by simp)
  · cbv
    repeat' (first
      | (refine E.c (SCalls.of_le (k4) ?_ ?_); (· (cbv; (try simp only [nc] at *); first | done | (simp; done) | (simp (disch := (first | omega | (simp only [lnS, List.length_append, List.length_map, List.length_range, List.length_replicate]; omega))) only [nc, nct, w64_of, Int.toNat_natCast, Int.toNat_zero, List.length_map, rdS, at_agg, bofZ, bof1, bof0, List.getD_cons_zero, List.getD_cons_succ, implies_true, and_true, true_and, forall_const]; first | done | omega | (refine ⟨?_, ?_⟩ <;> omega)) | (simp (disch := (first | omega | (simp only [lnS, List.length_append, List.length_map, List.length_range, List.length_replicate]; omega))) [nc, nct, w64_of, Int.toNat_natCast, Int.toNat_zero, List.length_map, rdS, at_agg, bofZ, bof1, bof0, List.getD_cons_zero, List.getD_cons_succ]; done))); cbv)
      | (refine E.q (QCalls.of_le (k4) ?_ ?_); (· (cbv; (try simp only [nc] at *); first | done | (simp; done) | (simp (disch := (first | omega | (simp only [lnS, List.length_append, List.length_map, List.length_range, List.length_replicate]; omega))) only [nc, nct, w64_of, Int.toNat_natCast, Int.toNat_zero, List.length_map, rdS, at_agg, bofZ, bof1, bof0, List.getD_cons_zero, List.getD_cons_succ, implies_true, and_true, true_and, forall_const]; first | done | omega | (refine ⟨?_, ?_⟩ <;> omega)) | (simp (disch := (first | omega | (simp only [lnS, List.length_append, List.length_map, List.length_range, List.length_replicate]; omega))) [nc, nct, w64_of, Int.toNat_natCast, Int.toNat_zero, List.length_map, rdS, at_agg, bofZ, bof1, bof0, List.getD_cons_zero, List.getD_cons_succ]; done))); cbv)
      | (refine E.c (SCalls.of_le (k3) ?_ ?_); (· (cbv; (try simp only [nc] at *); first | done | (simp; done) | (simp (disch := (first | omega | (simp only [lnS, List.length_append, List.length_map, List.length_range, List.length_replicate]; omega))) only [nc, nct, w64_of, Int.toNat_natCast, Int.toNat_zero, List.length_map, rdS, at_agg, bofZ, bof1, bof0, List.getD_cons_zero, List.getD_cons_succ, implies_true, and_true, true_and, forall_const]; first | done | omega | (refine ⟨?_, ?_⟩ <;> omega)) | (simp (disch := (first | omega | (simp only [lnS, List.length_append, List.length_map, List.length_range, List.length_replicate]; omega))) [nc, nct, w64_of, Int.toNat_natCast, Int.toNat_zero, List.length_map, rdS, at_agg, bofZ, bof1, bof0, List.getD_cons_zero, List.getD_cons_succ]; done))); cbv)
      | (refine E.q (QCalls.of_le (k3) ?_ ?_); (· (cbv; (try simp only [nc] at *); first | done | (simp; done) | (simp (disch := (first | omega | (simp only [lnS, List.length_append, List.length_map, List.length_range, List.length_replicate]; omega))) only [nc, nct, w64_of, Int.toNat_natCast, Int.toNat_zero, List.length_map, rdS, at_agg, bofZ, bof1, bof0, List.getD_cons_zero, List.getD_cons_succ, implies_true, and_true, true_and, forall_const]; first | done | omega | (refine ⟨?_, ?_⟩ <;> omega)) | (simp (disch := (first | omega | (simp only [lnS, List.length_append, List.length_map, List.length_range, List.length_replicate]; omega))) [nc, nct, w64_of, Int.toNat_natCast, Int.toNat_zero, List.length_map, rdS, at_agg, bofZ, bof1, bof0, List.getD_cons_zero, List.getD_cons_succ]; done))); cbv)
      | (refine E.c (SCalls.of_le (k2) ?_ ?_); (· (cbv; (try simp only [nc] at *); first | done | (simp; done) | (simp (disch := (first | omega | (simp only [lnS, List.length_append, List.length_map, List.length_range, List.length_replicate]; omega))) only [nc, nct, w64_of, Int.toNat_natCast, Int.toNat_zero, List.length_map, rdS, at_agg, bofZ, bof1, bof0, List.getD_cons_zero, List.getD_cons_succ, implies_true, and_true, true_and, forall_const]; first | done | omega | (refine ⟨?_, ?_⟩ <;> omega)) | (simp (disch := (first | omega | (simp only [lnS, List.length_append, List.length_map, List.length_range, List.length_replicate]; omega))) [nc, nct, w64_of, Int.toNat_natCast, Int.toNat_zero, List.length_map, rdS, at_agg, bofZ, bof1, bof0, List.getD_cons_zero, List.getD_cons_succ]; done))); cbv)
      | (refine E.q (QCalls.of_le (k2) ?_ ?_); (· (cbv; (try simp only [nc] at *); first | done | (simp; done) | (simp (disch := (first | omega | (simp only [lnS, List.length_append, List.length_map, List.length_range, List.length_replicate]; omega))) only [nc, nct, w64_of, Int.toNat_natCast, Int.toNat_zero, List.length_map, rdS, at_agg, bofZ, bof1, bof0, List.getD_cons_zero, List.getD_cons_succ, implies_true, and_true, true_and, forall_const]; first | done | omega | (refine ⟨?_, ?_⟩ <;> omega)) | (simp (disch := (first | omega | (simp only [lnS, List.length_append, List.length_map, List.length_range, List.length_replicate]; omega))) [nc, nct, w64_of, Int.toNat_natCast, Int.toNat_zero, List.length_map, rdS, at_agg, bofZ, bof1, bof0, List.getD_cons_zero, List.getD_cons_succ]; done))); cbv)
      | (refine E.c (SCalls.of_le (k1) ?_ ?_); (· (cbv; (try simp only [nc] at *); first | done | (simp; done) | (simp (disch := (first | omega | (simp only [lnS, List.length_append, List.length_map, List.length_range, List.length_replicate]; omega))) only [nc, nct, w64_of, Int.toNat_natCast, Int.toNat_zero, List.length_map, rdS, at_agg, bofZ, bof1, bof0, List.getD_cons_zero, List.getD_cons_succ, implies_true, and_true, true_and, forall_const]; first | done | omega | (refine ⟨?_, ?_⟩ <;> omega)) | (simp (disch := (first | omega | (simp only [lnS, List.length_append, List.length_map, List.length_range, List.length_replicate]; omega))) [nc, nct, w64_of, Int.toNat_natCast, Int.toNat_zero, List.length_map, rdS, at_agg, bofZ, bof1, bof0, List.getD_cons_zero, List.getD_cons_succ]; done))); cbv)
      | (refine E.q (QCalls.of_le (k1) ?_ ?_); (· (cbv; (try simp only [nc] at *); first | done | (simp; done) | (simp (disch := (first | omega | (simp only [lnS, List.length_append, List.length_map, List.length_range, List.length_replicate]; omega))) only [nc, nct, w64_of, Int.toNat_natCast, Int.toNat_zero, List.length_map, rdS, at_agg, bofZ, bof1, bof0, List.getD_cons_zero, List.getD_cons_succ, implies_true, and_true, true_and, forall_const]; first | done | omega | (refine ⟨?_, ?_⟩ <;> omega)) | (simp (disch := (first | omega | (simp only [lnS, List.length_append, List.length_map, List.length_range, List.length_replicate]; omega))) [nc, nct, w64_of, Int.toNat_natCast, Int.toNat_zero, List.length_map, rdS, at_agg, bofZ, bof1, bof0, List.getD_cons_zero, List.getD_cons_succ]; done))); cbv)
      | (refine ⟨fun _ h_s => ?_, fun _ h_s => ?_⟩ <;> (cbv; (try simp only [nc] at *); try simp (disch := (first | omega | (simp only [lnS, List.length_append, List.length_map, List.length_range, List.length_replicate]; omega))) only [nc, nct, w64_of, Int.toNat_natCast, Int.toNat_zero, List.length_map, rdS, at_agg, bofZ, bof1, bof0, List.getD_cons_zero, List.getD_cons_succ, reduceCtorEq, Bool.not_true, Bool.not_false, decide_eq_true_eq, decide_eq_false_iff_not, Bool.not_eq_true, Bool.not_eq_false, Bool.not_eq_true', Bool.not_eq_false', ne_eq, Decidable.not_not, Int.not_le, Int.not_lt, beq_iff_eq] at h_s))
      | (refine hF ?_; intro _; clear hF)
      | (refine hF ?_; cbv; clear hF)
      | (refine ⟨fun _ => ?_, ?_⟩; (· ((try simp only [nc] at *); first | done | omega | exact ⟨by omega, rfl⟩ | (simp (disch := (first | omega | (simp only [lnS, List.length_append, List.length_map, List.length_range, List.length_replicate]; omega))) only [nc, nct, w64_of, Int.toNat_natCast, Int.toNat_zero, List.length_map, rdS, at_agg, bofZ, bof1, bof0, List.getD_cons_zero, List.getD_cons_succ]; first | done | omega | rfl | exact ⟨by omega, rfl⟩ | (simp; done) | (simp; omega)) | (intros; trivial) | exact ⟨by first | trivial | rfl, by first | trivial | rfl | simp, by first | trivial | simp, by simp; omega, by simp; omega, by simp [AV.flat, AV.cells, AV.one]⟩)); (try (simp only [nc] at *)); (try simp (disch := (first | omega | (simp only [lnS, List.length_append, List.length_map, List.length_range, List.length_replicate]; omega))) only [nc, nct, w64_of, Int.toNat_natCast, Int.toNat_zero, List.length_map, rdS, at_agg, bofZ, bof1, bof0, List.getD_cons_zero, List.getD_cons_succ]); (try cbv))
      | (refine E.d 27 (by decide +kernel) ?_; cbv; (fail_if_success guard_target =~ False))
      | fail
    )
end Go.AL.Rl

namespace Go.AL.Rl
open Go Go.AL Go.Proofs
set_option maxRecDepth 100000
set_option maxHeartbeats 1600000

def flC (c : Nat → Bool) (f : Nat → List (Int × Int)) (k : Nat) : List (Int × Int) := (List.range k).flatMap fun i => if c i = true then f i else []
theorem flC_zero (c : Nat → Bool) (f : Nat → List (Int × Int)) : flC c f 0 = [] := rfl
theorem flC_yes {c : Nat → Bool} (f : Nat → List (Int × Int)) {k : Nat} (h : c k = true) : flC c f (k + 1) = flC c f k ++ f k := by
  unfold flC; rw [List.range_succ, List.flatMap_append]; simp [h]
theorem flC_no {c : Nat → Bool} (f : Nat → List (Int × Int)) {k : Nat} (h : ¬ c k = true) : flC c f (k + 1) = flC c f k := by
  unfold flC; rw [List.range_succ, List.flatMap_append]; simp [h]
theorem flC_len (c : Nat → Bool) (f : Nat → List (Int × Int)) (m : Nat) (hf : ∀ i, (f i).length ≤ m) : ∀ k, (flC c f k).length ≤ k * m
  | 0 => by simp [flC]
  | k + 1 => by
    have ih := flC_len c f m hf k
    have := hf k
    rw [Nat.add_mul, Nat.one_mul]
    by_cases h : c k = true
    · rw [flC_yes f h, List.length_append]; omega
    · rw [flC_no f h]; omega
theorem flC_mem {c : Nat → Bool} {f : Nat → List (Int × Int)} {k : Nat} {q : Int × Int} : q ∈ flC c f k ↔ ∃ i < k, c i = true ∧ q ∈ f i := by
  unfold flC
  simp only [List.mem_flatMap, List.mem_range]
  constructor
  · rintro ⟨i, hi, h⟩
    split at h
    · exact ⟨i, hi, by assumption, h⟩
    · cases h
  · rintro ⟨i, hi, h1, h2⟩
    exact ⟨i, hi, by rw [if_pos h1]; exact h2⟩
def cwM (V : Vw) (w : Nat) : Bool := writesM (V.ev.getD w ev0) && decide ((V.ev.getD w ev0).order ≠ 1)
def crM (V : Vw) (w r : Nat) : Bool := relM (V.ev.getD r ev0) && (decide (r = w) || fenceM (V.ev.getD r ev0) && poM V r w)
def caM (V : Vw) (b a : Nat) : Bool := acqM (V.ev.getD a ev0) && (decide (a = b) || fenceM (V.ev.getD a ev0) && poM V b a)
theorem swR_cr (V : Vw) (w r : Nat) : swR V w r = (cwM V w && crM V w r) := by unfold swR cwM crM; simp only [Bool.and_assoc]
def lA (V : Vw) (b r a : Nat) : List (Int × Int) := flC (caM V b) (fun a => [((r : Int), (a : Int))]) a
def lR (V : Vw) (n w b r : Nat) : List (Int × Int) := flC (crM V w) (fun r => lA V b r n) r
noncomputable def lB (V : Vw) (n w b : Nat) : List (Int × Int) := flC (rdrM V (seqM V n w)) (fun b => lR V n w b n) b
noncomputable def lW (V : Vw) (n w : Nat) : List (Int × Int) := flC (cwM V) (fun w => lB V n w n) w
noncomputable def lAll (V : Vw) (n w b r a : Nat) : List (Int × Int) := lW V n w ++ lB V n w b ++ lR V n w b r ++ lA V b r a
theorem lA_len (V : Vw) (b r a : Nat) : (lA V b r a).length ≤ a := by have := flC_len (caM V b) (fun a => [((r : Int), (a : Int))]) 1 (fun _ => by simp) a; unfold lA; omega
theorem lR_len (V : Vw) (n w b r : Nat) : (lR V n w b r).length ≤ r * n := flC_len _ _ _ (fun _ => lA_len _ _ _ _) _
theorem lB_len (V : Vw) (n w b : Nat) : (lB V n w b).length ≤ b * (n * n) := flC_len _ _ _ (fun _ => lR_len _ _ _ _ _) _
theorem lW_len (V : Vw) (n w : Nat) : (lW V n w).length ≤ w * (n * (n * n)) := flC_len _ _ _ (fun _ => lB_len _ _ _ _) _
theorem lAll_len (V : Vw) (n w b r a : Nat) (hn : n ≤ 62) (hw : w ≤ n) (hb : b ≤ n) (hr : r ≤ n) (ha : a ≤ n) : (lAll V n w b r a).length ≤ 100000000 := by
  have h1 := lW_len V n w
  have h2 := lB_len V n w b
  have h3 := lR_len V n w b r
  have h4 := lA_len V b r a
  have e2 : n * n ≤ 62 * 62 := Nat.mul_le_mul hn hn
  have e3 : n * (n * n) ≤ 62 * (62 * 62) := Nat.mul_le_mul hn e2
  have f1 : w * (n * (n * n)) ≤ 62 * (62 * (62 * 62)) := Nat.mul_le_mul (by omega) e3
  have f2 : b * (n * n) ≤ 62 * (62 * 62) := Nat.mul_le_mul (by omega) e2
  have f3 : r * n ≤ 62 * 62 := Nat.mul_le_mul (by omega) hn
  unfold lAll
  simp only [List.length_append]
  omega
theorem lAll_a1 (V : Vw) (n w b r a : Nat) (h : caM V b a = true) : lAll V n w b r (a + 1) = lAll V n w b r a ++ [((r : Int), (a : Int))] := by
  unfold lAll lA; rw [flC_yes _ h]; simp only [List.append_assoc]
theorem lAll_a0 (V : Vw) (n w b r a : Nat) (h : ¬ caM V b a = true) : lAll V n w b r (a + 1) = lAll V n w b r a := by
  unfold lAll lA; rw [flC_no _ h]
theorem lAll_r1 (V : Vw) (n w b r : Nat) (h : crM V w r = true) : lAll V n w b (r + 1) 0 = lAll V n w b r n := by
  unfold lAll lR; rw [flC_yes _ h]; simp only [List.append_assoc]; simp [lA, flC_zero]
theorem lAll_r0 (V : Vw) (n w b r : Nat) (h : ¬ crM V w r = true) : lAll V n w b (r + 1) 0 = lAll V n w b r 0 := by
  unfold lAll lR; rw [flC_no _ h]; simp [lA, flC_zero]
theorem lAll_b1 (V : Vw) (n w b : Nat) (h : rdrM V (seqM V n w) b = true) : lAll V n w (b + 1) 0 0 = lAll V n w b n 0 := by
  unfold lAll lB; rw [flC_yes _ h]; simp [lA, lR, flC_zero]
theorem lAll_b0 (V : Vw) (n w b : Nat) (h : ¬ rdrM V (seqM V n w) b = true) : lAll V n w (b + 1) 0 0 = lAll V n w b 0 0 := by
  unfold lAll lB; rw [flC_no _ h]; simp [lA, lR, flC_zero]
theorem lAll_w1 (V : Vw) (n w : Nat) (h : cwM V w = true) : lAll V n (w + 1) 0 0 0 = lAll V n w n 0 0 := by
  unfold lAll lW; rw [flC_yes _ h]; simp [lA, lR, lB, flC_zero]
theorem lAll_w0 (V : Vw) (n w : Nat) (h : ¬ cwM V w = true) : lAll V n (w + 1) 0 0 0 = lAll V n w 0 0 0 := by
  unfold lAll lW; rw [flC_no _ h]; simp [lA, lR, lB, flC_zero]
theorem lAll_mem (V : Vw) (n : Nat) (q : Int × Int) : q ∈ lAll V n n 0 0 0 ↔ ∃ w < n, cwM V w = true ∧ ∃ b < n, rdrM V (seqM V n w) b = true ∧ ∃ r < n, crM V w r = true ∧ ∃ a < n, caM V b a = true ∧ q = ((r : Int), (a : Int)) := by
  have e : lAll V n n 0 0 0 = lW V n n := by unfold lAll; simp [lA, lR, lB, flC_zero]
  rw [e]
  unfold lW; rw [flC_mem]
  refine exists_congr fun w => and_congr_right fun _ => and_congr_right fun _ => ?_
  unfold lB; rw [flC_mem]
  refine exists_congr fun b => and_congr_right fun _ => and_congr_right fun _ => ?_
  unfold lR; rw [flC_mem]
  refine exists_congr fun r => and_congr_right fun _ => and_congr_right fun _ => ?_
  unfold lA; rw [flC_mem]
  refine exists_congr fun a => and_congr_right fun _ => and_congr_right fun _ => ?_
  simp
theorem rowT_bit (V : Vw) (n r a : Nat) : ∀ w, (rowT V n w r).getLsbD a = true ↔ ∃ v < w, swR V v r = true ∧ (tgtM V n v).getLsbD a = true
  | 0 => by simp [rowT]
  | w + 1 => by
    have ih := rowT_bit V n r a w
    unfold rowT
    constructor
    · intro h
      split at h
      · rw [BitVec.getLsbD_or, Bool.or_eq_true] at h
        rcases h with h | h
        · obtain ⟨v, hv, h1, h2⟩ := ih.1 h; exact ⟨v, by omega, h1, h2⟩
        · exact ⟨w, by omega, by assumption, h⟩
      · obtain ⟨v, hv, h1, h2⟩ := ih.1 h; exact ⟨v, by omega, h1, h2⟩
    · rintro ⟨v, hv, h1, h2⟩
      by_cases hvw : v = w
      · subst hvw
        rw [if_pos h1, BitVec.getLsbD_or, h2, Bool.or_true]
      · have h3 := ih.2 ⟨v, by omega, h1, h2⟩
        split
        · rw [BitVec.getLsbD_or, h3]; rfl
        · exact h3
theorem ne0_bit (x : BitVec 64) : x ≠ 0#64 ↔ ∃ j, x.getLsbD j = true := by
  constructor
  · intro h
    refine Classical.byContradiction fun hc => h (BitVec.eq_of_getLsbD_eq fun i hi => ?_)
    cases hx : x.getLsbD i with
    | true => exact absurd ⟨i, hx⟩ hc
    | false => simp
  · rintro ⟨j, hj⟩ h
    subst h; simp at hj
theorem tgt_bit (V : Vw) (n w a : Nat) (hn : n ≤ 62) : (tgtM V n w).getLsbD a = true ↔ a < n ∧ ∃ b < n, rdrM V (seqM V n w) b = true ∧ caM V b a = true := by
  unfold tgtM
  rw [mask_bit _ _ (by omega)]
  simp only [Bool.and_eq_true, decide_eq_true_eq, behM, Bool.or_eq_true, ne0_bit, BitVec.getLsbD_and, mask_bit _ _ (show n ≤ 64 by omega), caM]
  constructor
  · rintro ⟨h1, h2, ⟨h3, h4⟩ | ⟨h3, j, ⟨h4, h5⟩, h6, h7⟩⟩
    · exact ⟨h1, a, h3, h4, h2, .inl rfl⟩
    · exact ⟨h1, j, h4, h5, h2, .inr ⟨h3, h7⟩⟩
  · rintro ⟨h1, b, h2, h3, h4, h5 | ⟨h5, h6⟩⟩
    · subst h5; exact ⟨h1, h4, .inl ⟨h2, h3⟩⟩
    · exact ⟨h1, h4, .inr ⟨h5, b, ⟨h2, h3⟩, h2, h6⟩⟩
theorem ofTo_sw (V : Vw) (n : Nat) (hn : n ≤ 62) : ofTo n (lAll V n n 0 0 0) (lAll V n n 0 0 0).length = swF V n := by
  unfold swF
  refine rowsEq (n := n) (by rw [ofTo_len]; simp) (relRows_len n _) fun i j => ?_
  rw [bit_ofTo n (by omega) _ (fun q hq => by
    obtain ⟨_, _, _, _, _, _, r, hr, _, a, ha, _, he⟩ := (lAll_mem V n q).1 hq
    exact ⟨r, hr, a, ha, he⟩) i j _ (Nat.le_refl _), List.take_length, bit_rel (by omega), Bool.eq_iff_iff, decide_eq_true_iff, lAll_mem]
  by_cases hi : i < n
  · have e : bit (swRows V n) i j = (rowT V n n i).getLsbD j := by unfold bit swRows; rw [tab_get n _ i hi]
    simp only [Bool.and_eq_true, decide_eq_true_eq, Prod.mk.injEq, Int.ofNat_inj, hi, true_and, e, rowT_bit, tgt_bit V n _ _ hn, swR_cr]
    constructor
    · rintro ⟨w, hw, h1, b, hb, h2, r, hr, h3, a, ha, h4, h5, h6⟩
      subst h5; subst h6
      exact ⟨ha, w, hw, ⟨h1, h3⟩, ha, b, hb, h2, h4⟩
    · rintro ⟨_, w, hw, ⟨h1, h3⟩, ha, b, hb, h2, h4⟩
      exact ⟨w, hw, h1, b, hb, h2, i, hi, h3, j, ha, h4, rfl, rfl⟩
  · simp only [hi, decide_false, Bool.false_and, Bool.false_eq_true, iff_false]
    rintro ⟨w, hw, h1, b, hb, h2, r, hr, h3, a, ha, h4, h5⟩
    simp only [Prod.mk.injEq, Int.ofNat_inj] at h5
    omega
end Go.AL.Rl
