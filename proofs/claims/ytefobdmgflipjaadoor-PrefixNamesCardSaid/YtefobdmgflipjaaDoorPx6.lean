import Derived.Test.YtefobdmgflipjaaDoorPx5
import Derived.OpenShut
import Derived.ReadAgain
import Derived.Deep.DeepHandedRow
import Derived.Lib.LaidTab
import Derived.ProofKit
import Derived.Test.YtefobdmgflipjaaDoorCards
import Derived.Test.YtefobdmgflipjaaDoorTie
set_option linter.unusedVariables false
set_option linter.unusedSimpArgs false
namespace Go.AL
open Go Go.RowKit
section
variable {P : Program} {γ : Nat → Option AV} {C : EC} {CQ : List Blk → QC} {T : Nat → TI} {D : Array Oper → (St → Prop) → St → Prop} {W : Code → (Exit → St → Prop) → St → Prop}
theorem Env.loopCA (E : Env P γ C CQ T D W) {c : Code} {Q : Exit → St → Prop} {A : St} {ι : Type} (ok : ι → Prop) (m : ι → Nat) (upd : ι → List (Nat × AV)) (hp : ι → List Blk) (j0 : ι)
    (hA : A.h.length = (hp j0).length) (hn : ∀ j, (hp j).length = (hp j0).length) (hok : ok j0) (h0 : leSt (hp j0).length (headSt c A (upd j0) (hp j0)) A)
    (round : ∀ j, ok j → ∀ (I : St → Prop), (∀ {A'} j', ok j' → m j' < m j → leSt (hp j0).length (headSt c A (upd j') (hp j')) A' → I A') → AWPl P γ (hp j0).length (citems c) (thenE I Q) (headSt c A (upd j) (hp j))) : AWP P γ (.loop c) Q A :=
  AWP.loopI (ι := ι) (hp j0).length (fun j => headSt c A (upd j) (hp j)) ok m j0 hA hn ⟨hok, h0⟩ fun j hj => AWPr.to (by
    show AWPr P γ (hp j).length c _ _
    rw [hn j]
    exact AWPr.of_items c (round j hj _ fun j' h1 h2 h3 => ⟨j', h1, h2, h3⟩))
theorem inBlk_mono {id : Nat} {Q Q' : Exit → St → Prop} (h : ∀ e A, Q e A → Q' e A) : ∀ e A, inBlk id Q e A → inBlk id Q' e A := by
  intro e A
  cases e with
  | exit id' => simp only [inBlk]; split <;> exact h _ _
  | _ => exact h _ _
/-- the last part of a block, and what stands behind it -/
theorem Env.blk (E : Env P γ C CQ T D W) {n id : Nat} {l r : List Code} {Q : Exit → St → Prop} {A : St} (h : vcl T γ C D W l (inBlk id (thenE (fun A => vcl T γ C D W r Q A) Q)) A) : AWPl P γ n l (inBlk id (thenE (fun A => AWPl P γ n r Q A) Q)) A :=
  (E.bl h).mono (inBlk_mono fun e A h' => by
    cases e with
    | normal => exact E.bl h'
    | _ => exact h')
end
end Go.AL
namespace Go.AL.Rl
open Go Go.AL Go.Proofs
set_option maxRecDepth 100000
set_option maxHeartbeats 3200000
variable {γ : Nat → Option AV}

abbrev gz : Gr := ⟨[], [], [], []⟩
theorem pkeep_no (hγ : γ 0 = some tabAV) (g : Gr) (hg : Rd g) (l : List EId) (hl : (l.length : Int) ≤ 9223372036854775807) (h : closedG g l = false) : Pure Tryd.prog γ false 15 [aGr g, .vs 2 fun _ => ids l] (.tup [aGr gz, .i fun _ => 2]) := by
  have kc := pclosedG_ok (γ := γ) hγ g hg l hl
  rw [h] at kc
  refine Pure.go (ty := ty) ty_eq mo Tryd.func15 rfl Tryd.ntmps15 Tryd.results15 Tryd.call15 (by simp) fun P C CQ D W F E hF => ?_
  cbv
  repeat' (first
    | (refine E.c (SCalls.of_le (kc) ?_ ?_); (· (cbv; (try simp only [nc] at *); first | done | (simp; done) | (simp (disch := (first | omega | (simp only [lnS, zA, zM, zG, zP]; omega))) only [nc, nct, w64_of, zT, zZ, zM, rdS, at_agg, bofZ, bof1, bof0, zC, zS, implies_true, and_true, true_and, forall_const]; first | done | omega | (refine ⟨?_, ?_⟩ <;> omega)) | (simp (disch := (first | omega | (simp only [lnS, zA, zM, zG, zP]; omega))) [nc, nct, w64_of, zT, zZ, zM, rdS, at_agg, bofZ, bof1, bof0, zC, zS]; done))); cbv)
    | (refine ⟨fun _ h_s => ?_, fun _ h_s => ?_⟩ <;> (cbv; (try simp only [nc] at *); try simp (disch := (first | omega | (simp only [lnS, zA, zM, zG, zP]; omega))) only [nc, nct, w64_of, zT, zZ, zM, rdS, at_agg, bofZ, bof1, bof0, zC, zS, reduceCtorEq, Bool.not_true, Bool.not_false, zD, zE, zB, zF, zN, zO, ne_eq, zQ, zL, zR, beq_iff_eq] at h_s))
    | (refine hF ?_; intro _; clear hF)
    | (refine hF ?_; cbv; clear hF)
    | (refine ⟨fun _ => ?_, ?_⟩; (· ((try simp only [nc] at *); first | done | omega | exact ⟨by omega, rfl⟩ | (simp (disch := (first | omega | (simp only [lnS, zA, zM, zG, zP]; omega))) only [nc, nct, w64_of, zT, zZ, zM, rdS, at_agg, bofZ, bof1, bof0, zC, zS]; first | done | omega | rfl | exact ⟨by omega, rfl⟩ | (simp; done) | (simp; omega)) | (intros; trivial))); (try (simp only [nc] at *)); (try simp (disch := (first | omega | (simp only [lnS, zA, zM, zG, zP]; omega))) only [nc, nct, w64_of, zT, zZ, zM, rdS, at_agg, bofZ, bof1, bof0, zC, zS]); (try cbv))
    | fail
  )
  all_goals first
    | (exfalso; revert h_s; simp; done)
    | (simp [is, ids, evss, idss, LV.of, LV.l]; done)
theorem keyL_succ (l : List EId) (k : Nat) : keyL l (k + 1) = if l.getD k id0 ∈ keyL l k then keyL l k else keyL l k ++ [l.getD k id0] := rfl
theorem mputK_key (K : List EId) (d : EId) (v : AV) (hv : v = aId d) (k : List Int) (hk : k = [d.t, d.i]) : mputK (mfind [.i, .i] (ids K) k) (ids K) v = ids (if d ∈ K then K else K ++ [d]) := by
  subst hk; subst hv
  rw [mfind_ids]
  by_cases h : d ∈ K
  · rw [if_pos h]
    cases e : K.findIdx? fun x => decide (x = d) with
    | none => have := find_mem K d; rw [e] at this; simp [h] at this
    | some i =>
      simp only [mputK]
  · rw [if_neg h, fresh_find h]
    simp [mputK, ids]
theorem mputV_un (K : List EId) (d : EId) (k : List Int) (hk : k = [d.t, d.i]) : mputV (mfind [.i, .i] (ids K) k) (unL K.length) (.agg []) = unL (if d ∈ K then K else K ++ [d]).length := by
  subst hk
  rw [mfind_ids]
  by_cases h : d ∈ K
  · rw [if_pos h]
    cases e : K.findIdx? fun x => decide (x = d) with
    | none => have := find_mem K d; rw [e] at this; simp [h] at this
    | some i =>
      simp [mputV, unL]
  · rw [if_neg h, fresh_find h]
    simp [mputV, unL, List.replicate_succ']
theorem pkeep_yes (hγ : γ 0 = some tabAV) (g : Gr) (hg : Rd g) (l : List EId) (hl : (l.length : Int) ≤ 17592186044416) (h : closedG g l = true) : Pure Tryd.prog γ false 15 [aGr g, .vs 2 fun _ => ids l] (.tup [aGr (keepM g l), .i fun _ => 0]) := by
  have kc := pclosedG_ok (γ := γ) hγ g hg l (by omega)
  rw [h] at kc
  have hgo : GOk g := by
    unfold closedG at h
    rw [Bool.and_eq_true, decide_eq_true_eq] at h
    exact h.1
  have hs := hgo.short
  have hin := hs.init
  have hth := hs.th
  have kl := clone_ok (γ := γ) g.init (by omega)
  have k0 : keyL l 0 = [] := rfl
  have kS := keyL_succ l
  have kL := keyL_len l
  refine Pure.goL (ty := ty) ty_eq mo Tryd.func15 rfl Tryd.ntmps15 Tryd.results15 Tryd.call15 (by simp) fun P C CQ D W F E hF => ?_
  refine E.cut 8 (told 125 [(1, .vs 2 fun _ => ids l), (2, .ptr 0 0), (4, .ptr 1 0), (9, .fn 28 [] [.ptr 3 0]), (10, .ptr 4 0)] [.box (aGr g), .box (.agg [.nils, .nils, .nils, .nils]), .map (fun _ => ids (keyL l l.length)) (fun _ => unL (keyL l l.length).length), .box (.mp 2), .box (.agg [.vs 1 fun _ => is g.init, .nils, .nils, .nils])]) (by kernel_rfl) (Nat.zero_le _) (fun I hI => ?_) ?_
  · cbv
    repeat' (first
      | (refine E.c (SCalls.of_le (kc) ?_ ?_); (· (cbv; (try simp only [nc] at *); first | done | (simp; done) | (simp (disch := (first | omega | (simp only [lnS, zA, zM, zG, zP]; omega))) only [nc, nct, w64_of, zT, zZ, zM, rdS, at_agg, bofZ, bof1, bof0, zC, zS, implies_true, and_true, true_and, forall_const]; first | done | omega | (refine ⟨?_, ?_⟩ <;> omega)) | (simp (disch := (first | omega | (simp only [lnS, zA, zM, zG, zP]; omega))) [nc, nct, w64_of, zT, zZ, zM, rdS, at_agg, bofZ, bof1, bof0, zC, zS]; done))); cbv)
      | (refine ⟨fun _ h_s => ?_, fun _ h_s => ?_⟩ <;> (cbv; (try simp only [nc] at *); try simp (disch := (first | omega | (simp only [lnS, zA, zM, zG, zP]; omega))) only [nc, nct, w64_of, zT, zZ, zM, rdS, at_agg, bofZ, bof1, bof0, zC, zS, reduceCtorEq, Bool.not_true, Bool.not_false, zD, zE, zB, zF, zN, zO, ne_eq, zQ, zL, zR, beq_iff_eq] at h_s))
      | (refine hF ?_; intro _; clear hF)
      | (refine hF ?_; cbv; clear hF)
      | (refine ⟨fun _ => ?_, ?_⟩; (· ((try simp only [nc] at *); first | done | omega | exact ⟨by omega, rfl⟩ | (simp (disch := (first | omega | (simp only [lnS, zA, zM, zG, zP]; omega))) only [nc, nct, w64_of, zT, zZ, zM, rdS, at_agg, bofZ, bof1, bof0, zC, zS]; first | done | omega | rfl | exact ⟨by omega, rfl⟩ | (simp; done) | (simp; omega)) | (intros; trivial))); (try (simp only [nc] at *)); (try simp (disch := (first | omega | (simp only [lnS, zA, zM, zG, zP]; omega))) only [nc, nct, w64_of, zT, zZ, zM, rdS, at_agg, bofZ, bof1, bof0, zC, zS]); (try cbv))
      | fail
    )
    refine E.loopS (ι := Nat) (fun i => i ≤ l.length) (fun i => l.length - i) (fun i => [(31, .i fun _ => ((i : Nat) : Int))]) (fun i h => h.set 2 (.map (fun _ => ids (keyL l i)) (fun _ => unL (keyL l i).length))) 0 (fun _ => by first | rfl | simp) (Nat.zero_le _) ?_ fun i hi I2 hI2 => ?_
    · cbv; simp [k0, unL, ids, LV.of]
    cbv
    have e1 := kS i
    have e2 := kL i
    repeat' (first
      | (refine E.c (SCalls.of_le (kl) ?_ ?_); (· (cbv; (try simp only [nc] at *); first | done | (simp; done) | (simp (disch := (first | omega | (simp only [lnS, zA, zM, zG, zP]; omega))) only [nc, nct, w64_of, zT, zZ, zM, rdS, at_agg, bofZ, bof1, bof0, zC, zS, implies_true, and_true, true_and, forall_const]; first | done | omega | (refine ⟨?_, ?_⟩ <;> omega)) | (simp (disch := (first | omega | (simp only [lnS, zA, zM, zG, zP]; omega))) [nc, nct, w64_of, zT, zZ, zM, rdS, at_agg, bofZ, bof1, bof0, zC, zS]; done))); cbv)
      | (refine E.q (QCalls.of_le (kl) ?_ ?_); (· (cbv; (try simp only [nc] at *); first | done | (simp; done) | (simp (disch := (first | omega | (simp only [lnS, zA, zM, zG, zP]; omega))) only [nc, nct, w64_of, zT, zZ, zM, rdS, at_agg, bofZ, bof1, bof0, zC, zS, implies_true, and_true, true_and, forall_const]; first | done | omega | (refine ⟨?_, ?_⟩ <;> omega)) | (simp (disch := (first | omega | (simp only [lnS, zA, zM, zG, zP]; omega))) [nc, nct, w64_of, zT, zZ, zM, rdS, at_agg, bofZ, bof1, bof0, zC, zS]; done))); cbv)
      | (refine hI2 (i + 1) ?_ ?_ ?_; rotate_left 1; (· ((try simp only [nc] at *); omega)); (cbv; clear hI2; (try clear hF); (try simp only [nc] at *); (try simp (disch := (first | omega | (simp only [lnS, zA, zM, zG, zP]; omega))) only [nc, nct, w64_of, zT, zZ, zM, rdS, at_agg, bofZ, bof1, bof0, zC, zS, implies_true, and_true, true_and, forall_const])); rotate_left 1; (try ((try simp only [nc] at *); omega)))
      | (refine ⟨fun _ h_s => ?_, fun _ h_s => ?_⟩ <;> (cbv; (try simp only [nc] at *); try simp (disch := (first | omega | (simp only [lnS, zA, zM, zG, zP]; omega))) only [nc, nct, w64_of, zT, zZ, zM, rdS, at_agg, bofZ, bof1, bof0, zC, zS, reduceCtorEq, Bool.not_true, Bool.not_false, zD, zE, zB, zF, zN, zO, ne_eq, zQ, zL, zR, beq_iff_eq] at h_s))
      | (refine hF ?_; intro _; clear hF)
      | (refine hF ?_; cbv; clear hF)
      | (refine ⟨fun _ => ?_, ?_⟩; (· ((try simp only [nc] at *); first | done | omega | exact ⟨by omega, rfl⟩ | (simp (disch := (first | omega | (simp only [lnS, zA, zM, zG, zP]; omega))) only [nc, nct, w64_of, zT, zZ, zM, rdS, at_agg, bofZ, bof1, bof0, zC, zS]; first | done | omega | rfl | exact ⟨by omega, rfl⟩ | (simp; done) | (simp; omega)) | (intros; trivial))); (try (simp only [nc] at *)); (try simp (disch := (first | omega | (simp only [lnS, zA, zM, zG, zP]; omega))) only [nc, nct, w64_of, zT, zZ, zM, rdS, at_agg, bofZ, bof1, bof0, zC, zS]); (try cbv))
      | fail
    )
    · refine ⟨fun _ => mok_ids _, ?_⟩
      refine hI2 (i + 1) (by ((try simp only [nc] at *); omega)) (by ((try simp only [nc] at *); omega)) ?_
      cbv
      clear hI2 hF
      (try simp only [nc] at *)
      (try simp (disch := (first | omega | (simp only [lnS, zA, zM, zG, zP]; omega))) only [nc, nct, w64_of, zT, zZ, zM, rdS, at_agg, bofZ, bof1, bof0, zC, zS, implies_true, and_true, true_and, forall_const])
      refine ⟨by push_cast; rfl, ?_, ?_⟩
      · rw [e1]; exact mputK_key _ _ _ rfl _ rfl
      · rw [e1]; exact mputV_un _ _ _ rfl
    · clear hI2
      have e : i = l.length := by ((try simp only [nc] at *); omega)
      subst e
      refine hI ?_
      cbv
      clear hI
      simp
  clear k0 kS kL kc kl
  have hK : ∀ d, d ∈ keyL l l.length ↔ d ∈ l := fun d => by rw [keyL_mem l d l.length (Nat.le_refl _), List.take_length]
  generalize keyL l l.length = K at *
  have kst : ∀ d, Pure Tryd.prog γ false 28 [aId d, .vp (fun _ => .vm (fun _ => ids K) (fun _ => unL K.length)) 0] (.b fun _ => decide (d ∈ l)) := fun d => by
    have k := pstays_ok (γ := γ) K K.length d
    rwa [show decide (d ∈ K) = decide (d ∈ l) from decide_eq_decide.2 (hK d)] at k
  obtain ⟨TH, hTH⟩ : ∃ TH : Nat → List (List Ev), ∀ n, TH n = (List.range n).map fun t => keepTh g l t (g.th.getD t []).length := ⟨_, fun _ => rfl⟩
  obtain ⟨FR, hFR⟩ : ∃ FR : Nat → List (List EId), ∀ n, FR n = (List.range n).map fun t => keepFr g l t (g.th.getD t []).length := ⟨_, fun _ => rfl⟩
  have hTH0 : TH 0 = [] := by rw [hTH]; rfl
  have hFR0 : FR 0 = [] := by rw [hFR]; rfl
  have hTHS : ∀ n, TH (n + 1) = TH n ++ [keepTh g l n (g.th.getD n []).length] := fun n => by rw [hTH, hTH, List.range_succ, List.map_append]; rfl
  have hFRS : ∀ n, FR (n + 1) = FR n ++ [keepFr g l n (g.th.getD n []).length] := fun n => by rw [hFR, hFR, List.range_succ, List.map_append]; rfl
  have hTHl : ∀ n, (TH n).length = n := fun n => by rw [hTH]; simp
  have hFRl : ∀ n, (FR n).length = n := fun n => by rw [hFR]; simp
  obtain ⟨EV, hEV⟩ : ∃ EV : Nat → Nat → List Ev, ∀ t i, EV t i = keepTh g l t i := ⟨_, fun _ _ => rfl⟩
  obtain ⟨FE, hFE⟩ : ∃ FE : Nat → Nat → List EId, ∀ t i, FE t i = keepFr g l t i := ⟨_, fun _ _ => rfl⟩
  have hEV0 : ∀ t, EV t 0 = [] := fun t => by rw [hEV]; rfl
  have hFE0 : ∀ t, FE t 0 = [] := fun t => by rw [hFE]; rfl
  have hEVS : ∀ t i, EV t (i + 1) = EV t i ++ if (⟨(t : Int) + 1, (i : Int)⟩ : EId) ∈ l then [(g.th.getD t []).getD i ev0] else [] := fun t i => by rw [hEV, hEV, keepTh_succ]
  have hFES : ∀ t i, FE t (i + 1) = FE t i ++ if (⟨(t : Int) + 1, (i : Int)⟩ : EId) ∈ l then [(g.fr.getD t []).getD i id0] else [] := fun t i => by rw [hFE, hFE, keepFr_succ]
  have hEVl : ∀ t i, (EV t i).length ≤ i := fun t i => by rw [hEV]; unfold keepTh; rw [List.length_map]; exact keepP_len l t i
  have hFEl : ∀ t i, (FE t i).length = (EV t i).length := fun t i => by rw [hFE, hEV]; unfold keepTh keepFr; rw [List.length_map, List.length_map]
  simp only [← hEV, ← hFE] at hTHS hFRS
  obtain ⟨G, hG⟩ : ∃ G : Nat → Nat, ∀ x, G x = x := ⟨_, fun _ => rfl⟩
  have hG0 : G 0 = 0 := hG 0
  have hle := hs.at
  obtain ⟨HP, hHP⟩ : ∃ HP : Nat → List Blk, ∀ t, HP t = [.box (aGr g), .box (.agg [.nils, .nils, .nils, .nils]), .map (fun _ => ids K) (fun _ => unL K.length), .box (.mp 2), .box (.agg [.vs 1 fun _ => is g.init, .sl 5 (G t) 1 (fun _ => 0) fun _ => t, .sl 6 (G t) 1 (fun _ => 0) fun _ => t, .nils]), .run (G t) 1 fun _ => evss (TH t), .run (G t) 1 fun _ => idss (FR t)] := ⟨_, fun _ => rfl⟩
  clear hHP HP
  refine E.cut 2 (told 125 [(1, .vs 2 fun _ => ids l), (2, .ptr 0 0), (4, .ptr 1 0), (9, .fn 28 [] [.ptr 3 0]), (10, .ptr 4 0)] [.box (aGr g), .box (.agg [.nils, .nils, .nils, .nils]), .map (fun _ => ids K) (fun _ => unL K.length), .box (.mp 2), .box (.agg [.vs 1 fun _ => is g.init, .vs 1 fun _ => evss (TH g.th.length), .vs 1 fun _ => idss (FR g.th.length), .nils])]) (by kernel_rfl) (Nat.zero_le _) (fun I hI => ?_) ?_
  · cbv
    refine E.w (AWP.ghostField 4 1 1 rfl rfl ?_)
    refine AWP.ghostField 4 2 1 rfl rfl ?_
    refine E.loopCA (ι := Nat) (fun t => t ≤ g.th.length) (fun t => g.th.length - t) (fun t => [(47, .i fun _ => ((t : Nat) : Int))]) (fun t => [.box (aGr g), .box (.agg [.nils, .nils, .nils, .nils]), .map (fun _ => ids K) (fun _ => unL K.length), .box (.mp 2), .box (.agg [.vs 1 fun _ => is g.init, .sl 5 (G t) 1 (fun _ => 0) fun _ => t, .sl 6 (G t) 1 (fun _ => 0) fun _ => t, .nils]), .run (G t) 1 fun _ => evss (TH t), .run (G t) 1 fun _ => idss (FR t)]) 0 rfl (fun _ => rfl) (Nat.zero_le _) ?_ fun t ht I2 hI2 => ?_
    · cbv; simp [hG0, hTH0, hFR0, evss, idss, LV.of]
    refine E.cutI (ι := Unit) 2 (fun _ => t < g.th.length) (fun _ => told 125 [(1, .vs 2 fun _ => ids l), (2, .ptr 0 0), (4, .ptr 1 0), (9, .fn 28 [] [.ptr 3 0]), (10, .ptr 4 0), (44, .ptr 0 1), (45, .vs 1 fun _ => evss g.th), (46, .i fun _ => (g.th.length : Int)), (47, .i fun _ => ((t : Nat) : Int))] [.box (aGr g), .box (.agg [.nils, .nils, .nils, .nils]), .map (fun _ => ids K) (fun _ => unL K.length), .box (.mp 2), .box (.agg [.vs 1 fun _ => is g.init, .sl 5 (G t) 1 (fun _ => 0) fun _ => t, .sl 6 (G t) 1 (fun _ => 0) fun _ => t, .nils]), .run (G t) 1 fun _ => evss (TH t), .run (G t) 1 fun _ => idss (FR t)]) (by kernel_rfl) (fun _ => Nat.le_refl _) (fun I3 hI3 => ?_) fun _ ht2 => ?_
    · cbv
      repeat' (first
        | (refine ⟨fun _ h_s => ?_, fun _ h_s => ?_⟩ <;> (cbv; (try simp only [nc] at *); try simp (disch := (first | omega | (simp only [lnS, zA, zM, zG, zP]; omega))) only [nc, nct, w64_of, zT, zZ, zM, rdS, at_agg, bofZ, bof1, bof0, zC, zS, reduceCtorEq, Bool.not_true, Bool.not_false, zD, zE, zB, zF, zN, zO, ne_eq, zQ, zL, zR, beq_iff_eq] at h_s))
        | (refine hF ?_; intro _; clear hF)
        | (refine hF ?_; cbv; clear hF)
        | (refine ⟨fun _ => ?_, ?_⟩; (· ((try simp only [nc] at *); first | done | omega | exact ⟨by omega, rfl⟩ | (simp (disch := (first | omega | (simp only [lnS, zA, zM, zG, zP]; omega))) only [nc, nct, w64_of, zT, zZ, zM, rdS, at_agg, bofZ, bof1, bof0, zC, zS]; first | done | omega | rfl | exact ⟨by omega, rfl⟩ | (simp; done) | (simp; omega)) | (intros; trivial))); (try (simp only [nc] at *)); (try simp (disch := (first | omega | (simp only [lnS, zA, zM, zG, zP]; omega))) only [nc, nct, w64_of, zT, zZ, zM, rdS, at_agg, bofZ, bof1, bof0, zC, zS]); (try cbv))
        | fail
      )
      · refine hI3 () (by ((try simp only [nc] at *); omega)) ?_
        cbv; simp
      · refine hI ?_
        have e : t = g.th.length := by ((try simp only [nc] at *); omega)
        subst e
        cbv
        have q1 := hTHl g.th.length
        have q2 := hFRl g.th.length
        simp only [evss_len, idss_len, q1, q2]
        simp
        exact ⟨List.take_of_length_le (by simp [q1]), List.take_of_length_le (by simp [q2])⟩
    have hTt := hTHl t
    have hFt := hFRl t
    have hle0 := hle t
    refine AWPl.block ?_
    refine E.cut 5 (told 125 [(1, .vs 2 fun _ => ids l), (2, .ptr 0 0), (4, .ptr 1 0), (9, .fn 28 [] [.ptr 3 0]), (10, .ptr 4 0), (12, .vs 5 fun _ => evs (EV t (g.th.getD t []).length)), (13, .vs 2 fun _ => ids (FE t (g.th.getD t []).length)), (44, .ptr 0 1), (45, .vs 1 fun _ => evss g.th), (46, .i fun _ => (g.th.length : Int)), (47, .i fun _ => ((t : Nat) : Int))] [.box (aGr g), .box (.agg [.nils, .nils, .nils, .nils]), .map (fun _ => ids K) (fun _ => unL K.length), .box (.mp 2), .box (.agg [.vs 1 fun _ => is g.init, .sl 5 (G t) 1 (fun _ => 0) fun _ => t, .sl 6 (G t) 1 (fun _ => 0) fun _ => t, .nils]), .run (G t) 1 fun _ => evss (TH t), .run (G t) 1 fun _ => idss (FR t)]) (by kernel_rfl) (Nat.le_refl _) (fun I3 hI3 => ?_) (E.blk ?_)
    · cbv
      repeat' (first
        | (refine ⟨fun _ h_s => ?_, fun _ h_s => ?_⟩ <;> (cbv; (try simp only [nc] at *); try simp (disch := (first | omega | (simp only [lnS, zA, zM, zG, zP]; omega))) only [nc, nct, w64_of, zT, zZ, zM, rdS, at_agg, bofZ, bof1, bof0, zC, zS, reduceCtorEq, Bool.not_true, Bool.not_false, zD, zE, zB, zF, zN, zO, ne_eq, zQ, zL, zR, beq_iff_eq] at h_s))
        | (refine hF ?_; intro _; clear hF)
        | (refine hF ?_; cbv; clear hF)
        | (refine ⟨fun _ => ?_, ?_⟩; (· ((try simp only [nc] at *); first | done | omega | exact ⟨by omega, rfl⟩ | (simp (disch := (first | omega | (simp only [lnS, zA, zM, zG, zP]; omega))) only [nc, nct, w64_of, zT, zZ, zM, rdS, at_agg, bofZ, bof1, bof0, zC, zS]; first | done | omega | rfl | exact ⟨by omega, rfl⟩ | (simp; done) | (simp; omega)) | (intros; trivial))); (try (simp only [nc] at *)); (try simp (disch := (first | omega | (simp only [lnS, zA, zM, zG, zP]; omega))) only [nc, nct, w64_of, zT, zZ, zM, rdS, at_agg, bofZ, bof1, bof0, zC, zS]); (try cbv))
        | fail
      )
      refine E.w (AWP.ghostSlot 12 5 rfl (by omega) ?_)
      refine AWP.ghostSlot 13 2 rfl (by omega) ?_
      refine E.loopSA (ι := Nat) (fun i => i ≤ (g.th.getD t []).length) (fun i => (g.th.getD t []).length - i) (fun i => [(12, .sl 7 (G (EV t i).length) 5 (fun _ => 0) fun _ => (EV t i).length), (13, .sl 8 (G (EV t i).length) 2 (fun _ => 0) fun _ => (EV t i).length), (56, .i fun _ => ((i : Nat) : Int))]) (fun i h => (h.set 7 (.run (G (EV t i).length) 5 fun _ => evs (EV t i))).set 8 (.run (G (EV t i).length) 2 fun _ => ids (FE t i))) 0 (fun _ => by first | rfl | simp) (Nat.zero_le _) ?_ fun i hi I4 hI4 => ?_
      · cbv; simp [hG0, hEV0, hFE0, evs, ids, LV.of]
      cbv
      have hfl : g.fr.length = g.th.length := hgo.lfr
      have hfe : (g.fr.getD t []).length = (g.th.getD t []).length := (hgo.events t ht2).1
      have f1 := hEVS t i
      have f2 := hFES t i
      have f3 := hEVl t i
      have f4 := hFEl t i
      skip
      repeat' (first
        | (refine hI4 (i + 1) ?_ ?_ ?_; rotate_left 1; (· ((try simp only [nc] at *); omega)); (cbv; clear hI4; (try clear hF); (try simp only [nc] at *); (try simp (disch := (first | omega | (simp only [lnS, zA, zM, zG, zP]; omega))) only [nc, nct, w64_of, zT, zZ, zM, rdS, at_agg, bofZ, bof1, bof0, zC, zS, implies_true, and_true, true_and, forall_const])); rotate_left 1; (try ((try simp only [nc] at *); omega)))
        | (refine E.de 14 [7, 8] [] (by decide +kernel) ?_; cbv; (fail_if_success guard_target =~ False))
        | (refine E.c (SCalls.of_bare (kst ⟨t + 1, i⟩) rfl ?_ ?_); (· (cbv; (try simp only [nc] at *); first | done | (simp; done) | (simp (disch := (first | omega | (simp only [lnS, zA, zM, zG, zP]; omega))) only [nc, nct, w64_of, zT, zZ, zM, rdS, at_agg, bofZ, bof1, bof0, zC, zS, implies_true, and_true, true_and, forall_const]; first | done | omega | (refine ⟨?_, ?_⟩ <;> omega)) | (simp (disch := (first | omega | (simp only [lnS, zA, zM, zG, zP]; omega))) [nc, nct, w64_of, zT, zZ, zM, rdS, at_agg, bofZ, bof1, bof0, zC, zS]; done))); cbv)
        | (refine E.q (QCalls.of_bare (kst ⟨t + 1, i⟩) rfl ?_ ?_); (· (cbv; (try simp only [nc] at *); first | done | (simp; done) | (simp (disch := (first | omega | (simp only [lnS, zA, zM, zG, zP]; omega))) only [nc, nct, w64_of, zT, zZ, zM, rdS, at_agg, bofZ, bof1, bof0, zC, zS, implies_true, and_true, true_and, forall_const]; first | done | omega | (refine ⟨?_, ?_⟩ <;> omega)) | (simp (disch := (first | omega | (simp only [lnS, zA, zM, zG, zP]; omega))) [nc, nct, w64_of, zT, zZ, zM, rdS, at_agg, bofZ, bof1, bof0, zC, zS]; done))); cbv)
        | (refine ⟨fun _ h_s => ?_, fun _ h_s => ?_⟩ <;> (cbv; (try simp only [nc] at *); try simp (disch := (first | omega | (simp only [lnS, zA, zM, zG, zP]; omega))) only [nc, nct, w64_of, zT, zZ, zM, rdS, at_agg, bofZ, bof1, bof0, zC, zS, reduceCtorEq, Bool.not_true, Bool.not_false, zD, zE, zB, zF, zN, zO, ne_eq, zQ, zL, zR, beq_iff_eq] at h_s))
        | (refine hF ?_; intro _; clear hF)
        | (refine hF ?_; cbv; clear hF)
        | (refine ⟨fun _ => ?_, ?_⟩; (· ((try simp only [nc] at *); first | done | omega | exact ⟨by omega, rfl⟩ | (simp (disch := (first | omega | (simp only [lnS, zA, zM, zG, zP]; omega))) only [nc, nct, w64_of, zT, zZ, zM, rdS, at_agg, bofZ, bof1, bof0, zC, zS]; first | done | omega | rfl | exact ⟨by omega, rfl⟩ | (simp; done) | (simp; omega)) | (intros; trivial) | exact ⟨by first | trivial | rfl, by first | trivial | rfl | simp, by first | trivial | (simp; done) | (simp [f4]; done) | (simp [*]; done), by simp; omega, by simp; omega, by simp [AV.flat, AV.cells, AV.one]⟩)); (try (simp only [nc] at *)); (try simp (disch := (first | omega | (simp only [lnS, zA, zM, zG, zP]; omega))) only [nc, nct, w64_of, zT, zZ, zM, rdS, at_agg, bofZ, bof1, bof0, zC, zS]); (try cbv))
        | fail
      )
      · have hm : (⟨(t : Int) + 1, (i : Int)⟩ : EId) ∈ l := by simpa using h_s
        rw [if_pos hm] at f1 f2
        simp [hG, f1, f2, evs, ids, setAll, AV.nrm, nrms, nrm1]
      · have hm : (⟨(t : Int) + 1, (i : Int)⟩ : EId) ∉ l := by simpa using h_s
        rw [if_neg hm, List.append_nil] at f1 f2
        simp [f1, f2]
      · clear hI4
        have e : i = (g.th.getD t []).length := by ((try simp only [nc] at *); omega)
        subst e
        refine hI3 ?_
        cbv
        have q := hFEl t (g.th.getD t []).length
        have q1 : List.take (EV t (g.th.getD t []).length).length (evs (EV t (g.th.getD t []).length)).l = (evs (EV t (g.th.getD t []).length)).l := List.take_of_length_le (by rw [evs_len]; exact Nat.le_refl _)
        have q2 : List.take (EV t (g.th.getD t []).length).length (ids (FE t (g.th.getD t []).length)).l = (ids (FE t (g.th.getD t []).length)).l := List.take_of_length_le (by rw [ids_len, q]; exact Nat.le_refl _)
        simp only [evs_len, ids_len, q, List.drop_zero, q1, q2, and_self, implies_true, Nat.zero_add, Nat.le_refl]
    cbv
    have f1 := hTHS t
    have f2 := hFRS t
    repeat' (first
      | (refine hI2 (t + 1) ?_ ?_ ?_; rotate_left 1; (· ((try simp only [nc] at *); omega)); (cbv; clear hI2; (try clear hF); (try simp only [nc] at *); (try simp (disch := (first | omega | (simp only [lnS, zA, zM, zG, zP]; omega))) only [nc, nct, w64_of, zT, zZ, zM, rdS, at_agg, bofZ, bof1, bof0, zC, zS, implies_true, and_true, true_and, forall_const])); rotate_left 1; (try ((try simp only [nc] at *); omega)))
      | (refine E.de 11 [5, 6] [] (by decide +kernel) ?_; cbv; (fail_if_success guard_target =~ False))
      | (refine ⟨fun _ h_s => ?_, fun _ h_s => ?_⟩ <;> (cbv; (try simp only [nc] at *); try simp (disch := (first | omega | (simp only [lnS, zA, zM, zG, zP]; omega))) only [nc, nct, w64_of, zT, zZ, zM, rdS, at_agg, bofZ, bof1, bof0, zC, zS, reduceCtorEq, Bool.not_true, Bool.not_false, zD, zE, zB, zF, zN, zO, ne_eq, zQ, zL, zR, beq_iff_eq] at h_s))
      | (refine hF ?_; intro _; clear hF)
      | (refine hF ?_; cbv; clear hF)
      | (refine ⟨fun _ => ?_, ?_⟩; (· ((try simp only [nc] at *); first | done | omega | exact ⟨by omega, rfl⟩ | (simp (disch := (first | omega | (simp only [lnS, zA, zM, zG, zP]; omega))) only [nc, nct, w64_of, zT, zZ, zM, rdS, at_agg, bofZ, bof1, bof0, zC, zS]; first | done | omega | rfl | exact ⟨by omega, rfl⟩ | (simp; done) | (simp; omega)) | (intros; trivial) | exact ⟨by first | trivial | rfl, by first | trivial | rfl | simp, by first | trivial | (simp; done) | (simp [f4]; done) | (simp [*]; done), by simp; omega, by simp; omega, by simp [AV.flat, AV.cells, AV.one]⟩)); (try (simp only [nc] at *)); (try simp (disch := (first | omega | (simp only [lnS, zA, zM, zG, zP]; omega))) only [nc, nct, w64_of, zT, zZ, zM, rdS, at_agg, bofZ, bof1, bof0, zC, zS]); (try cbv))
      | fail
    )
    simp [hG, f1, f2, evss, idss, setAll, AV.nrm, nrms, nrm1]
  have hTHe : TH g.th.length = (keepM g l).th := hTH _
  have hFRe : FR g.th.length = (keepM g l).fr := hFR _
  rw [hTHe, hFRe]
  have hki : (keepM g l).init = g.init := rfl
  obtain ⟨OR, hOR⟩ : ∃ OR : Nat → List (List EId), ∀ n, OR n = (g.ord.take n).map (keepO l) := ⟨_, fun _ => rfl⟩
  obtain ⟨OE, hOE⟩ : ∃ OE : Nat → Nat → List EId, ∀ x i, OE x i = keepO l ((g.ord.getD x []).take i) := ⟨_, fun _ _ => rfl⟩
  have hOR0 : OR 0 = [] := by rw [hOR]; rfl
  have hORS : ∀ n, n < g.ord.length → OR (n + 1) = OR n ++ [OE n (g.ord.getD n []).length] := fun n hn => by rw [hOR, hOR, hOE, take_succ' _ n [] hn, List.map_append, List.take_length]; rfl
  have hORl : ∀ n, n ≤ g.ord.length → (OR n).length = n := fun n hn => by rw [hOR]; simp; omega
  have hORe : OR g.ord.length = (keepM g l).ord := by rw [hOR, List.take_length]; rfl
  have hOE0 : ∀ x, OE x 0 = [] := fun x => by rw [hOE]; rfl
  have hOES : ∀ x i, i < (g.ord.getD x []).length → OE x (i + 1) = OE x i ++ if (g.ord.getD x []).getD i id0 ∈ l then [(g.ord.getD x []).getD i id0] else [] := fun x i hi => by
    rw [hOE, hOE, take_succ' _ i id0 hi]
    unfold keepO
    rw [List.filter_append]
    congr 1
    by_cases h : (g.ord.getD x []).getD i id0 ∈ l
    · rw [if_pos h, List.filter_cons_of_pos (by simpa using h)]; rfl
    · rw [if_neg h, List.filter_cons_of_neg (by simpa using h)]; rfl
  have hOEl : ∀ x i, (OE x i).length ≤ i := fun x i => by rw [hOE]; unfold keepO; exact Nat.le_trans (List.length_filter_le _ _) (by simp; omega)
  clear hTH hFR hTH0 hFR0 hTHS hFRS hTHl hFRl hTHe hFRe hEV hFE hEV0 hFE0 hEVS hFES hEVl hFEl
  clear TH FR EV FE
  rw [← hki]
  have hol : g.ord.length ≤ 6 := by have := hgo.lord; omega
  obtain ⟨k, hk⟩ : ∃ k, keepM g l = k := ⟨_, rfl⟩
  rw [hk] at hki hORe ⊢
  have hcn : ∀ x, x < g.ord.length → (g.ord.getD x []).length ≤ 56 := fun x hx => by
    have h1 := hgo.orders x (by rw [← hgo.lord]; exact hx)
    unfold orderedM at h1
    rw [Bool.and_eq_true, decide_eq_true_eq, decide_eq_true_eq] at h1
    have h2 := cntT_le (x : Int) hs.ths
    omega
  refine E.bl ?_
  cbv
  refine E.w (AWP.ghostField 4 3 1 rfl rfl ?_)
  refine E.loopCA (ι := Nat) (fun x => x ≤ g.ord.length) (fun x => g.ord.length - x) (fun x => [(99, .i fun _ => ((x : Nat) : Int))]) (fun x => [.box (aGr g), .box (.agg [.nils, .nils, .nils, .nils]), .map (fun _ => ids K) (fun _ => unL K.length), .box (.mp 2), .box (.agg [.vs 1 fun _ => is k.init, .vs 1 fun _ => evss k.th, .vs 1 fun _ => idss k.fr, .sl 5 (G x) 1 (fun _ => 0) fun _ => x]), .run (G x) 1 fun _ => idss (OR x)]) 0 rfl (fun _ => rfl) (Nat.zero_le _) ?_ fun x hx I2 hI2 => ?_
  · cbv; simp [hG0, hOR0, idss, LV.of]
  refine E.cutI (ι := Unit) 2 (fun _ => x < g.ord.length) (fun _ => told 125 [(1, .vs 2 fun _ => ids l), (2, .ptr 0 0), (4, .ptr 1 0), (9, .fn 28 [] [.ptr 3 0]), (10, .ptr 4 0), (96, .ptr 0 3), (97, .vs 1 fun _ => idss g.ord), (98, .i fun _ => (g.ord.length : Int)), (99, .i fun _ => ((x : Nat) : Int))] [.box (aGr g), .box (.agg [.nils, .nils, .nils, .nils]), .map (fun _ => ids K) (fun _ => unL K.length), .box (.mp 2), .box (.agg [.vs 1 fun _ => is k.init, .vs 1 fun _ => evss k.th, .vs 1 fun _ => idss k.fr, .sl 5 (G x) 1 (fun _ => 0) fun _ => x]), .run (G x) 1 fun _ => idss (OR x)]) (by kernel_rfl) (fun _ => Nat.le_refl _) (fun I3 hI3 => ?_) fun _ hx2 => ?_
  · cbv
    repeat' (first
      | (refine ⟨fun _ h_s => ?_, fun _ h_s => ?_⟩ <;> (cbv; (try simp only [nc] at *); try simp (disch := (first | omega | (simp only [lnS, zA, zM, zG, zP]; omega))) only [nc, nct, w64_of, zT, zZ, zM, rdS, at_agg, bofZ, bof1, bof0, zC, zS, reduceCtorEq, Bool.not_true, Bool.not_false, zD, zE, zB, zF, zN, zO, ne_eq, zQ, zL, zR, beq_iff_eq] at h_s))
      | (refine hF ?_; intro _; clear hF)
      | (refine hF ?_; cbv; clear hF)
      | (refine ⟨fun _ => ?_, ?_⟩; (· ((try simp only [nc] at *); first | done | omega | exact ⟨by omega, rfl⟩ | (simp (disch := (first | omega | (simp only [lnS, zA, zM, zG, zP]; omega))) only [nc, nct, w64_of, zT, zZ, zM, rdS, at_agg, bofZ, bof1, bof0, zC, zS]; first | done | omega | rfl | exact ⟨by omega, rfl⟩ | (simp; done) | (simp; omega)) | (intros; trivial) | exact ⟨by first | trivial | rfl, by first | trivial | rfl | simp, by first | trivial | (simp; done) | (simp [f4]; done) | (simp [*]; done), by simp; omega, by simp; omega, by simp [AV.flat, AV.cells, AV.one]⟩)); (try (simp only [nc] at *)); (try simp (disch := (first | omega | (simp only [lnS, zA, zM, zG, zP]; omega))) only [nc, nct, w64_of, zT, zZ, zM, rdS, at_agg, bofZ, bof1, bof0, zC, zS]); (try cbv))
      | fail
    )
    · refine hI3 () (by ((try simp only [nc] at *); omega)) ?_
      cbv; simp
    · have e : x = g.ord.length := by ((try simp only [nc] at *); omega)
      subst e
      have q1 := hORl g.ord.length (Nat.le_refl _)
      have q2 : List.take g.ord.length (idss (OR g.ord.length)).l = (idss (OR g.ord.length)).l := List.take_of_length_le (by rw [idss_len, q1]; exact Nat.le_refl _)
      cbv
      simp only [hk, ← hORe]
      simp only [idss_len, q1, List.drop_zero, q2]
      simp
  have hOx := hORl x hx
  have hcx := hcn x hx2
  refine AWPl.block ?_
  refine E.cut 4 (told 125 [(1, .vs 2 fun _ => ids l), (2, .ptr 0 0), (4, .ptr 1 0), (9, .fn 28 [] [.ptr 3 0]), (10, .ptr 4 0), (18, .vs 2 fun _ => ids (OE x (g.ord.getD x []).length)), (96, .ptr 0 3), (97, .vs 1 fun _ => idss g.ord), (98, .i fun _ => (g.ord.length : Int)), (99, .i fun _ => ((x : Nat) : Int))] [.box (aGr g), .box (.agg [.nils, .nils, .nils, .nils]), .map (fun _ => ids K) (fun _ => unL K.length), .box (.mp 2), .box (.agg [.vs 1 fun _ => is k.init, .vs 1 fun _ => evss k.th, .vs 1 fun _ => idss k.fr, .sl 5 (G x) 1 (fun _ => 0) fun _ => x]), .run (G x) 1 fun _ => idss (OR x)]) (by kernel_rfl) (Nat.le_refl _) (fun I3 hI3 => ?_) (E.blk ?_)
  · cbv
    repeat' (first
      | (refine ⟨fun _ h_s => ?_, fun _ h_s => ?_⟩ <;> (cbv; (try simp only [nc] at *); try simp (disch := (first | omega | (simp only [lnS, zA, zM, zG, zP]; omega))) only [nc, nct, w64_of, zT, zZ, zM, rdS, at_agg, bofZ, bof1, bof0, zC, zS, reduceCtorEq, Bool.not_true, Bool.not_false, zD, zE, zB, zF, zN, zO, ne_eq, zQ, zL, zR, beq_iff_eq] at h_s))
      | (refine hF ?_; intro _; clear hF)
      | (refine hF ?_; cbv; clear hF)
      | (refine ⟨fun _ => ?_, ?_⟩; (· ((try simp only [nc] at *); first | done | omega | exact ⟨by omega, rfl⟩ | (simp (disch := (first | omega | (simp only [lnS, zA, zM, zG, zP]; omega))) only [nc, nct, w64_of, zT, zZ, zM, rdS, at_agg, bofZ, bof1, bof0, zC, zS]; first | done | omega | rfl | exact ⟨by omega, rfl⟩ | (simp; done) | (simp; omega)) | (intros; trivial) | exact ⟨by first | trivial | rfl, by first | trivial | rfl | simp, by first | trivial | (simp; done) | (simp [f4]; done) | (simp [*]; done), by simp; omega, by simp; omega, by simp [AV.flat, AV.cells, AV.one]⟩)); (try (simp only [nc] at *)); (try simp (disch := (first | omega | (simp only [lnS, zA, zM, zG, zP]; omega))) only [nc, nct, w64_of, zT, zZ, zM, rdS, at_agg, bofZ, bof1, bof0, zC, zS]); (try cbv))
      | fail
    )
    refine E.w (AWP.ghostSlot 18 2 rfl (by omega) (E.loopSA (ι := Nat) (fun i => i ≤ (g.ord.getD x []).length) (fun i => (g.ord.getD x []).length - i) (fun i => [(105, .i fun _ => ((i : Nat) : Int)), (18, .sl 6 (G (OE x i).length) 2 (fun _ => 0) fun _ => (OE x i).length)]) (fun i h => h.set 6 (.run (G (OE x i).length) 2 fun _ => ids (OE x i))) 0 (fun _ => by first | rfl | simp) (Nat.zero_le _) ?_ fun i hi I4 hI4 => ?_))
    · cbv; simp [hG0, hOE0, ids, LV.of]
    cbv
    have f1 := hOES x i
    have f3 := hOEl x i
    repeat' (first
      | (refine hI4 (i + 1) ?_ ?_ ?_; rotate_left 1; (· ((try simp only [nc] at *); omega)); (cbv; clear hI4; (try clear hF); (try simp only [nc] at *); (try simp (disch := (first | omega | (simp only [lnS, zA, zM, zG, zP]; omega))) only [nc, nct, w64_of, zT, zZ, zM, rdS, at_agg, bofZ, bof1, bof0, zC, zS, implies_true, and_true, true_and, forall_const])); rotate_left 1; (try ((try simp only [nc] at *); omega)))
      | (refine E.c (SCalls.of_bare (kst ((g.ord.getD x []).getD i id0)) rfl ?_ ?_); (· (cbv; (try simp only [nc] at *); first | done | (simp; done) | (simp (disch := (first | omega | (simp only [lnS, zA, zM, zG, zP]; omega))) only [nc, nct, w64_of, zT, zZ, zM, rdS, at_agg, bofZ, bof1, bof0, zC, zS, implies_true, and_true, true_and, forall_const]; first | done | omega | (refine ⟨?_, ?_⟩ <;> omega)) | (simp (disch := (first | omega | (simp only [lnS, zA, zM, zG, zP]; omega))) [nc, nct, w64_of, zT, zZ, zM, rdS, at_agg, bofZ, bof1, bof0, zC, zS]; done))); cbv)
      | (refine E.q (QCalls.of_bare (kst ((g.ord.getD x []).getD i id0)) rfl ?_ ?_); (· (cbv; (try simp only [nc] at *); first | done | (simp; done) | (simp (disch := (first | omega | (simp only [lnS, zA, zM, zG, zP]; omega))) only [nc, nct, w64_of, zT, zZ, zM, rdS, at_agg, bofZ, bof1, bof0, zC, zS, implies_true, and_true, true_and, forall_const]; first | done | omega | (refine ⟨?_, ?_⟩ <;> omega)) | (simp (disch := (first | omega | (simp only [lnS, zA, zM, zG, zP]; omega))) [nc, nct, w64_of, zT, zZ, zM, rdS, at_agg, bofZ, bof1, bof0, zC, zS]; done))); cbv)
      | (refine ⟨fun _ h_s => ?_, fun _ h_s => ?_⟩ <;> (cbv; (try simp only [nc] at *); try simp (disch := (first | omega | (simp only [lnS, zA, zM, zG, zP]; omega))) only [nc, nct, w64_of, zT, zZ, zM, rdS, at_agg, bofZ, bof1, bof0, zC, zS, reduceCtorEq, Bool.not_true, Bool.not_false, zD, zE, zB, zF, zN, zO, ne_eq, zQ, zL, zR, beq_iff_eq] at h_s))
      | (refine hF ?_; intro _; clear hF)
      | (refine hF ?_; cbv; clear hF)
      | (refine ⟨fun _ => ?_, ?_⟩; (· ((try simp only [nc] at *); first | done | omega | exact ⟨by omega, rfl⟩ | (simp (disch := (first | omega | (simp only [lnS, zA, zM, zG, zP]; omega))) only [nc, nct, w64_of, zT, zZ, zM, rdS, at_agg, bofZ, bof1, bof0, zC, zS]; first | done | omega | rfl | exact ⟨by omega, rfl⟩ | (simp; done) | (simp; omega)) | (intros; trivial) | exact ⟨by first | trivial | rfl, by first | trivial | rfl | simp, by first | trivial | (simp; done) | (simp [f4]; done) | (simp [*]; done), by simp; omega, by simp; omega, by simp [AV.flat, AV.cells, AV.one]⟩)); (try (simp only [nc] at *)); (try simp (disch := (first | omega | (simp only [lnS, zA, zM, zG, zP]; omega))) only [nc, nct, w64_of, zT, zZ, zM, rdS, at_agg, bofZ, bof1, bof0, zC, zS]); (try cbv))
      | fail
    )
    · have hm : (g.ord.getD x []).getD i id0 ∈ l := by simpa using h_s
      rw [f1 (by ((try simp only [nc] at *); omega)), if_pos hm]
      simp [hG, ids, setAll, AV.nrm, nrms, nrm1]
    · have hm : (g.ord.getD x []).getD i id0 ∉ l := by simpa using h_s
      rw [f1 (by ((try simp only [nc] at *); omega)), if_neg hm, List.append_nil]
      simp
    · clear hI4
      have e : i = (g.ord.getD x []).length := by ((try simp only [nc] at *); omega)
      subst e
      refine hI3 ?_
      cbv
      have q2 : List.take (OE x (g.ord.getD x []).length).length (ids (OE x (g.ord.getD x []).length)).l = (ids (OE x (g.ord.getD x []).length)).l := List.take_of_length_le (by rw [ids_len]; exact Nat.le_refl _)
      simp only [ids_len, List.drop_zero, q2, and_self, implies_true, Nat.zero_add, Nat.le_refl]
  cbv
  have f1 := hORS x hx2
  repeat' (first
    | (refine hI2 (x + 1) ?_ ?_ ?_; rotate_left 1; (· ((try simp only [nc] at *); omega)); (cbv; clear hI2; (try clear hF); (try simp only [nc] at *); (try simp (disch := (first | omega | (simp only [lnS, zA, zM, zG, zP]; omega))) only [nc, nct, w64_of, zT, zZ, zM, rdS, at_agg, bofZ, bof1, bof0, zC, zS, implies_true, and_true, true_and, forall_const])); rotate_left 1; (try ((try simp only [nc] at *); omega)))
    | (refine ⟨fun _ h_s => ?_, fun _ h_s => ?_⟩ <;> (cbv; (try simp only [nc] at *); try simp (disch := (first | omega | (simp only [lnS, zA, zM, zG, zP]; omega))) only [nc, nct, w64_of, zT, zZ, zM, rdS, at_agg, bofZ, bof1, bof0, zC, zS, reduceCtorEq, Bool.not_true, Bool.not_false, zD, zE, zB, zF, zN, zO, ne_eq, zQ, zL, zR, beq_iff_eq] at h_s))
    | (refine hF ?_; intro _; clear hF)
    | (refine hF ?_; cbv; clear hF)
    | (refine ⟨fun _ => ?_, ?_⟩; (· ((try simp only [nc] at *); first | done | omega | exact ⟨by omega, rfl⟩ | (simp (disch := (first | omega | (simp only [lnS, zA, zM, zG, zP]; omega))) only [nc, nct, w64_of, zT, zZ, zM, rdS, at_agg, bofZ, bof1, bof0, zC, zS]; first | done | omega | rfl | exact ⟨by omega, rfl⟩ | (simp; done) | (simp; omega)) | (intros; trivial) | exact ⟨by first | trivial | rfl, by first | trivial | rfl | simp, by first | trivial | (simp; done) | (simp [f4]; done) | (simp [*]; done), by simp; omega, by simp; omega, by simp [AV.flat, AV.cells, AV.one]⟩)); (try (simp only [nc] at *)); (try simp (disch := (first | omega | (simp only [lnS, zA, zM, zG, zP]; omega))) only [nc, nct, w64_of, zT, zZ, zM, rdS, at_agg, bofZ, bof1, bof0, zC, zS]); (try cbv))
    | fail
  )
  simp [hG, f1, idss, setAll, AV.nrm, nrms, nrm1]
theorem pkeep_ok (hγ : γ 0 = some tabAV) (g : Gr) (hg : Rd g) (l : List EId) (hl : (l.length : Int) ≤ 17592186044416) : Pure Tryd.prog γ false 15 [aGr g, .vs 2 fun _ => ids l] (.tup [aGr (if closedG g l then keepM g l else gz), .i fun _ => if closedG g l then 0 else 2]) := by
  cases h : closedG g l with
  | true => exact pkeep_yes hγ g hg l hl h
  | false => exact pkeep_no hγ g hg l (by omega) h
end Go.AL.Rl

namespace Go.AL.Rl
open Go Go.AL Go.Proofs
set_option maxRecDepth 100000
set_option maxHeartbeats 3200000
variable {γ : Nat → Option AV}

theorem knums_mk (d : Mk) : knums [.i, .i, .b] (aMk d) = [d.id.t, d.id.i, if d.w then 1 else 0] := rfl
theorem mfind_mks (l : List Mk) (d : Mk) : mfind [.i, .i, .b] (mks l) [d.id.t, d.id.i, if d.w then 1 else 0] = l.findIdx? fun x => decide (x = d) := by
  unfold mfind mks
  rw [LV.l_of, List.findIdx?_map]
  congr 1
  funext x
  simp only [Function.comp, knums_mk]
  by_cases h : x = d
  · subst h; simp
  · have : ¬ ([x.id.t, x.id.i, if x.w then (1 : Int) else 0] = [d.id.t, d.id.i, if d.w then 1 else 0]) := by
      intro e
      simp only [List.cons.injEq, and_true] at e
      refine h (Mk.ext' (EId.ext' e.1 e.2.1) ?_)
      have := e.2.2
      cases hx : x.w <;> cases hd : d.w <;> simp_all
    rw [decide_eq_false h]
    simpa using this
theorem mok_mks (l : List Mk) : mok [.i, .i, .b] (mks l) := by
  intro v hv
  simp only [mks, LV.l_of, List.mem_map] at hv
  obtain ⟨x, _, rfl⟩ := hv
  rfl
def fiK (l : List Mk) (d : Mk) : Option Nat := l.findIdx? fun x => decide (x = d)
theorem fiK_some {l : List Mk} {d : Mk} {i : Nat} (h : fiK l d = some i) : i < l.length ∧ l.getD i mk0 = d := by
  unfold fiK at h
  rw [List.findIdx?_eq_some_iff_getElem] at h
  obtain ⟨h1, h2, _⟩ := h
  refine ⟨h1, ?_⟩
  simpa [h1] using h2
theorem fiK_app (l : List Mk) (e d : Mk) (he : fiK l e = none) : fiK (l ++ [e]) d = if d = e then some l.length else fiK l d := by
  unfold fiK at *
  rw [List.findIdx?_append]
  by_cases h : d = e
  · subst h
    rw [he, if_pos rfl]
    simp
  · rw [if_neg h]
    have h2 : ¬ e = d := fun x => h x.symm
    cases l.findIdx? fun x => decide (x = d) <;> simp [h2]
def kmK (ms : List Mk) : Nat → List Mk
  | 0 => []
  | n + 1 => match fiK (kmK ms n) (ms.getD n mk0) with | some _ => kmK ms n | none => kmK ms n ++ [ms.getD n mk0]
def kmV (ms : List Mk) : Nat → List Int
  | 0 => []
  | n + 1 => match fiK (kmK ms n) (ms.getD n mk0) with | some i => (kmV ms n).set i n | none => kmV ms n ++ [(n : Int)]
/-- the last place of a mark among the first ones -/
def lastK (ms : List Mk) (d : Mk) : Nat → Option Nat
  | 0 => none
  | n + 1 => if ms.getD n mk0 = d then some n else lastK ms d n
theorem km_len (ms : List Mk) : ∀ n, (kmV ms n).length = (kmK ms n).length
  | 0 => rfl
  | n + 1 => by
    have ih := km_len ms n
    unfold kmK kmV
    cases h : fiK (kmK ms n) (ms.getD n mk0) <;> simp [ih]
theorem km_len_le (ms : List Mk) : ∀ n, (kmK ms n).length ≤ n
  | 0 => Nat.le_refl _
  | n + 1 => by
    have ih := km_len_le ms n
    unfold kmK
    cases h : fiK (kmK ms n) (ms.getD n mk0) <;> simp <;> omega
theorem km_last (ms : List Mk) (d : Mk) : ∀ n, match fiK (kmK ms n) d with | none => lastK ms d n = none | some i => ∃ m : Nat, lastK ms d n = some m ∧ (kmV ms n).getD i 0 = m
  | 0 => rfl
  | n + 1 => by
    have ih := km_last ms d n
    have hl := km_len ms n
    unfold kmK kmV lastK
    cases h : fiK (kmK ms n) (ms.getD n mk0) with
    | some i =>
      obtain ⟨h1, h2⟩ := fiK_some h
      simp only
      by_cases e : ms.getD n mk0 = d
      · rw [← e, h]
        exact ⟨n, if_pos rfl, by simp [hl, h1]⟩
      · cases h3 : fiK (kmK ms n) d with
        | none => rw [h3] at ih; simp only at ih ⊢; rw [if_neg e]; exact ih
        | some j =>
          rw [h3] at ih
          obtain ⟨m, m1, m2⟩ := ih
          obtain ⟨g1, g2⟩ := fiK_some h3
          have hij : i ≠ j := fun x => e (by rw [← h2, ← g2, x])
          refine ⟨m, by rw [if_neg e]; exact m1, ?_⟩
          rw [← m2]
          simp only [List.getD_eq_getElem?_getD]
          rw [List.getElem?_set_ne hij]
    | none =>
      simp only
      rw [fiK_app _ _ _ h]
      by_cases e : d = ms.getD n mk0
      · rw [if_pos e, if_pos e.symm]
        refine ⟨n, rfl, ?_⟩
        rw [← hl]
        simp
      · rw [if_neg e, if_neg fun x => e x.symm]
        cases h3 : fiK (kmK ms n) d with
        | none => rw [h3] at ih; exact ih
        | some j =>
          rw [h3] at ih
          obtain ⟨m, m1, m2⟩ := ih
          obtain ⟨g1, g2⟩ := fiK_some h3
          refine ⟨m, m1, ?_⟩
          rw [← m2]
          simp only [List.getD_eq_getElem?_getD]
          rw [List.getElem?_append_left (by omega)]
def plK (ms : List Mk) (d : Mk) : Int := match lastK ms d ms.length with | some k => (k : Nat) | none => -1
/-- the last place, as long as they go up -/
def scanK (p : Mk → Int) (l : List Mk) : Option Int := l.foldl (fun s d => s.bind fun x => if x < p d then some (p d) else none) (some (-1))
theorem scanK_succ (p : Mk → Int) (l : List Mk) (d : Mk) : scanK p (l ++ [d]) = (scanK p l).bind fun x => if x < p d then some (p d) else none := by
  unfold scanK; rw [List.foldl_append]; rfl
theorem scanK_none (p : Mk → Int) (a b : List Mk) (h : scanK p a = none) : scanK p (a ++ b) = none := by
  unfold scanK at *
  rw [List.foldl_append, h]
  induction b with
  | nil => rfl
  | cons x b ih => exact ih
theorem scanK_ge' (p : Mk → Int) : ∀ (l : List Mk) (s : Option Int), (∀ x, s = some x → -1 ≤ x) → ∀ x, l.foldl (fun s d => s.bind fun x => if x < p d then some (p d) else none) s = some x → -1 ≤ x
  | [], s, h, x, hx => h x hx
  | d :: l, s, h, x, hx => by
    refine scanK_ge' p l _ ?_ x hx
    intro y hy
    cases s with
    | none => cases hy
    | some z =>
      have := h z rfl
      simp only [Option.bind_some] at hy
      split at hy
      · cases hy; omega
      · cases hy
theorem scanK_ge (p : Mk → Int) (l : List Mk) (x : Int) (h : scanK p l = some x) : -1 ≤ x := scanK_ge' p l _ (fun x h => by cases h; omega) x h
def needE (t : Nat) (l : List Ev) (i : Nat) : List Mk := (List.range i).flatMap fun (j : Nat) => needM ⟨(t : Int) + 1, (j : Int)⟩ (l.getD j ev0).kind
theorem needE_succ (t : Nat) (l : List Ev) (i : Nat) : needE t l (i + 1) = needE t l i ++ needM ⟨(t : Int) + 1, (i : Int)⟩ (l.getD i ev0).kind := by
  unfold needE; rw [List.range_succ, List.flatMap_append]; simp
theorem needE_more (t : Nat) (l : List Ev) (i : Nat) : ∀ k, ∃ r, needE t l (i + k) = needE t l i ++ r
  | 0 => ⟨[], by simp⟩
  | k + 1 => by
    obtain ⟨r, hr⟩ := needE_more t l i k
    exact ⟨r ++ needM ⟨((i + k : Nat) : Int) * 0 + (t : Int) + 1, ((i + k : Nat) : Int)⟩ (l.getD (i + k) ev0).kind, by rw [← Nat.add_assoc, needE_succ, hr, List.append_assoc]; simp⟩
theorem needM_len (d : EId) (k : Int) : (needM d k).length ≤ 2 := by
  unfold needM; split <;> split <;> simp
theorem needE_len (t : Nat) (l : List Ev) : ∀ i, (needE t l i).length ≤ 2 * i
  | 0 => by simp [needE]
  | i + 1 => by
    have := needE_len t l i
    have := needM_len ⟨(t : Int) + 1, (i : Int)⟩ (l.getD i ev0).kind
    rw [needE_succ, List.length_append]; omega
def cntN (g : Gr) (t : Nat) : Nat := ((List.range t).map fun k => (needE k (g.th.getD k []) (g.th.getD k []).length).length).sum
theorem cntN_succ (g : Gr) (t : Nat) : cntN g (t + 1) = cntN g t + (needE t (g.th.getD t []) (g.th.getD t []).length).length := by
  unfold cntN; rw [List.range_succ, List.map_append, List.sum_append]; simp
theorem cntN_le {g : Gr} (hs : Short g) : ∀ t, cntN g t ≤ 28 * t
  | 0 => by simp [cntN]
  | t + 1 => by
    have := cntN_le hs t
    have h1 := needE_len t (g.th.getD t []) (g.th.getD t []).length
    have h2 := hs.at t
    rw [cntN_succ]; omega
def markedM (g : Gr) (ms : List Mk) : Bool := decide (∀ t < g.th.length, (scanK (plK ms) (needE t (g.th.getD t []) (g.th.getD t []).length)).isSome = true) && decide (cntN g g.th.length = ms.length)
theorem toList_at (l : List Mk) (j : Nat) (hj : j < l.length) : (l[j]?).toList = [l.getD j mk0] := by
  rw [List.getD_eq_getElem?_getD, List.getElem?_eq_getElem hj]; rfl
theorem marked_no (g : Gr) (ms : List Mk) (t : Nat) (ht : t < g.th.length) (i : Nat) (hi : i < (g.th.getD t []).length) (j : Nat) (hj : j < (needM ⟨(t : Int) + 1, (i : Int)⟩ ((g.th.getD t []).getD i ev0).kind).length)
    (x : Int) (h : scanK (plK ms) (needE t (g.th.getD t []) i ++ (needM ⟨(t : Int) + 1, (i : Int)⟩ ((g.th.getD t []).getD i ev0).kind).take j) = some x)
    (hx : ¬ x < plK ms ((needM ⟨(t : Int) + 1, (i : Int)⟩ ((g.th.getD t []).getD i ev0).kind).getD j mk0)) : markedM g ms = false := by
  unfold markedM
  rw [Bool.and_eq_false_iff]
  left
  refine decide_eq_false fun hall => ?_
  have h1 := hall t ht
  have h2 : scanK (plK ms) (needE t (g.th.getD t []) i ++ (needM ⟨(t : Int) + 1, (i : Int)⟩ ((g.th.getD t []).getD i ev0).kind).take (j + 1)) = none := by
    rw [List.take_add_one, ← List.append_assoc]
    have : ((needM ⟨(t : Int) + 1, (i : Int)⟩ ((g.th.getD t []).getD i ev0).kind)[j]?).toList = [(needM ⟨(t : Int) + 1, (i : Int)⟩ ((g.th.getD t []).getD i ev0).kind).getD j mk0] := by
      exact toList_at _ _ hj
    rw [this, scanK_succ, h]
    simp only [Option.bind_some]
    rw [if_neg hx]
  have h3 : scanK (plK ms) (needE t (g.th.getD t []) (i + 1)) = none := by
    rw [needE_succ]
    have := scanK_none (plK ms) _ ((needM ⟨(t : Int) + 1, (i : Int)⟩ ((g.th.getD t []).getD i ev0).kind).drop (j + 1)) h2
    rwa [List.append_assoc, List.take_append_drop] at this
  obtain ⟨r, hr⟩ := needE_more t (g.th.getD t []) (i + 1) ((g.th.getD t []).length - (i + 1))
  rw [show i + 1 + ((g.th.getD t []).length - (i + 1)) = (g.th.getD t []).length from by omega] at hr
  rw [hr, scanK_none _ _ _ h3] at h1
  cases h1
end Go.AL.Rl

namespace Go.AL.Rl
open Go Go.AL Go.Proofs
set_option maxRecDepth 100000
set_option maxHeartbeats 3200000
variable {γ : Nat → Option AV}

theorem mputK_mk (ms : List Mk) (n : Nat) (v : AV) (hv : v = aMk (ms.getD n mk0)) (k : List Int) (hk : k = [(ms.getD n mk0).id.t, (ms.getD n mk0).id.i, if (ms.getD n mk0).w then 1 else 0]) : mputK (mfind [.i, .i, .b] (mks (kmK ms n)) k) (mks (kmK ms n)) v = mks (kmK ms (n + 1)) := by
  subst hk; subst hv
  rw [mfind_mks]
  show mputK (fiK (kmK ms n) (ms.getD n mk0)) _ _ = _
  rw [show kmK ms (n + 1) = match fiK (kmK ms n) (ms.getD n mk0) with | some _ => kmK ms n | none => kmK ms n ++ [ms.getD n mk0] from rfl]
  cases fiK (kmK ms n) (ms.getD n mk0) with
  | some i => rfl
  | none => simp [mputK, mks]
theorem mputV_mk (ms : List Mk) (n : Nat) (v : AV) (hv : v = .i fun _ => (n : Int)) (k : List Int) (hk : k = [(ms.getD n mk0).id.t, (ms.getD n mk0).id.i, if (ms.getD n mk0).w then 1 else 0]) : mputV (mfind [.i, .i, .b] (mks (kmK ms n)) k) (is (kmV ms n)) v = is (kmV ms (n + 1)) := by
  subst hk; subst hv
  rw [mfind_mks]
  show mputV (fiK (kmK ms n) (ms.getD n mk0)) _ _ = _
  rw [show kmV ms (n + 1) = match fiK (kmK ms n) (ms.getD n mk0) with | some i => (kmV ms n).set i n | none => kmV ms n ++ [(n : Int)] from rfl]
  cases fiK (kmK ms n) (ms.getD n mk0) with
  | some i => simp [mputV, is]
  | none => simp [mputV, is]
theorem mk_is (ms : List Mk) (d : Mk) (k : List Int) (hk : k = [d.id.t, d.id.i, if d.w then 1 else 0]) : (mfind [.i, .i, .b] (mks (kmK ms ms.length)) k).isSome = decide (0 ≤ plK ms d) := by
  subst hk; rw [mfind_mks]
  show (fiK (kmK ms ms.length) d).isSome = _
  have h := km_last ms d ms.length
  unfold plK
  cases h1 : fiK (kmK ms ms.length) d with
  | none => rw [h1] at h; rw [h]; simp
  | some i => rw [h1] at h; obtain ⟨m, m1, m2⟩ := h; rw [m1]; simp
theorem mk_val (ms : List Mk) (d : Mk) (k : List Int) (hk : k = [d.id.t, d.id.i, if d.w then 1 else 0]) (z : AV) (h0 : 0 ≤ plK ms d) : ((mval (mfind [.i, .i, .b] (mks (kmK ms ms.length)) k) (is (kmV ms ms.length)) z).at 0).asI = plK ms d := by
  subst hk; rw [mfind_mks]
  show ((mval (fiK (kmK ms ms.length) d) _ z).at 0).asI = _
  have h := km_last ms d ms.length
  unfold plK at *
  cases h1 : fiK (kmK ms ms.length) d with
  | none => rw [h1] at h; rw [h] at h0; simp at h0
  | some i =>
    have hi := (fiK_some h1).1
    rw [h1] at h; obtain ⟨m, m1, m2⟩ := h
    rw [m1]
    simp only [mval]
    rw [is_get _ i (by rw [km_len]; exact hi)]
    exact m2
theorem pmarked_ok (g : Gr) (hg : GOk g) (ms : List Mk) (hm : (ms.length : Int) ≤ 17592186044416) : Pure Tryd.prog γ false 22 [aGr g, .vs 3 fun _ => mks ms] (.b fun _ => markedM g ms) := by
  have hs := hg.short
  have hth := hs.th
  have hle := hs.at
  have kn := fun (t i : Nat) => needs_ok (γ := γ) ⟨(t : Int) + 1, (i : Int)⟩ ((g.th.getD t []).getD i ev0).kind
  obtain ⟨N, hN⟩ : ∃ N : Nat → Nat → List Mk, ∀ t i, N t i = needM ⟨(t : Int) + 1, (i : Int)⟩ ((g.th.getD t []).getD i ev0).kind := ⟨_, fun _ _ => rfl⟩
  simp only [← hN] at kn
  have hNl : ∀ t i, (N t i).length ≤ 2 := fun t i => by rw [hN]; exact needM_len _ _
  obtain ⟨c, hc⟩ : ∃ c : Nat → Nat → Nat → Nat, ∀ t i j, c t i j = cntN g t + (needE t (g.th.getD t []) i ++ (N t i).take j).length := ⟨_, fun _ _ _ => rfl⟩
  obtain ⟨q, hq⟩ : ∃ q : Nat → Nat → Nat → Option Int, ∀ t i j, q t i j = scanK (plK ms) (needE t (g.th.getD t []) i ++ (N t i).take j) := ⟨_, fun _ _ _ => rfl⟩
  have c0 : c 0 0 0 = 0 := by rw [hc]; simp [cntN, needE]
  have cj : ∀ t i j, j < (N t i).length → c t i (j + 1) = c t i j + 1 := fun t i j hj => by
    rw [hc, hc]; simp only [List.length_append, List.length_take]; omega
  have ci : ∀ t i, c t i (N t i).length = c t (i + 1) 0 := fun t i => by
    rw [hc, hc, List.take_length, List.take_zero, List.append_nil, needE_succ, hN]
  have ct : ∀ t, c t (g.th.getD t []).length 0 = c (t + 1) 0 0 := fun t => by
    rw [hc, hc, cntN_succ]; simp [needE]
  have cb : ∀ t i j, t < g.th.length → i ≤ (g.th.getD t []).length → c t i j ≤ 200 := fun t i j h1 h2 => by
    have b1 := cntN_le hs t
    have b2 := needE_len t (g.th.getD t []) i
    have b3 := hle t
    have b4 := hNl t i
    rw [hc]; simp only [List.length_append, List.length_take]; omega
  have cT : c g.th.length 0 0 = cntN g g.th.length := by rw [hc]; simp [needE]
  have q0 : ∀ t, q t 0 0 = some (-1) := fun t => by rw [hq]; rfl
  have qj : ∀ t i j, j < (N t i).length → q t i (j + 1) = (q t i j).bind fun x => if x < plK ms ((N t i).getD j mk0) then some (plK ms ((N t i).getD j mk0)) else none := fun t i j hj => by
    rw [hq, hq, List.take_add_one, toList_at _ _ hj, ← List.append_assoc, scanK_succ]
  have qi : ∀ t i, q t i (N t i).length = q t (i + 1) 0 := fun t i => by
    rw [hq, hq, List.take_length, List.take_zero, List.append_nil, needE_succ, hN]
  have qe : ∀ t, q t (g.th.getD t []).length 0 = scanK (plK ms) (needE t (g.th.getD t []) (g.th.getD t []).length) := fun t => by
    rw [hq, List.take_zero, List.append_nil]
  have qn : ∀ t i j x, t < g.th.length → i < (g.th.getD t []).length → j < (N t i).length → q t i j = some x → ¬ x < plK ms ((N t i).getD j mk0) → markedM g ms = false := fun t i j x h1 h2 h3 h4 h5 => by
    rw [hN] at h3 h5
    rw [hq, hN] at h4
    exact marked_no g ms t h1 i h2 j h3 x h4 h5
  have qge : ∀ t i j x, q t i j = some x → -1 ≤ x := fun t i j x h => by rw [hq] at h; exact scanK_ge _ _ _ h
  have pb : ∀ d, -1 ≤ plK ms d := fun d => by unfold plK; split <;> omega
  have k0 := km_len_le ms
  have ki := fun d => mk_is ms d
  have kv := fun d => mk_val ms d
  have kK0 : kmK ms 0 = [] := rfl
  have kV0 : kmV ms 0 = [] := rfl
  have kK := mputK_mk ms
  have kV := mputV_mk ms
  generalize kmK ms = KM at *
  generalize kmV ms = VM at *
  skip
  refine Pure.go (ty := ty) ty_eq mo Tryd.func22 rfl Tryd.ntmps22 Tryd.results22 Tryd.call22 (by simp) fun P C CQ D W F E hF => ?_
  cbv
  refine E.loopS (ι := Nat) (fun i => i ≤ ms.length) (fun i => ms.length - i) (fun i => [(23, .i fun _ => ((i : Nat) : Int))]) (fun i h => h.set 1 (.map (fun _ => mks (KM i)) (fun _ => is (VM i)))) 0 (fun _ => by first | rfl | simp) (Nat.zero_le _) ?_ fun i hi I hI => ?_
  · cbv; simp [kK0, kV0, is, mks, LV.of]
  cbv
  have e1 := kK i
  have e2 := kV i
  repeat' (first
    | (refine hI (i + 1) ?_ ?_ ?_; rotate_left 1; (· ((try simp only [nc] at *); omega)); (cbv; clear hI; (try clear hF); (try simp only [nc] at *); (try simp (disch := (first | omega | (simp only [lnS, zA, zM, zG, zP, mks_len]; omega))) only [nc, nct, w64_of, zT, zZ, zM, rdS, at_agg, bofZ, bof1, bof0, zC, zS, mks_len, mks_get, implies_true, and_true, true_and, forall_const])); rotate_left 1; (try ((try simp only [nc] at *); omega)))
    | (refine ⟨fun _ h_s => ?_, fun _ h_s => ?_⟩ <;> (cbv; (try simp only [nc] at *); try simp (disch := (first | omega | (simp only [lnS, zA, zM, zG, zP, mks_len]; omega))) only [nc, nct, w64_of, zT, zZ, zM, rdS, at_agg, bofZ, bof1, bof0, zC, zS, mks_len, mks_get, reduceCtorEq, Bool.not_true, Bool.not_false, zD, zE, zB, zF, zN, zO, ne_eq, zQ, zL, zR, beq_iff_eq] at h_s))
    | (refine hF ?_; intro _; clear hF)
    | (refine hF ?_; cbv; clear hF)
    | (refine ⟨fun _ => ?_, ?_⟩; (· ((try simp only [nc] at *); first | done | omega | exact ⟨by omega, rfl⟩ | (simp (disch := (first | omega | (simp only [lnS, zA, zM, zG, zP, mks_len]; omega))) only [nc, nct, w64_of, zT, zZ, zM, rdS, at_agg, bofZ, bof1, bof0, zC, zS, mks_len, mks_get]; first | done | omega | rfl | exact ⟨by omega, rfl⟩ | (simp; done) | (simp; omega)) | (intros; trivial))); (try (simp only [nc] at *)); (try simp (disch := (first | omega | (simp only [lnS, zA, zM, zG, zP, mks_len]; omega))) only [nc, nct, w64_of, zT, zZ, zM, rdS, at_agg, bofZ, bof1, bof0, zC, zS, mks_len, mks_get]); (try cbv))
    | fail
  )
  · refine ⟨fun _ => mok_mks _, ?_⟩
    refine hI (i + 1) (by ((try simp only [nc] at *); omega)) (by ((try simp only [nc] at *); omega)) ?_
    cbv
    clear hI hF
    (try simp only [nc] at *)
    (try simp (disch := (first | omega | (simp only [lnS, zA, zM, zG, zP, mks_len]; omega))) only [nc, nct, w64_of, zT, zZ, zM, rdS, at_agg, bofZ, bof1, bof0, zC, zS, mks_len, mks_get, implies_true, and_true, true_and, forall_const])
    exact ⟨by push_cast; rfl, e1 _ rfl _ rfl, e2 _ rfl _ rfl⟩
  clear hI
  have e : i = ms.length := by ((try simp only [nc] at *); omega)
  subst e
  clear kK kV e1 e2 kK0 kV0 k0
  refine E.loopS (ι := Nat) (fun t => t ≤ g.th.length ∧ (∀ t' < t, (scanK (plK ms) (needE t' (g.th.getD t' []) (g.th.getD t' []).length)).isSome = true)) (fun t => g.th.length - t) (fun t => [(35, .i fun _ => ((t : Nat) : Int)), (8, .i fun _ => ((c t 0 0 : Nat) : Int))]) (fun t h => h) 0 (fun _ => by first | rfl | simp) ⟨Nat.zero_le _, ?_⟩ ?_ fun t ht I1 hI1 => ?_
  · intro t' h'; omega
  · cbv; simp [c0]
  obtain ⟨ht, hpt⟩ := ht
  cbv
  have hgt := hle t
  repeat' (first
    | (refine ⟨fun _ h_s => ?_, fun _ h_s => ?_⟩ <;> (cbv; (try simp only [nc] at *); try simp (disch := (first | omega | (simp only [lnS, zA, zM, zG, zP, mks_len]; omega))) only [nc, nct, w64_of, zT, zZ, zM, rdS, at_agg, bofZ, bof1, bof0, zC, zS, mks_len, mks_get, reduceCtorEq, Bool.not_true, Bool.not_false, zD, zE, zB, zF, zN, zO, ne_eq, zQ, zL, zR, beq_iff_eq] at h_s))
    | (refine hF ?_; intro _; clear hF)
    | (refine hF ?_; cbv; clear hF)
    | (refine ⟨fun _ => ?_, ?_⟩; (· ((try simp only [nc] at *); first | done | omega | exact ⟨by omega, rfl⟩ | (simp (disch := (first | omega | (simp only [lnS, zA, zM, zG, zP, mks_len]; omega))) only [nc, nct, w64_of, zT, zZ, zM, rdS, at_agg, bofZ, bof1, bof0, zC, zS, mks_len, mks_get]; first | done | omega | rfl | exact ⟨by omega, rfl⟩ | (simp; done) | (simp; omega)) | (intros; trivial))); (try (simp only [nc] at *)); (try simp (disch := (first | omega | (simp only [lnS, zA, zM, zG, zP, mks_len]; omega))) only [nc, nct, w64_of, zT, zZ, zM, rdS, at_agg, bofZ, bof1, bof0, zC, zS, mks_len, mks_get]); (try cbv))
    | fail
  )
  · refine E.loopS (ι := Nat) (fun i => i ≤ (g.th.getD t []).length ∧ ((q t i 0).isSome = true)) (fun i => (g.th.getD t []).length - i) (fun i => [(42, .i fun _ => ((i : Nat) : Int)), (8, .i fun _ => ((c t i 0 : Nat) : Int)), (11, .i fun _ => (q t i 0).getD 0)]) (fun i h => h) 0 (fun _ => by first | rfl | simp) ⟨Nat.zero_le _, ?_⟩ ?_ fun i hi I2 hI2 => ?_
    · rw [q0]; rfl
    · cbv; simp [q0]
    obtain ⟨hi, hqi⟩ := hi
    cbv
    have knt := kn t i
    repeat' (first
      | (refine hI1 (t + 1) ?_ ?_ ?_; rotate_left 1; (· ((try simp only [nc] at *); omega)); (cbv; clear hI1; (try clear hF); (try simp only [nc] at *); (try simp (disch := (first | omega | (simp only [lnS, zA, zM, zG, zP, mks_len]; omega))) only [nc, nct, w64_of, zT, zZ, zM, rdS, at_agg, bofZ, bof1, bof0, zC, zS, mks_len, mks_get, implies_true, and_true, true_and, forall_const])); rotate_left 1; (try ((try simp only [nc] at *); omega)))
      | (refine E.c (SCalls.of_le (knt) ?_ ?_); (· (cbv; (try simp only [nc] at *); first | done | (simp; done) | (simp (disch := (first | omega | (simp only [lnS, zA, zM, zG, zP, mks_len]; omega))) only [nc, nct, w64_of, zT, zZ, zM, rdS, at_agg, bofZ, bof1, bof0, zC, zS, mks_len, mks_get, implies_true, and_true, true_and, forall_const]; first | done | omega | (refine ⟨?_, ?_⟩ <;> omega)) | (simp (disch := (first | omega | (simp only [lnS, zA, zM, zG, zP, mks_len]; omega))) [nc, nct, w64_of, zT, zZ, zM, rdS, at_agg, bofZ, bof1, bof0, zC, zS, mks_len, mks_get]; done))); cbv)
      | (refine ⟨fun _ h_s => ?_, fun _ h_s => ?_⟩ <;> (cbv; (try simp only [nc] at *); try simp (disch := (first | omega | (simp only [lnS, zA, zM, zG, zP, mks_len]; omega))) only [nc, nct, w64_of, zT, zZ, zM, rdS, at_agg, bofZ, bof1, bof0, zC, zS, mks_len, mks_get, reduceCtorEq, Bool.not_true, Bool.not_false, zD, zE, zB, zF, zN, zO, ne_eq, zQ, zL, zR, beq_iff_eq] at h_s))
      | (refine hF ?_; intro _; clear hF)
      | (refine hF ?_; cbv; clear hF)
      | (refine ⟨fun _ => ?_, ?_⟩; (· ((try simp only [nc] at *); first | done | omega | exact ⟨by omega, rfl⟩ | (simp (disch := (first | omega | (simp only [lnS, zA, zM, zG, zP, mks_len]; omega))) only [nc, nct, w64_of, zT, zZ, zM, rdS, at_agg, bofZ, bof1, bof0, zC, zS, mks_len, mks_get]; first | done | omega | rfl | exact ⟨by omega, rfl⟩ | (simp; done) | (simp; omega)) | (intros; trivial))); (try (simp only [nc] at *)); (try simp (disch := (first | omega | (simp only [lnS, zA, zM, zG, zP, mks_len]; omega))) only [nc, nct, w64_of, zT, zZ, zM, rdS, at_agg, bofZ, bof1, bof0, zC, zS, mks_len, mks_get]); (try cbv))
      | fail
    )
    · refine E.loopS (ι := Nat) (fun j => j ≤ (N t i).length ∧ ((q t i j).isSome = true)) (fun j => (N t i).length - j) (fun j => [(55, .i fun _ => ((j : Nat) : Int)), (8, .i fun _ => ((c t i j : Nat) : Int)), (11, .i fun _ => (q t i j).getD 0)]) (fun j h => h) 0 (fun _ => by first | rfl | simp) ⟨Nat.zero_le _, ?_⟩ ?_ fun j hj I3 hI3 => ?_
      · exact hqi
      · cbv; simp
      obtain ⟨hj, hqj⟩ := hj
      cbv
      have hcb := cb t i j
      have kid := ki ((N t i).getD j mk0)
      have kvd := kv ((N t i).getD j mk0)
      skip
      repeat' (first
        | (refine hI1 (t + 1) ?_ ?_ ?_; rotate_left 1; (· ((try simp only [nc] at *); omega)); (cbv; clear hI1; (try clear hF); (try simp only [nc] at *); (try simp (disch := (first | omega | (simp only [lnS, zA, zM, zG, zP, mks_len]; omega))) only [nc, nct, w64_of, zT, zZ, zM, rdS, at_agg, bofZ, bof1, bof0, zC, zS, mks_len, mks_get, implies_true, and_true, true_and, forall_const])); rotate_left 1; (try ((try simp only [nc] at *); omega)))
        | (refine hI2 (i + 1) ?_ ?_ ?_; rotate_left 1; (· ((try simp only [nc] at *); omega)); (cbv; clear hI2; (try clear hF); (try simp only [nc] at *); (try simp (disch := (first | omega | (simp only [lnS, zA, zM, zG, zP, mks_len]; omega))) only [nc, nct, w64_of, zT, zZ, zM, rdS, at_agg, bofZ, bof1, bof0, zC, zS, mks_len, mks_get, implies_true, and_true, true_and, forall_const])); rotate_left 1; (try ((try simp only [nc] at *); omega)))
        | (refine hI3 (j + 1) ?_ ?_ ?_; rotate_left 1; (· ((try simp only [nc] at *); omega)); (cbv; clear hI3; (try clear hF); (try simp only [nc] at *); (try simp (disch := (first | omega | (simp only [lnS, zA, zM, zG, zP, mks_len]; omega))) only [nc, nct, w64_of, zT, zZ, zM, rdS, at_agg, bofZ, bof1, bof0, zC, zS, mks_len, mks_get, implies_true, and_true, true_and, forall_const])); rotate_left 1; (try ((try simp only [nc] at *); omega)))
        | (refine ⟨fun _ h_s => ?_, fun _ h_s => ?_⟩ <;> (cbv; (try simp only [nc] at *); try simp (disch := (first | omega | (simp only [lnS, zA, zM, zG, zP, mks_len]; omega))) only [nc, nct, w64_of, zT, zZ, zM, rdS, at_agg, bofZ, bof1, bof0, zC, zS, mks_len, mks_get, reduceCtorEq, Bool.not_true, Bool.not_false, zD, zE, zB, zF, zN, zO, ne_eq, zQ, zL, zR, beq_iff_eq] at h_s))
        | (refine hF ?_; intro _; clear hF)
        | (refine hF ?_; cbv; clear hF)
        | (refine ⟨fun _ => ?_, ?_⟩; (· ((try simp only [nc] at *); first | done | omega | exact ⟨by omega, rfl⟩ | (simp (disch := (first | omega | (simp only [lnS, zA, zM, zG, zP, mks_len]; omega))) only [nc, nct, w64_of, zT, zZ, zM, rdS, at_agg, bofZ, bof1, bof0, zC, zS, mks_len, mks_get]; first | done | omega | rfl | exact ⟨by omega, rfl⟩ | (simp; done) | (simp; omega)) | (intros; trivial) | exact ⟨mok_mks _, by intro v hv; unfold is at hv; rw [LV.l_of] at hv; obtain ⟨x, _, rfl⟩ := List.mem_map.1 hv; rfl⟩)); (try (simp only [nc] at *)); (try simp (disch := (first | omega | (simp only [lnS, zA, zM, zG, zP, mks_len]; omega))) only [nc, nct, w64_of, zT, zZ, zM, rdS, at_agg, bofZ, bof1, bof0, zC, zS, mks_len, mks_get]); (try cbv))
        | fail
      )
      all_goals clear kn knt
      all_goals obtain ⟨x, hx⟩ := Option.isSome_iff_exists.1 hqj
      all_goals have hx1 := qge _ _ _ _ hx
      · refine qn t i j x (by ((try simp only [nc] at *); omega)) (by ((try simp only [nc] at *); omega)) (by ((try simp only [nc] at *); omega)) hx fun hlt => ?_
        have hlt : x < plK ms ((N t i).getD j mk0) := hlt
        have z := h_s.symm.trans (kid _ rfl)
        rw [decide_eq_true (show 0 ≤ plK ms ((N t i).getD j mk0) by omega)] at z
        cases z
      · refine qn t i j x (by ((try simp only [nc] at *); omega)) (by ((try simp only [nc] at *); omega)) (by ((try simp only [nc] at *); omega)) hx fun hlt => ?_
        have hlt : x < plK ms ((N t i).getD j mk0) := hlt
        have p0 : 0 ≤ plK ms ((N t i).getD j mk0) := by omega
        have z := Int.le_trans (Int.le_of_eq (kvd _ rfl (AV.lit 0) p0).symm) h_s
        rw [hx, Option.getD_some] at z
        omega
      · have p0 : 0 ≤ plK ms ((N t i).getD j mk0) := by
          have : decide (0 ≤ plK ms ((N t i).getD j mk0)) = true := (kid _ rfl).symm.trans (by assumption)
          exact of_decide_eq_true this
        have z : (q t i j).getD 0 < plK ms ((N t i).getD j mk0) := Int.lt_of_lt_of_le h_s (Int.le_of_eq (kvd _ rfl (AV.lit 0) p0))
        rw [hx, Option.getD_some] at z
        rw [qj t i j (by ((try simp only [nc] at *); omega)), hx, Option.bind_some, if_pos z]
        exact ⟨by ((try simp only [nc] at *); omega), rfl⟩
      · have p0 : 0 ≤ plK ms ((N t i).getD j mk0) := by
          have : decide (0 ≤ plK ms ((N t i).getD j mk0)) = true := (kid _ rfl).symm.trans (by assumption)
          exact of_decide_eq_true this
        have z : (q t i j).getD 0 < plK ms ((N t i).getD j mk0) := Int.lt_of_lt_of_le h_s (Int.le_of_eq (kvd _ rfl (AV.lit 0) p0))
        rw [hx, Option.getD_some] at z
        rw [qj t i j (by ((try simp only [nc] at *); omega)), hx, Option.bind_some, if_pos z, cj t i j (by ((try simp only [nc] at *); omega))]
        refine ⟨⟨?_, kvd _ rfl (AV.lit 0) p0⟩, by push_cast; rfl⟩
        rw [w64_of (by have := hNl t i; omega) (by have := hNl t i; omega)]; push_cast; rfl
      · have e : j = (N t i).length := by ((try simp only [nc] at *); omega)
        subst e
        exact ⟨by ((try simp only [nc] at *); omega), by rw [← qi]; exact hqj⟩
      · have e : j = (N t i).length := by ((try simp only [nc] at *); omega)
        subst e
        exact ⟨by rw [← qi], by rw [← ci], by push_cast; rfl⟩
    · have e : i = (g.th.getD t []).length := by ((try simp only [nc] at *); omega)
      subst e
      refine ⟨by ((try simp only [nc] at *); omega), fun t' h' => ?_⟩
      rcases Nat.lt_or_ge t' t with h1 | h1
      · exact hpt t' h1
      · obtain rfl : t' = t := by omega
        rw [← qe]; exact hqi
    · have e : i = (g.th.getD t []).length := by ((try simp only [nc] at *); omega)
      subst e
      exact ⟨by push_cast; rfl, by rw [ct]⟩
  · have e : t = g.th.length := by ((try simp only [nc] at *); omega)
    subst e
    show decide (((c g.th.length 0 0 : Nat) : Int) = ((mks ms).l.length : Int)) = markedM g ms
    unfold markedM
    rw [decide_eq_true hpt, mks_len, cT, Bool.true_and]
    exact decide_eq_decide.2 (by omega)
end Go.AL.Rl

namespace Go.AL.Rl
open Go Go.AL Go.Proofs
set_option maxRecDepth 100000
set_option maxHeartbeats 3200000
variable {γ : Nat → Option AV}

theorem scan_fold (p : Mk → Int) : ∀ (l : List Mk) (a : Int), (l.foldl (fun s d => s.bind fun x => if x < p d then some (p d) else none) (some a)).isSome = true ↔ l.Pairwise (fun x y => p x < p y) ∧ ∀ d ∈ l, a < p d
  | [], a => by simp
  | d :: l, a => by
    rw [List.foldl_cons, Option.bind_some]
    by_cases h : a < p d
    · rw [if_pos h, scan_fold p l (p d), List.pairwise_cons]
      constructor
      · rintro ⟨h1, h2⟩
        exact ⟨⟨h2, h1⟩, fun e he => by rcases List.mem_cons.1 he with rfl | he; exact h; have := h2 e he; omega⟩
      · rintro ⟨⟨h2, h1⟩, _⟩
        exact ⟨h1, h2⟩
    · rw [if_neg h]
      constructor
      · intro h1
        exfalso
        revert h1
        generalize l = l0
        intro h1
        have : ∀ l : List Mk, (l.foldl (fun s d => s.bind fun x => if x < p d then some (p d) else none) (none : Option Int)) = none := by
          intro l; induction l with
          | nil => rfl
          | cons e l ih => exact ih
        rw [this] at h1; cases h1
      · rintro ⟨_, h2⟩
        exact absurd (h2 d (by simp)) h
theorem scanK_iff (p : Mk → Int) (l : List Mk) : (scanK p l).isSome = true ↔ l.Pairwise (fun x y => p x < p y) ∧ ∀ d ∈ l, -1 < p d := scan_fold p l (-1)
theorem lastK_mem (ms : List Mk) (d : Mk) : ∀ n, n ≤ ms.length → ∀ k, lastK ms d n = some k → k < n ∧ ms.getD k mk0 = d
  | 0, _, k, h => by cases h
  | n + 1, hn, k, h => by
    unfold lastK at h
    split at h
    · cases h; rename_i e; exact ⟨by omega, e⟩
    · obtain ⟨h1, h2⟩ := lastK_mem ms d n (by omega) k h; exact ⟨by omega, h2⟩
theorem plK_mem {ms : List Mk} {d : Mk} (h : -1 < plK ms d) : ∃ k : Nat, plK ms d = k ∧ k < ms.length ∧ ms.getD k mk0 = d := by
  unfold plK at h ⊢
  cases e : lastK ms d ms.length with
  | none => rw [e] at h; simp at h
  | some k => exact ⟨k, rfl, lastK_mem ms d _ (Nat.le_refl _) k e⟩
theorem needM_mem {d : EId} {k : Int} {m : Mk} : m ∈ needM d k ↔ m.id = d ∧ ((m.w = false ∧ k ≠ 2) ∨ (m.w = true ∧ (k = 2 ∨ k = 3))) := by
  obtain ⟨e, w⟩ := m
  unfold needM
  by_cases h1 : k = 2
  · simp [h1]
  · by_cases h2 : k = 3 <;> simp [h1, h2] <;> cases w <;> simp
theorem needM_nodup (d : EId) (k : Int) : (needM d k).Nodup := by
  unfold needM
  by_cases h1 : k = 2
  · simp [h1]
  · by_cases h2 : k = 3 <;> simp [h1, h2]
theorem needE_mem {t : Nat} {l : List Ev} {i : Nat} {m : Mk} : m ∈ needE t l i ↔ ∃ j < i, m ∈ needM ⟨(t : Int) + 1, (j : Int)⟩ (l.getD j ev0).kind := by
  unfold needE; simp only [List.mem_flatMap, List.mem_range]
theorem needE_nodup (t : Nat) (l : List Ev) (i : Nat) : (needE t l i).Nodup := by
  unfold needE List.Nodup
  rw [List.pairwise_flatMap]
  refine ⟨fun a _ => needM_nodup _ _, (List.nodup_range (n := i)).imp fun {a b} hab x hx y hy e => hab ?_⟩
  have h1 := (needM_mem.1 hx).1
  have h2 := (needM_mem.1 hy).1
  rw [e, h2] at h1
  have := congrArg EId.i h1
  simp only at this
  omega
/-- all marks that a graph asks for -/
def allN (g : Gr) : List Mk := (List.range g.th.length).flatMap fun t => needE t (g.th.getD t []) (g.th.getD t []).length
theorem allN_mem {g : Gr} {m : Mk} : m ∈ allN g ↔ ∃ t < g.th.length, ∃ j < (g.th.getD t []).length, m ∈ needM ⟨(t : Int) + 1, (j : Int)⟩ ((g.th.getD t []).getD j ev0).kind := by
  unfold allN; simp only [List.mem_flatMap, List.mem_range, needE_mem]
theorem allN_nodup (g : Gr) : (allN g).Nodup := by
  unfold allN List.Nodup
  rw [List.pairwise_flatMap]
  refine ⟨fun a _ => needE_nodup _ _ _, (List.nodup_range (n := g.th.length)).imp fun {a b} hab x hx y hy e => hab ?_⟩
  obtain ⟨_, _, hx⟩ := needE_mem.1 hx
  obtain ⟨_, _, hy⟩ := needE_mem.1 hy
  have h1 := (needM_mem.1 hx).1
  have h2 := (needM_mem.1 hy).1
  rw [e, h2] at h1
  have := congrArg EId.t h1
  simp only at this
  omega
theorem allN_len (g : Gr) : (allN g).length = cntN g g.th.length := by
  unfold allN cntN
  rw [List.length_flatMap]
theorem marked_iff (g : Gr) (ms : List Mk) : markedM g ms = true ↔ (allN g).Perm ms ∧ ∀ t < g.th.length, (needE t (g.th.getD t []) (g.th.getD t []).length).Pairwise fun x y => plK ms x < plK ms y := by
  unfold markedM
  rw [Bool.and_eq_true, decide_eq_true_eq, decide_eq_true_eq, ← allN_len]
  constructor
  · rintro ⟨h1, h2⟩
    refine ⟨perm_of_sub (allN_nodup g) (fun m hm => ?_) (by omega), fun t ht => ((scanK_iff _ _).1 (h1 t ht)).1⟩
    obtain ⟨t, ht, j, hj, hm⟩ := allN_mem.1 hm
    obtain ⟨k, _, hk, e⟩ := plK_mem (((scanK_iff _ _).1 (h1 t ht)).2 m (needE_mem.2 ⟨j, hj, hm⟩))
    rw [← e]; exact getD_mem hk
  · rintro ⟨h1, h2⟩
    refine ⟨fun t ht => (scanK_iff _ _).2 ⟨h2 t ht, fun d hd => ?_⟩, h1.length_eq⟩
    obtain ⟨j, hj, hm⟩ := needE_mem.1 hd
    have hin : d ∈ ms := h1.subset (allN_mem.2 ⟨t, ht, j, hj, hm⟩)
    obtain ⟨k, hk, e⟩ := List.getElem_of_mem hin
    have : ∀ n, k < n → ∃ i, lastK ms d n = some i := by
      intro n
      induction n with
      | zero => intro h; omega
      | succ n ih =>
        intro h
        unfold lastK
        by_cases e2 : ms.getD n mk0 = d
        · exact ⟨n, if_pos e2⟩
        · rw [if_neg e2]
          refine ih ?_
          rcases Nat.lt_or_ge k n with h3 | h3
          · exact h3
          · obtain rfl : k = n := by omega
            exact absurd (by simp [hk, e]) e2
    obtain ⟨i, hi⟩ := this ms.length hk
    unfold plK; rw [hi]; simp; omega
theorem marked_in {g : Gr} {ms : List Mk} (h : markedM g ms = true) {m : Mk} (hm : m ∈ ms) : 1 ≤ m.id.t ∧ (m.id.t - 1).toNat < g.th.length ∧ 0 ≤ m.id.i ∧ m.id.i.toNat < (g.th.getD (m.id.t - 1).toNat []).length := by
  obtain ⟨t, ht, j, hj, hn⟩ := allN_mem.1 (((marked_iff g ms).1 h).1.symm.subset hm)
  have e := (needM_mem.1 hn).1
  rw [e]
  have : ((t : Int) + 1 - 1).toNat = t := by omega
  simp only [this]
  exact ⟨by omega, ht, by omega, by simpa using hj⟩
end Go.AL.Rl

namespace Go.AL.Rl
open Go Go.AL Go.Proofs
set_option maxRecDepth 100000
set_option maxHeartbeats 3200000
variable {γ : Nat → Option AV}

def halfOk (s : Sta) : Bool := decide (0 ≤ s.half) && decide (s.half ≤ s.g.th.length) && (decide (s.half = 0) || (decide ((s.g.th.getD (s.half - 1).toNat []).length ≠ 0) && decide (((s.g.th.getD (s.half - 1).toNat []).getD ((s.g.th.getD (s.half - 1).toNat []).length - 1) ev0).kind = 1)))
theorem halfOk_iff (s : Sta) : halfOk s = true ↔ 0 ≤ s.half ∧ s.half ≤ s.g.th.length ∧ (s.half = 0 ∨ ((s.g.th.getD (s.half - 1).toNat []).length ≠ 0 ∧ ((s.g.th.getD (s.half - 1).toNat []).getD ((s.g.th.getD (s.half - 1).toNat []).length - 1) ev0).kind = 1)) := by
  unfold halfOk
  simp only [Bool.and_eq_true, Bool.or_eq_true, decide_eq_true_eq]
  constructor
  · rintro ⟨⟨a, b⟩, c⟩; exact ⟨a, b, c⟩
  · rintro ⟨a, b, c⟩; exact ⟨⟨a, b⟩, c⟩
def SOk (s : Sta) : Prop := GOk s.g ∧ markedM s.g s.ms = true ∧ halfOk s = true
instance (s : Sta) : Decidable (SOk s) := inferInstanceAs (Decidable (_ ∧ _))
def pcheckM (s : Sta) : Int := if SOk s then 0 else 2
theorem pcheck_ok (s : Sta) (hg : Rd s.g) (hm : (s.ms.length : Int) ≤ 17592186044416) : Pure Tryd.prog γ false 11 [aSt s] (.i fun _ => pcheckM s) := by
  have kg := gcheck_ok (γ := γ) s.g hg
  by_cases hgo : GOk s.g
  · have km := pmarked_ok (γ := γ) s.g hgo s.ms hm
    rw [gcheck0 hgo] at kg
    have hs := hgo.short
    have hth := hs.th
    have hle := hs.at (s.half - 1).toNat
    by_cases hmk : markedM s.g s.ms = true
    · rw [hmk] at km
      have hp : pcheckM s = if halfOk s then 0 else 2 := by
        unfold pcheckM SOk; simp [hgo, hmk]
      rw [hp]
      have hi := halfOk_iff s
      obtain ⟨L, hL⟩ : ∃ L, L = s.g.th.getD (s.half - 1).toNat [] := ⟨_, rfl⟩
      rw [← hL] at hle
      obtain ⟨z, hz⟩ : ∃ z : Int, z = if halfOk s then 0 else 2 := ⟨_, rfl⟩
      have h2 : ¬ (0 ≤ s.half ∧ s.half ≤ s.g.th.length ∧ (s.half = 0 ∨ ((s.g.th.getD (s.half - 1).toNat []).length ≠ 0 ∧ ((s.g.th.getD (s.half - 1).toNat []).getD ((s.g.th.getD (s.half - 1).toNat []).length - 1) ev0).kind = 1))) → 2 = z := fun h => by
        rw [hz, if_neg]; rwa [hi]
      have h0 : (0 ≤ s.half ∧ s.half ≤ s.g.th.length ∧ (s.half = 0 ∨ ((s.g.th.getD (s.half - 1).toNat []).length ≠ 0 ∧ ((s.g.th.getD (s.half - 1).toNat []).getD ((s.g.th.getD (s.half - 1).toNat []).length - 1) ev0).kind = 1))) → 0 = z := fun h => by
        rw [hz, if_pos]; rwa [hi]
      rw [← hz]
      clear hz hi hp
      by_cases hneg : 0 < s.half ∧ s.half ≤ s.g.th.length
      · have hle2 := hs.at (s.half - 1).toNat
        have hx : (((s.g.th.getD (s.half - 1).toNat []).length : Int) - 1).toNat = (s.g.th.getD (s.half - 1).toNat []).length - 1 := by omega
        obtain ⟨hw, ho⟩ : 0 ≤ s.half - 1 ∧ s.half - 1 < s.g.th.length := by omega
        refine Pure.go (ty := ty) ty_eq mo Tryd.func11 rfl Tryd.ntmps11 Tryd.results11 Tryd.call11 (by simp) fun P C CQ D W F E hF => ?_
        cbv
        repeat' (first
          | (refine E.c (SCalls.of_le (km) ?_ ?_); (· (cbv; (try simp only [nc] at *); first | done | (simp; done) | (simp (disch := (first | omega | (simp only [lnS, zA, zM, zG, zP]; omega))) only [nc, nct, w64_of, zT, zZ, zM, rdS, at_agg, bofZ, bof1, bof0, zC, zS, implies_true, and_true, true_and, forall_const]; first | done | omega | (refine ⟨?_, ?_⟩ <;> omega)) | (simp (disch := (first | omega | (simp only [lnS, zA, zM, zG, zP]; omega))) [nc, nct, w64_of, zT, zZ, zM, rdS, at_agg, bofZ, bof1, bof0, zC, zS]; done))); cbv)
          | (refine E.c (SCalls.of_le (kg) ?_ ?_); (· (cbv; (try simp only [nc] at *); first | done | (simp; done) | (simp (disch := (first | omega | (simp only [lnS, zA, zM, zG, zP]; omega))) only [nc, nct, w64_of, zT, zZ, zM, rdS, at_agg, bofZ, bof1, bof0, zC, zS, implies_true, and_true, true_and, forall_const]; first | done | omega | (refine ⟨?_, ?_⟩ <;> omega)) | (simp (disch := (first | omega | (simp only [lnS, zA, zM, zG, zP]; omega))) [nc, nct, w64_of, zT, zZ, zM, rdS, at_agg, bofZ, bof1, bof0, zC, zS]; done))); cbv)
          | (refine ⟨fun _ h_s => ?_, fun _ h_s => ?_⟩ <;> (cbv; (try simp only [nc] at *); try simp (disch := (first | omega | (simp only [lnS, zA, zM, zG, zP]; omega))) only [nc, nct, w64_of, zT, zZ, zM, rdS, at_agg, bofZ, bof1, bof0, zC, zS, reduceCtorEq, Bool.not_true, Bool.not_false, zD, zE, zB, zF, zN, zO, ne_eq, zQ, zL, zR, beq_iff_eq] at h_s))
          | (refine hF ?_; intro _; clear hF)
          | (refine hF ?_; cbv; clear hF)
          | (refine ⟨fun _ => ?_, ?_⟩; (· ((try simp only [nc] at *); first | done | omega | exact ⟨by omega, rfl⟩ | (simp (disch := (first | omega | (simp only [lnS, zA, zM, zG, zP]; omega))) only [nc, nct, w64_of, zT, zZ, zM, rdS, at_agg, bofZ, bof1, bof0, zC, zS]; first | done | omega | rfl | exact ⟨by omega, rfl⟩ | (simp; done) | (simp; omega)) | (intros; trivial))); (try (simp only [nc] at *)); (try simp (disch := (first | omega | (simp only [lnS, zA, zM, zG, zP]; omega))) only [nc, nct, w64_of, zT, zZ, zM, rdS, at_agg, bofZ, bof1, bof0, zC, zS]); (try cbv))
          | fail
        )
        all_goals (try simp only [hx] at h_s)
        all_goals first
          | exact absurd trivial h_s
          | (refine h2 ?_; ((try simp only [nc] at *); omega))
          | (refine h0 ?_; ((try simp only [nc] at *); omega))
          | (exfalso; ((try simp only [nc] at *); omega))
      · refine Pure.go (ty := ty) ty_eq mo Tryd.func11 rfl Tryd.ntmps11 Tryd.results11 Tryd.call11 (by simp) fun P C CQ D W F E hF => ?_
        cbv
        repeat' (first
          | (refine E.c (SCalls.of_le (km) ?_ ?_); (· (cbv; (try simp only [nc] at *); first | done | (simp; done) | (simp (disch := (first | omega | (simp only [lnS, zA, zM, zG, zP]; omega))) only [nc, nct, w64_of, zT, zZ, zM, rdS, at_agg, bofZ, bof1, bof0, zC, zS, implies_true, and_true, true_and, forall_const]; first | done | omega | (refine ⟨?_, ?_⟩ <;> omega)) | (simp (disch := (first | omega | (simp only [lnS, zA, zM, zG, zP]; omega))) [nc, nct, w64_of, zT, zZ, zM, rdS, at_agg, bofZ, bof1, bof0, zC, zS]; done))); cbv)
          | (refine E.c (SCalls.of_le (kg) ?_ ?_); (· (cbv; (try simp only [nc] at *); first | done | (simp; done) | (simp (disch := (first | omega | (simp only [lnS, zA, zM, zG, zP]; omega))) only [nc, nct, w64_of, zT, zZ, zM, rdS, at_agg, bofZ, bof1, bof0, zC, zS, implies_true, and_true, true_and, forall_const]; first | done | omega | (refine ⟨?_, ?_⟩ <;> omega)) | (simp (disch := (first | omega | (simp only [lnS, zA, zM, zG, zP]; omega))) [nc, nct, w64_of, zT, zZ, zM, rdS, at_agg, bofZ, bof1, bof0, zC, zS]; done))); cbv)
          | (refine ⟨fun _ h_s => ?_, fun _ h_s => ?_⟩ <;> (cbv; (try simp only [nc] at *); try simp (disch := (first | omega | (simp only [lnS, zA, zM, zG, zP]; omega))) only [nc, nct, w64_of, zT, zZ, zM, rdS, at_agg, bofZ, bof1, bof0, zC, zS, reduceCtorEq, Bool.not_true, Bool.not_false, zD, zE, zB, zF, zN, zO, ne_eq, zQ, zL, zR, beq_iff_eq] at h_s))
          | (refine hF ?_; intro _; clear hF)
          | (refine hF ?_; cbv; clear hF)
          | (refine ⟨fun _ => ?_, ?_⟩; (· ((try simp only [nc] at *); first | done | omega | exact ⟨by omega, rfl⟩ | (simp (disch := (first | omega | (simp only [lnS, zA, zM, zG, zP]; omega))) only [nc, nct, w64_of, zT, zZ, zM, rdS, at_agg, bofZ, bof1, bof0, zC, zS]; first | done | omega | rfl | exact ⟨by omega, rfl⟩ | (simp; done) | (simp; omega)) | (intros; trivial))); (try (simp only [nc] at *)); (try simp (disch := (first | omega | (simp only [lnS, zA, zM, zG, zP]; omega))) only [nc, nct, w64_of, zT, zZ, zM, rdS, at_agg, bofZ, bof1, bof0, zC, zS]); (try cbv))
          | fail
        )
        all_goals first
          | exact absurd trivial h_s
          | (refine h2 ?_; ((try simp only [nc] at *); omega))
          | (refine h0 ?_; ((try simp only [nc] at *); omega))
          | (exfalso; ((try simp only [nc] at *); omega))
    · have e : markedM s.g s.ms = false := by simpa using hmk
      rw [e] at km
      rw [show pcheckM s = 2 from if_neg fun h => hmk h.2.1]
      refine Pure.go (ty := ty) ty_eq mo Tryd.func11 rfl Tryd.ntmps11 Tryd.results11 Tryd.call11 (by simp) fun P C CQ D W F E hF => ?_
      cbv
      repeat' (first
        | (refine E.c (SCalls.of_le (km) ?_ ?_); (· (cbv; (try simp only [nc] at *); first | done | (simp; done) | (simp (disch := (first | omega | (simp only [lnS, zA, zM, zG, zP]; omega))) only [nc, nct, w64_of, zT, zZ, zM, rdS, at_agg, bofZ, bof1, bof0, zC, zS, implies_true, and_true, true_and, forall_const]; first | done | omega | (refine ⟨?_, ?_⟩ <;> omega)) | (simp (disch := (first | omega | (simp only [lnS, zA, zM, zG, zP]; omega))) [nc, nct, w64_of, zT, zZ, zM, rdS, at_agg, bofZ, bof1, bof0, zC, zS]; done))); cbv)
        | (refine E.c (SCalls.of_le (kg) ?_ ?_); (· (cbv; (try simp only [nc] at *); first | done | (simp; done) | (simp (disch := (first | omega | (simp only [lnS, zA, zM, zG, zP]; omega))) only [nc, nct, w64_of, zT, zZ, zM, rdS, at_agg, bofZ, bof1, bof0, zC, zS, implies_true, and_true, true_and, forall_const]; first | done | omega | (refine ⟨?_, ?_⟩ <;> omega)) | (simp (disch := (first | omega | (simp only [lnS, zA, zM, zG, zP]; omega))) [nc, nct, w64_of, zT, zZ, zM, rdS, at_agg, bofZ, bof1, bof0, zC, zS]; done))); cbv)
        | (refine ⟨fun _ h_s => ?_, fun _ h_s => ?_⟩ <;> (cbv; (try simp only [nc] at *); try simp (disch := (first | omega | (simp only [lnS, zA, zM, zG, zP]; omega))) only [nc, nct, w64_of, zT, zZ, zM, rdS, at_agg, bofZ, bof1, bof0, zC, zS, reduceCtorEq, Bool.not_true, Bool.not_false, zD, zE, zB, zF, zN, zO, ne_eq, zQ, zL, zR, beq_iff_eq] at h_s))
        | (refine hF ?_; intro _; clear hF)
        | (refine hF ?_; cbv; clear hF)
        | (refine ⟨fun _ => ?_, ?_⟩; (· ((try simp only [nc] at *); first | done | omega | exact ⟨by omega, rfl⟩ | (simp (disch := (first | omega | (simp only [lnS, zA, zM, zG, zP]; omega))) only [nc, nct, w64_of, zT, zZ, zM, rdS, at_agg, bofZ, bof1, bof0, zC, zS]; first | done | omega | rfl | exact ⟨by omega, rfl⟩ | (simp; done) | (simp; omega)) | (intros; trivial))); (try (simp only [nc] at *)); (try simp (disch := (first | omega | (simp only [lnS, zA, zM, zG, zP]; omega))) only [nc, nct, w64_of, zT, zZ, zM, rdS, at_agg, bofZ, bof1, bof0, zC, zS]); (try cbv))
        | fail
      )
      all_goals first
        | (exfalso; revert h_s; simp; done)
        | rfl
  · rw [show pcheckM s = 2 from if_neg fun h => hgo h.1]
    have hc : gcheckM s.g ≠ 0 := by unfold gcheckM; split <;> simp [hgo]
    refine Pure.go (ty := ty) ty_eq mo Tryd.func11 rfl Tryd.ntmps11 Tryd.results11 Tryd.call11 (by simp) fun P C CQ D W F E hF => ?_
    cbv
    repeat' (first
      | (refine E.c (SCalls.of_le (kg) ?_ ?_); (· (cbv; (try simp only [nc] at *); first | done | (simp; done) | (simp (disch := (first | omega | (simp only [lnS, zA, zM, zG, zP]; omega))) only [nc, nct, w64_of, zT, zZ, zM, rdS, at_agg, bofZ, bof1, bof0, zC, zS, implies_true, and_true, true_and, forall_const]; first | done | omega | (refine ⟨?_, ?_⟩ <;> omega)) | (simp (disch := (first | omega | (simp only [lnS, zA, zM, zG, zP]; omega))) [nc, nct, w64_of, zT, zZ, zM, rdS, at_agg, bofZ, bof1, bof0, zC, zS]; done))); cbv)
      | (refine ⟨fun _ h_s => ?_, fun _ h_s => ?_⟩ <;> (cbv; (try simp only [nc] at *); try simp (disch := (first | omega | (simp only [lnS, zA, zM, zG, zP]; omega))) only [nc, nct, w64_of, zT, zZ, zM, rdS, at_agg, bofZ, bof1, bof0, zC, zS, reduceCtorEq, Bool.not_true, Bool.not_false, zD, zE, zB, zF, zN, zO, ne_eq, zQ, zL, zR, beq_iff_eq] at h_s))
      | (refine hF ?_; intro _; clear hF)
      | (refine hF ?_; cbv; clear hF)
      | (refine ⟨fun _ => ?_, ?_⟩; (· ((try simp only [nc] at *); first | done | omega | exact ⟨by omega, rfl⟩ | (simp (disch := (first | omega | (simp only [lnS, zA, zM, zG, zP]; omega))) only [nc, nct, w64_of, zT, zZ, zM, rdS, at_agg, bofZ, bof1, bof0, zC, zS]; first | done | omega | rfl | exact ⟨by omega, rfl⟩ | (simp; done) | (simp; omega)) | (intros; trivial))); (try (simp only [nc] at *)); (try simp (disch := (first | omega | (simp only [lnS, zA, zM, zG, zP]; omega))) only [nc, nct, w64_of, zT, zZ, zM, rdS, at_agg, bofZ, bof1, bof0, zC, zS]); (try cbv))
      | fail
    )
    all_goals first
      | exact absurd trivial h_s
      | rfl
      | (exfalso; ((try simp only [nc] at *); omega))
      | exact absurd h_s hc
end Go.AL.Rl

namespace Go.AL.Rl
open Go Go.AL Go.Proofs
set_option maxRecDepth 100000
set_option maxHeartbeats 3200000
variable {γ : Nat → Option AV}

def keptM (k : Gr) (m : Mk) : Bool := decide (m.id.i < (k.th.getD (m.id.t - 1).toNat []).length)
def cutM (s : Sta) (l : List EId) : Sta := ⟨keepM s.g l, s.ms.filter (keptM (keepM s.g l)), if 0 < s.half ∧ ((keepM s.g l).th.getD (s.half - 1).toNat []).length = (s.g.th.getD (s.half - 1).toNat []).length then s.half else 0⟩
abbrev sz : Sta := ⟨gz, [], 0⟩
theorem keep_th (g : Gr) (l : List EId) (t : Nat) : (keepM g l).th.getD t [] = if t < g.th.length then keepTh g l t (g.th.getD t []).length else [] := by
  unfold keepM
  by_cases h : t < g.th.length
  · rw [if_pos h]; simp [h]
  · rw [if_neg h]; simp [h]
theorem keep_thl (g : Gr) (l : List EId) : (keepM g l).th.length = g.th.length := by simp [keepM]
theorem keep_le (g : Gr) (l : List EId) (t : Nat) : ((keepM g l).th.getD t []).length ≤ (g.th.getD t []).length := by
  rw [keep_th]
  split
  · unfold keepTh; rw [List.length_map]; exact keepP_len l t _
  · exact Nat.zero_le _
theorem pcut_ok (hγ : γ 0 = some tabAV) (s : Sta) (hg : Rd s.g) (hm : (s.ms.length : Int) ≤ 17592186044416) (l : List EId) (hl : (l.length : Int) ≤ 17592186044416) :
    Pure Tryd.prog γ false 6 [aSt s, .vs 2 fun _ => ids l] (.tup [aSt (if SOk s ∧ closedG s.g l = true then cutM s l else sz), .i fun _ => if SOk s ∧ closedG s.g l = true then 0 else 2]) := by
  have kc := pcheck_ok (γ := γ) s hg hm
  have kk := pkeep_ok (γ := γ) hγ s.g hg l hl
  by_cases hs : SOk s
  · rw [show pcheckM s = 0 from if_pos hs] at kc
    by_cases hc : closedG s.g l = true
    · rw [if_pos ⟨hs, hc⟩, if_pos ⟨hs, hc⟩]
      rw [if_pos hc, if_pos hc] at kk
      have hsh := hs.1.short
      have hth := hsh.th
      have hle := hsh.at
      have hin : ∀ i, i < s.ms.length → _ := fun i hi => marked_in hs.2.1 (getD_mem (d := mk0) hi)
      have hkl := keep_thl s.g l
      have hml : s.ms.length ≤ 112 := by
        have h1 := cntN_le hsh s.g.th.length
        have h2 := ((marked_iff s.g s.ms).1 hs.2.1).1.length_eq
        rw [allN_len] at h2
        omega
      obtain ⟨hh1, hh2, hh3⟩ := (halfOk_iff s).1 hs.2.2
      clear hh3
      have hke := keep_le s.g l
      obtain ⟨p, hp⟩ : ∃ p, p = keptM (keepM s.g l) := ⟨_, rfl⟩
      have hp2 : ∀ m, p m = decide (m.id.i < ((keepM s.g l).th.getD (m.id.t - 1).toNat []).length) := fun m => by rw [hp]; rfl
      obtain ⟨M, hM⟩ : ∃ M : Nat → List Mk, ∀ i, M i = (s.ms.take i).filter p := ⟨_, fun _ => rfl⟩
      have hM0 : M 0 = [] := by rw [hM]; rfl
      have hMS : ∀ i, i < s.ms.length → M (i + 1) = M i ++ if p (s.ms.getD i mk0) then [s.ms.getD i mk0] else [] := fun i hi => by
        rw [hM, hM, take_succ' _ i mk0 hi, List.filter_append]
        congr 1
        cases h : p (s.ms.getD i mk0) with
        | true => rw [List.filter_cons_of_pos h]; rfl
        | false => rw [List.filter_cons_of_neg (by rw [h]; simp)]; rfl
      have hMl : ∀ i, (M i).length ≤ i := fun i => by rw [hM]; exact Nat.le_trans (List.length_filter_le _ _) (by simp; omega)
      have hMe : M s.ms.length = (cutM s l).ms := by rw [hM, List.take_length, hp]; rfl
      have hcg : (cutM s l).g = keepM s.g l := rfl
      have hch : (cutM s l).half = if 0 < s.half ∧ ((keepM s.g l).th.getD (s.half - 1).toNat []).length = (s.g.th.getD (s.half - 1).toNat []).length then s.half else 0 := rfl
      generalize keepM s.g l = k at *
      generalize cutM s l = c at *
      refine Pure.go (ty := ty) ty_eq mo Tryd.func6 rfl Tryd.ntmps6 Tryd.results6 Tryd.call6 (by simp) fun P C CQ D W F E hF => ?_
      cbv
      repeat' (first
        | (refine E.c (SCalls.of_le (kk) ?_ ?_); (· (cbv; (try simp only [nc] at *); first | done | (simp; done) | (simp (disch := (first | omega | (simp only [lnS, zA, zM, zG, zP]; omega))) only [nc, nct, w64_of, zT, zZ, zM, rdS, at_agg, bofZ, bof1, bof0, zC, zS, implies_true, and_true, true_and, forall_const]; first | done | omega | (refine ⟨?_, ?_⟩ <;> omega)) | (simp (disch := (first | omega | (simp only [lnS, zA, zM, zG, zP]; omega))) [nc, nct, w64_of, zT, zZ, zM, rdS, at_agg, bofZ, bof1, bof0, zC, zS]; done))); cbv)
        | (refine E.c (SCalls.of_le (kc) ?_ ?_); (· (cbv; (try simp only [nc] at *); first | done | (simp; done) | (simp (disch := (first | omega | (simp only [lnS, zA, zM, zG, zP]; omega))) only [nc, nct, w64_of, zT, zZ, zM, rdS, at_agg, bofZ, bof1, bof0, zC, zS, implies_true, and_true, true_and, forall_const]; first | done | omega | (refine ⟨?_, ?_⟩ <;> omega)) | (simp (disch := (first | omega | (simp only [lnS, zA, zM, zG, zP]; omega))) [nc, nct, w64_of, zT, zZ, zM, rdS, at_agg, bofZ, bof1, bof0, zC, zS]; done))); cbv)
        | (refine ⟨fun _ h_s => ?_, fun _ h_s => ?_⟩ <;> (cbv; (try simp only [nc] at *); try simp (disch := (first | omega | (simp only [lnS, zA, zM, zG, zP]; omega))) only [nc, nct, w64_of, zT, zZ, zM, rdS, at_agg, bofZ, bof1, bof0, zC, zS, reduceCtorEq, Bool.not_true, Bool.not_false, zD, zE, zB, zF, zN, zO, ne_eq, zQ, zL, zR, beq_iff_eq] at h_s))
        | (refine hF ?_; intro _; clear hF)
        | (refine hF ?_; cbv; clear hF)
        | (refine ⟨fun _ => ?_, ?_⟩; (· ((try simp only [nc] at *); first | done | omega | exact ⟨by omega, rfl⟩ | (simp (disch := (first | omega | (simp only [lnS, zA, zM, zG, zP]; omega))) only [nc, nct, w64_of, zT, zZ, zM, rdS, at_agg, bofZ, bof1, bof0, zC, zS]; first | done | omega | rfl | exact ⟨by omega, rfl⟩ | (simp; done) | (simp; omega)) | (intros; trivial))); (try (simp only [nc] at *)); (try simp (disch := (first | omega | (simp only [lnS, zA, zM, zG, zP]; omega))) only [nc, nct, w64_of, zT, zZ, zM, rdS, at_agg, bofZ, bof1, bof0, zC, zS]); (try cbv))
        | (refine E.d 12 (by decide +kernel) ?_; cbv; (fail_if_success guard_target =~ False))
        | (refine E.d 18 (by decide +kernel) ?_; cbv; (fail_if_success guard_target =~ False))
        | fail
      )
      · exact absurd h_s (by simp)
      · exact absurd h_s (by simp)
      have hG : ∃ G : Nat → Nat, ∀ x, G x = x := ⟨_, fun _ => rfl⟩
      obtain ⟨G, hG⟩ := hG
      skip
      refine E.w (AWP.ghostField 3 4 3 rfl rfl ?_)
      refine E.loopSA (ι := Nat) (fun x => x ≤ s.ms.length) (fun x => s.ms.length - x) (fun x => [(35, .i fun _ => ((x : Nat) : Int))]) (fun x h => (h.set 3 (.box (.agg [.vs 1 fun _ => is k.init, .vs 1 fun _ => evss k.th, .vs 1 fun _ => idss k.fr, .vs 1 fun _ => idss k.ord, .sl 4 (G (M x).length) 3 (fun _ => 0) fun _ => (M x).length, .lit 0]))).set 4 (.run (G (M x).length) 3 fun _ => mks (M x))) 0 (fun _ => by first | rfl | simp) (Nat.zero_le _) ?_ fun x hx I hI => ?_
      · cbv; simp [hM0, hG, mks, LV.of]
      cbv
      have e1 := hMS x
      have e2 := hMl x
      have e3 := hin x
      have e4 := hle ((s.ms.getD x mk0).id.t - 1).toNat
      have e5 := hke ((s.ms.getD x mk0).id.t - 1).toNat
      skip
      repeat' (first
        | (refine hI (x + 1) ?_ ?_ ?_; rotate_left 1; (· ((try simp only [nc] at *); omega)); (cbv; clear hI; (try clear hF); (try simp only [nc] at *); (try simp (disch := (first | omega | (simp only [lnS, zA, zM, zG, zP, mks_len]; omega))) only [nc, nct, w64_of, zT, zZ, zM, rdS, at_agg, bofZ, bof1, bof0, zC, zS, mks_len, mks_get, implies_true, and_true, true_and, forall_const])); rotate_left 1; (try ((try simp only [nc] at *); omega)))
        | (refine ⟨fun _ h_s => ?_, fun _ h_s => ?_⟩ <;> (cbv; (try simp only [nc] at *); try simp (disch := (first | omega | (simp only [lnS, zA, zM, zG, zP, mks_len]; omega))) only [nc, nct, w64_of, zT, zZ, zM, rdS, at_agg, bofZ, bof1, bof0, zC, zS, mks_len, mks_get, reduceCtorEq, Bool.not_true, Bool.not_false, zD, zE, zB, zF, zN, zO, ne_eq, zQ, zL, zR, beq_iff_eq] at h_s))
        | (refine hF ?_; intro _; clear hF)
        | (refine hF ?_; cbv; clear hF)
        | (refine ⟨fun _ => ?_, ?_⟩; (· ((try simp only [nc] at *); first | done | omega | exact ⟨by omega, rfl⟩ | (simp (disch := (first | omega | (simp only [lnS, zA, zM, zG, zP, mks_len]; omega))) only [nc, nct, w64_of, zT, zZ, zM, rdS, at_agg, bofZ, bof1, bof0, zC, zS, mks_len, mks_get]; first | done | omega | rfl | exact ⟨by omega, rfl⟩ | (simp; done) | (simp; omega)) | (intros; trivial) | exact ⟨by first | trivial | rfl, by first | trivial | rfl | simp, by first | trivial | simp, by simp; omega, by simp; omega, by simp [AV.flat, AV.cells, AV.one]⟩)); (try (simp only [nc] at *)); (try simp (disch := (first | omega | (simp only [lnS, zA, zM, zG, zP, mks_len]; omega))) only [nc, nct, w64_of, zT, zZ, zM, rdS, at_agg, bofZ, bof1, bof0, zC, zS, mks_len, mks_get]); (try cbv))
        | (refine E.d 12 (by decide +kernel) ?_; cbv; (fail_if_success guard_target =~ False))
        | (refine E.d 18 (by decide +kernel) ?_; cbv; (fail_if_success guard_target =~ False))
        | fail
      )
      · rw [e1 (by ((try simp only [nc] at *); omega)), hp2, if_pos (decide_eq_true h_s)]
        simp [hG, mks, setAll, AV.nrm, nrms, nrm1]
      · rw [e1 (by ((try simp only [nc] at *); omega)), hp2, if_neg (by simpa using h_s), List.append_nil]
        simp
      all_goals have e : x = s.ms.length := by ((try simp only [nc] at *); omega)
      all_goals subst e
      all_goals have t1 : List.take (M s.ms.length).length (mks (M s.ms.length)).l = (mks c.ms).l := by rw [List.take_of_length_le (by rw [mks_len]; exact Nat.le_refl _), hMe]
      all_goals simp only [hcg, hch, mks_len, List.drop_zero, t1, Nat.zero_add, Nat.le_refl, and_self, and_true, true_and, implies_true]
      · rw [if_pos ⟨by ((try simp only [nc] at *); omega), by ((try simp only [nc] at *); omega)⟩]; simp
      · rw [if_neg fun h => by ((try simp only [nc] at *); omega)]; simp
      · rw [if_neg fun h => by ((try simp only [nc] at *); omega)]; simp
    · rw [if_neg fun h => hc h.2, if_neg fun h => hc h.2]
      rw [if_neg hc, if_neg hc] at kk
      refine Pure.go (ty := ty) ty_eq mo Tryd.func6 rfl Tryd.ntmps6 Tryd.results6 Tryd.call6 (by simp) fun P C CQ D W F E hF => ?_
      cbv
      repeat' (first
        | (refine E.c (SCalls.of_le (kk) ?_ ?_); (· (cbv; (try simp only [nc] at *); first | done | (simp; done) | (simp (disch := (first | omega | (simp only [lnS, zA, zM, zG, zP, mks_len]; omega))) only [nc, nct, w64_of, zT, zZ, zM, rdS, at_agg, bofZ, bof1, bof0, zC, zS, mks_len, mks_get, implies_true, and_true, true_and, forall_const]; first | done | omega | (refine ⟨?_, ?_⟩ <;> omega)) | (simp (disch := (first | omega | (simp only [lnS, zA, zM, zG, zP, mks_len]; omega))) [nc, nct, w64_of, zT, zZ, zM, rdS, at_agg, bofZ, bof1, bof0, zC, zS, mks_len, mks_get]; done))); cbv)
        | (refine E.c (SCalls.of_le (kc) ?_ ?_); (· (cbv; (try simp only [nc] at *); first | done | (simp; done) | (simp (disch := (first | omega | (simp only [lnS, zA, zM, zG, zP, mks_len]; omega))) only [nc, nct, w64_of, zT, zZ, zM, rdS, at_agg, bofZ, bof1, bof0, zC, zS, mks_len, mks_get, implies_true, and_true, true_and, forall_const]; first | done | omega | (refine ⟨?_, ?_⟩ <;> omega)) | (simp (disch := (first | omega | (simp only [lnS, zA, zM, zG, zP, mks_len]; omega))) [nc, nct, w64_of, zT, zZ, zM, rdS, at_agg, bofZ, bof1, bof0, zC, zS, mks_len, mks_get]; done))); cbv)
        | (refine ⟨fun _ h_s => ?_, fun _ h_s => ?_⟩ <;> (cbv; (try simp only [nc] at *); try simp (disch := (first | omega | (simp only [lnS, zA, zM, zG, zP, mks_len]; omega))) only [nc, nct, w64_of, zT, zZ, zM, rdS, at_agg, bofZ, bof1, bof0, zC, zS, mks_len, mks_get, reduceCtorEq, Bool.not_true, Bool.not_false, zD, zE, zB, zF, zN, zO, ne_eq, zQ, zL, zR, beq_iff_eq] at h_s))
        | (refine hF ?_; intro _; clear hF)
        | (refine hF ?_; cbv; clear hF)
        | (refine ⟨fun _ => ?_, ?_⟩; (· ((try simp only [nc] at *); first | done | omega | exact ⟨by omega, rfl⟩ | (simp (disch := (first | omega | (simp only [lnS, zA, zM, zG, zP, mks_len]; omega))) only [nc, nct, w64_of, zT, zZ, zM, rdS, at_agg, bofZ, bof1, bof0, zC, zS, mks_len, mks_get]; first | done | omega | rfl | exact ⟨by omega, rfl⟩ | (simp; done) | (simp; omega)) | (intros; trivial) | exact ⟨by first | trivial | rfl, by first | trivial | rfl | simp, by first | trivial | simp, by simp; omega, by simp; omega, by simp [AV.flat, AV.cells, AV.one]⟩)); (try (simp only [nc] at *)); (try simp (disch := (first | omega | (simp only [lnS, zA, zM, zG, zP, mks_len]; omega))) only [nc, nct, w64_of, zT, zZ, zM, rdS, at_agg, bofZ, bof1, bof0, zC, zS, mks_len, mks_get]); (try cbv))
        | (refine E.d 12 (by decide +kernel) ?_; cbv; (fail_if_success guard_target =~ False))
        | (refine E.d 18 (by decide +kernel) ?_; cbv; (fail_if_success guard_target =~ False))
        | fail
      )
      all_goals first
        | (exfalso; revert h_s; simp; done)
        | (simp [is, ids, evss, idss, mks, LV.of, LV.l]; done)
  · rw [if_neg fun h => hs h.1, if_neg fun h => hs h.1]
    rw [show pcheckM s = 2 from if_neg hs] at kc
    refine Pure.go (ty := ty) ty_eq mo Tryd.func6 rfl Tryd.ntmps6 Tryd.results6 Tryd.call6 (by simp) fun P C CQ D W F E hF => ?_
    cbv
    repeat' (first
      | (refine E.c (SCalls.of_le (kc) ?_ ?_); (· (cbv; (try simp only [nc] at *); first | done | (simp; done) | (simp (disch := (first | omega | (simp only [lnS, zA, zM, zG, zP, mks_len]; omega))) only [nc, nct, w64_of, zT, zZ, zM, rdS, at_agg, bofZ, bof1, bof0, zC, zS, mks_len, mks_get, implies_true, and_true, true_and, forall_const]; first | done | omega | (refine ⟨?_, ?_⟩ <;> omega)) | (simp (disch := (first | omega | (simp only [lnS, zA, zM, zG, zP, mks_len]; omega))) [nc, nct, w64_of, zT, zZ, zM, rdS, at_agg, bofZ, bof1, bof0, zC, zS, mks_len, mks_get]; done))); cbv)
      | (refine ⟨fun _ h_s => ?_, fun _ h_s => ?_⟩ <;> (cbv; (try simp only [nc] at *); try simp (disch := (first | omega | (simp only [lnS, zA, zM, zG, zP, mks_len]; omega))) only [nc, nct, w64_of, zT, zZ, zM, rdS, at_agg, bofZ, bof1, bof0, zC, zS, mks_len, mks_get, reduceCtorEq, Bool.not_true, Bool.not_false, zD, zE, zB, zF, zN, zO, ne_eq, zQ, zL, zR, beq_iff_eq] at h_s))
      | (refine hF ?_; intro _; clear hF)
      | (refine hF ?_; cbv; clear hF)
      | (refine ⟨fun _ => ?_, ?_⟩; (· ((try simp only [nc] at *); first | done | omega | exact ⟨by omega, rfl⟩ | (simp (disch := (first | omega | (simp only [lnS, zA, zM, zG, zP, mks_len]; omega))) only [nc, nct, w64_of, zT, zZ, zM, rdS, at_agg, bofZ, bof1, bof0, zC, zS, mks_len, mks_get]; first | done | omega | rfl | exact ⟨by omega, rfl⟩ | (simp; done) | (simp; omega)) | (intros; trivial) | exact ⟨by first | trivial | rfl, by first | trivial | rfl | simp, by first | trivial | simp, by simp; omega, by simp; omega, by simp [AV.flat, AV.cells, AV.one]⟩)); (try (simp only [nc] at *)); (try simp (disch := (first | omega | (simp only [lnS, zA, zM, zG, zP, mks_len]; omega))) only [nc, nct, w64_of, zT, zZ, zM, rdS, at_agg, bofZ, bof1, bof0, zC, zS, mks_len, mks_get]); (try cbv))
      | (refine E.d 12 (by decide +kernel) ?_; cbv; (fail_if_success guard_target =~ False))
      | (refine E.d 18 (by decide +kernel) ?_; cbv; (fail_if_success guard_target =~ False))
      | fail
    )
    all_goals first
      | (exfalso; revert h_s; simp; done)
      | (simp [is, ids, evss, idss, mks, LV.of, LV.l]; done)
end Go.AL.Rl

namespace Go.AL.Rl
open Go Go.AL Go.Proofs
set_option maxRecDepth 100000
set_option maxHeartbeats 3200000
variable {γ : Nat → Option AV}

theorem kids_ok (a b : List EId) (ha : (a.length : Int) ≤ 9223372036854775807) : Pure Tryd.prog γ false 9 [.vs 2 fun _ => ids a, .vs 2 fun _ => ids b] (.b fun _ => decide (a = b)) := by
  refine Pure.go (ty := ty) ty_eq mo Tryd.func9 rfl Tryd.ntmps9 Tryd.results9 Tryd.call9 (by simp) fun P C CQ D W F E hF => ?_
  cbv
  repeat' (first
    | (refine ⟨fun _ h_s => ?_, fun _ h_s => ?_⟩ <;> (cbv; (try simp only [nc] at *); try simp (disch := (first | omega | (simp only [lnS, zA, zM, zG, zP]; omega))) only [nc, nct, w64_of, zT, zZ, zM, rdS, at_agg, bofZ, bof1, bof0, zC, zS, reduceCtorEq, Bool.not_true, Bool.not_false, zD, zE, zB, zF, zN, zO, ne_eq, zQ, zL, zR, beq_iff_eq] at h_s))
    | (refine hF ?_; intro _; clear hF)
    | (refine hF ?_; cbv; clear hF)
    | (refine ⟨fun _ => ?_, ?_⟩; (· ((try simp only [nc] at *); first | done | omega | exact ⟨by omega, rfl⟩ | (simp (disch := (first | omega | (simp only [lnS, zA, zM, zG, zP]; omega))) only [nc, nct, w64_of, zT, zZ, zM, rdS, at_agg, bofZ, bof1, bof0, zC, zS]; first | done | omega | rfl | exact ⟨by omega, rfl⟩ | (simp; done) | (simp; omega)) | (intros; trivial))); (try (simp only [nc] at *)); (try simp (disch := (first | omega | (simp only [lnS, zA, zM, zG, zP]; omega))) only [nc, nct, w64_of, zT, zZ, zM, rdS, at_agg, bofZ, bof1, bof0, zC, zS]); (try cbv))
    | (refine E.d 8 (by decide +kernel) ?_; cbv; (fail_if_success guard_target =~ False))
    | fail
  )
  · simp
    intro e; subst e; simp_all
  · refine E.loopS (ι := Nat) (fun i => i ≤ a.length ∧ (∀ k < i, a.getD k id0 = b.getD k id0)) (fun i => a.length - i) (fun i => [(5, .i fun _ => ((i : Nat) : Int))]) (fun i h => h) 0 (fun _ => by first | rfl | simp) ⟨Nat.zero_le _, ?_⟩ ?_ fun i hi I hI => ?_
    · intro k hk; omega
    · cbv; simp
    cbv
    obtain ⟨hi, hp⟩ := hi
    repeat' (first
      | (refine hI (i + 1) ?_ ?_ ?_; rotate_left 1; (· ((try simp only [nc] at *); omega)); (cbv; clear hI; (try clear hF); (try simp only [nc] at *); (try simp (disch := (first | omega | (simp only [lnS, zA, zM, zG, zP]; omega))) only [nc, nct, w64_of, zT, zZ, zM, rdS, at_agg, bofZ, bof1, bof0, zC, zS, implies_true, and_true, true_and, forall_const])); rotate_left 1; (try ((try simp only [nc] at *); omega)))
      | (refine ⟨fun _ h_s => ?_, fun _ h_s => ?_⟩ <;> (cbv; (try simp only [nc] at *); try simp (disch := (first | omega | (simp only [lnS, zA, zM, zG, zP]; omega))) only [nc, nct, w64_of, zT, zZ, zM, rdS, at_agg, bofZ, bof1, bof0, zC, zS, reduceCtorEq, Bool.not_true, Bool.not_false, zD, zE, zB, zF, zN, zO, ne_eq, zQ, zL, zR, beq_iff_eq] at h_s))
      | (refine hF ?_; intro _; clear hF)
      | (refine hF ?_; cbv; clear hF)
      | (refine ⟨fun _ => ?_, ?_⟩; (· ((try simp only [nc] at *); first | done | omega | exact ⟨by omega, rfl⟩ | (simp (disch := (first | omega | (simp only [lnS, zA, zM, zG, zP]; omega))) only [nc, nct, w64_of, zT, zZ, zM, rdS, at_agg, bofZ, bof1, bof0, zC, zS]; first | done | omega | rfl | exact ⟨by omega, rfl⟩ | (simp; done) | (simp; omega)) | (intros; trivial))); (try (simp only [nc] at *)); (try simp (disch := (first | omega | (simp only [lnS, zA, zM, zG, zP]; omega))) only [nc, nct, w64_of, zT, zZ, zM, rdS, at_agg, bofZ, bof1, bof0, zC, zS]); (try cbv))
      | (refine E.d 8 (by decide +kernel) ?_; cbv; (fail_if_success guard_target =~ False))
      | fail
    )
    · refine decide_eq_false fun e => ?_
      subst e
      simp at h_s
    · refine ⟨by ((try simp only [nc] at *); omega), fun k hk => ?_⟩
      rcases Nat.lt_or_ge k i with h1 | h1
      · exact hp k h1
      · obtain rfl : k = i := by omega
        have h2 : (a.getD k id0).t = (b.getD k id0).t ∧ (a.getD k id0).i = (b.getD k id0).i := by simpa using h_s
        exact EId.ext' h2.1 h2.2
    · push_cast; rfl
    · refine decide_eq_true (List.ext_getElem (by ((try simp only [nc] at *); omega)) fun k h1 h2 => ?_)
      have := hp k (by ((try simp only [nc] at *); omega))
      simpa [h1, h2] using this
end Go.AL.Rl

namespace Go.AL.Rl
open Go Go.AL Go.Proofs
set_option maxRecDepth 100000
set_option maxHeartbeats 3200000
variable {γ : Nat → Option AV}

def gX : Gr := ⟨[0, 0], [[⟨2, 1, 1, 0, 5⟩, ⟨2, 0, 4, 0, 1⟩], [⟨1, 0, 3, 1, 0⟩, ⟨1, 1, 1, 5, 0⟩]], [[⟨0, 0⟩, ⟨0, 0⟩], [⟨1, 1⟩, ⟨1, 0⟩]], [[⟨1, 1⟩], [⟨1, 0⟩]]⟩
def msX : List Mk := [⟨⟨1, 0⟩, true⟩, ⟨⟨1, 1⟩, true⟩, ⟨⟨2, 0⟩, false⟩, ⟨⟨2, 1⟩, false⟩]
theorem rdX : Rd gX := by
  refine ⟨by simp [gX], by simp [gX], by simp [gX], by simp [gX], ?_, ?_, ?_⟩ <;> simp [gX]
theorem exX_ok : Pure Tryd.prog γ false 5 [] (aGr gX) := by
  refine Pure.go (ty := ty) ty_eq mo Tryd.func5 rfl Tryd.ntmps5 Tryd.results5 Tryd.call5 (by simp) fun P C CQ D W F E hF => ?_
  cbv
  repeat' (first
    | (refine ⟨fun _ h_s => ?_, fun _ h_s => ?_⟩ <;> (cbv; (try simp only [nc] at *); try simp (disch := (first | omega | (simp only [lnS, zA, zM, zG, zP]; omega))) only [nc, nct, w64_of, zT, zZ, zM, rdS, at_agg, bofZ, bof1, bof0, zC, zS, reduceCtorEq, Bool.not_true, Bool.not_false, zD, zE, zB, zF, zN, zO, ne_eq, zQ, zL, zR, beq_iff_eq] at h_s))
    | (refine hF ?_; intro _; clear hF)
    | (refine hF ?_; cbv; clear hF)
    | (refine ⟨fun _ => ?_, ?_⟩; (· ((try simp only [nc] at *); first | done | omega | exact ⟨by omega, rfl⟩ | (simp (disch := (first | omega | (simp only [lnS, zA, zM, zG, zP]; omega))) only [nc, nct, w64_of, zT, zZ, zM, rdS, at_agg, bofZ, bof1, bof0, zC, zS]; first | done | omega | rfl | exact ⟨by omega, rfl⟩ | (simp; done) | (simp; omega)) | (intros; trivial))); (try (simp only [nc] at *)); (try simp (disch := (first | omega | (simp only [lnS, zA, zM, zG, zP]; omega))) only [nc, nct, w64_of, zT, zZ, zM, rdS, at_agg, bofZ, bof1, bof0, zC, zS]); (try cbv))
    | fail
  )
  all_goals simp [gX, is, ids, evs, evss, idss, LV.of, LV.l, setAll, AV.nrm, nrms, nrm1]
theorem lX1 : leansM gX ⟨2, 0⟩ = [⟨1, 0⟩, ⟨1, 1⟩] := by decide +kernel
theorem lX2 : leansM gX ⟨1, 1⟩ = [⟨1, 0⟩] := by decide +kernel
theorem cX1 : closedG gX [⟨1, 0⟩] = true := by decide +kernel
theorem cX2 : closedG gX [⟨2, 0⟩] = false := by decide +kernel
theorem cX3 : closeM gX [⟨2, 0⟩] = [⟨1, 0⟩, ⟨1, 1⟩, ⟨2, 0⟩] := by decide +kernel
theorem cX4 : closedG gX [⟨1, 0⟩, ⟨1, 1⟩, ⟨2, 0⟩] = true := by decide +kernel
theorem sX1 : SOk ⟨gX, msX, 0⟩ := by decide +kernel
theorem sX2 : ¬ SOk ⟨gX, msX, 1⟩ := by decide +kernel
theorem tX : (cutM ⟨gX, msX, 0⟩ [⟨1, 0⟩, ⟨1, 1⟩, ⟨2, 0⟩]).ms.length = 3 := by decide +kernel
theorem wX1 : numK msX ⟨⟨2, 0⟩, false⟩ = 2 := by decide +kernel
theorem wX2 : numK msX ⟨⟨0, 0⟩, false⟩ = -1 := by decide +kernel
theorem kX : (keepM gX [⟨1, 0⟩]).th.length = 2 ∧ ((keepM gX [⟨1, 0⟩]).th.getD 0 []).length = 1 ∧ ((keepM gX [⟨1, 0⟩]).th.getD 1 []).length = 0 ∧ (keepM gX [⟨1, 0⟩]).ord.length = 2 ∧ ((keepM gX [⟨1, 0⟩]).ord.getD 0 []).length = 0 := by decide +kernel
theorem lives18_ok (hγ : γ 0 = some tabAV) : Pure Tryd.prog γ false 8 [] (.b fun _ => true) := by
  have ke := exX_ok (γ := γ)
  have k1 := pleans_ok (γ := γ) hγ gX rdX ⟨2, 0⟩
  have k2 := pkeep_yes (γ := γ) hγ gX rdX [⟨1, 0⟩] (by simp) cX1
  have k3 := pkeep_no (γ := γ) hγ gX rdX [⟨2, 0⟩] (by simp) cX2
  have ki := kids_ok (γ := γ) [⟨1, 0⟩, ⟨1, 1⟩] [⟨1, 0⟩, ⟨1, 1⟩] (by simp)
  rw [lX1] at k1
  obtain ⟨h1, h2, h3, h4, h5⟩ := kX
  generalize keepM gX [⟨1, 0⟩] = k at *
  generalize gX = g at *
  have g0 := evss_get k.th 0 (by omega)
  have g1 := evss_get k.th 1 (by omega)
  have g2 := idss_get k.ord 0 (by omega)
  refine Pure.go (ty := ty) ty_eq mo Tryd.func8 rfl Tryd.ntmps8 Tryd.results8 Tryd.call8 (by simp) fun P C CQ D W F E hF => ?_
  cbv
  repeat' (first
    | (refine E.c (SCalls.of_le (ki) ?_ ?_); (· (cbv; simp [rls, ps, us, is, ids, evs, evss, idss, LV.of, setAll, AV.nrm]; done)); cbv)
    | (refine E.q (QCalls.of_le (ki) ?_ ?_); (· (cbv; simp [rls, ps, us, is, ids, evs, evss, idss, LV.of, setAll, AV.nrm]; done)); cbv)
    | (refine E.c (SCalls.of_le (k3) ?_ ?_); (· (cbv; simp [rls, ps, us, is, ids, evs, evss, idss, LV.of, setAll, AV.nrm]; done)); cbv)
    | (refine E.q (QCalls.of_le (k3) ?_ ?_); (· (cbv; simp [rls, ps, us, is, ids, evs, evss, idss, LV.of, setAll, AV.nrm]; done)); cbv)
    | (refine E.c (SCalls.of_le (k2) ?_ ?_); (· (cbv; simp [rls, ps, us, is, ids, evs, evss, idss, LV.of, setAll, AV.nrm]; done)); cbv)
    | (refine E.q (QCalls.of_le (k2) ?_ ?_); (· (cbv; simp [rls, ps, us, is, ids, evs, evss, idss, LV.of, setAll, AV.nrm]; done)); cbv)
    | (refine E.c (SCalls.of_le (k1) ?_ ?_); (· (cbv; (try simp only [nc] at *); first | done | (simp; done) | (simp (disch := (first | omega | (simp only [lnS, zA, zM, zG, zP]; omega))) only [nc, nct, w64_of, zT, zZ, zM, rdS, at_agg, bofZ, bof1, bof0, zC, zS, implies_true, and_true, true_and, forall_const]; first | done | omega | (refine ⟨?_, ?_⟩ <;> omega)) | (simp (disch := (first | omega | (simp only [lnS, zA, zM, zG, zP]; omega))) [nc, nct, w64_of, zT, zZ, zM, rdS, at_agg, bofZ, bof1, bof0, zC, zS]; done))); cbv)
    | (refine E.c (SCalls.of_le (ke) ?_ ?_); (· (cbv; (try simp only [nc] at *); first | done | (simp; done) | (simp (disch := (first | omega | (simp only [lnS, zA, zM, zG, zP]; omega))) only [nc, nct, w64_of, zT, zZ, zM, rdS, at_agg, bofZ, bof1, bof0, zC, zS, implies_true, and_true, true_and, forall_const]; first | done | omega | (refine ⟨?_, ?_⟩ <;> omega)) | (simp (disch := (first | omega | (simp only [lnS, zA, zM, zG, zP]; omega))) [nc, nct, w64_of, zT, zZ, zM, rdS, at_agg, bofZ, bof1, bof0, zC, zS]; done))); cbv)
    | (refine ⟨fun _ h_s => ?_, fun _ h_s => ?_⟩ <;> (cbv; (try simp only [nc] at *); try simp (disch := (first | omega | (simp only [lnS, zA, zM, zG, zP]; omega))) only [nc, nct, w64_of, zT, zZ, zM, rdS, at_agg, bofZ, bof1, bof0, zC, zS, reduceCtorEq, Bool.not_true, Bool.not_false, zD, zE, zB, zF, zN, zO, ne_eq, zQ, zL, zR, beq_iff_eq] at h_s))
    | (refine hF ?_; intro _; clear hF)
    | (refine hF ?_; cbv; clear hF)
    | (refine ⟨fun _ => ?_, ?_⟩; (· ((try simp only [nc] at *); first | done | omega | exact ⟨by omega, rfl⟩ | (simp (disch := (first | omega | (simp only [lnS, zA, zM, zG, zP]; omega))) only [nc, nct, w64_of, zT, zZ, zM, rdS, at_agg, bofZ, bof1, bof0, zC, zS]; first | done | omega | rfl | exact ⟨by omega, rfl⟩ | (simp; done) | (simp; omega)) | (intros; trivial))); (try (simp only [nc] at *)); (try simp (disch := (first | omega | (simp only [lnS, zA, zM, zG, zP]; omega))) only [nc, nct, w64_of, zT, zZ, zM, rdS, at_agg, bofZ, bof1, bof0, zC, zS]); (try cbv))
    | fail
  )
  all_goals first
    | (simp; done)
    | (exfalso; ((try simp only [nc] at *); omega))
    | (exfalso; revert h_s; simp; done)
    | (exfalso; rw [show Int.toNat 1 = 1 from rfl] at h_s; omega)
abbrev aSX (g : Gr) (h : Int) : AV := .agg [.vs 1 fun _ => is g.init, .vs 1 fun _ => evss g.th, .vs 1 fun _ => idss g.fr, .vs 1 fun _ => idss g.ord, .vs 3 fun _ => LV.of [.agg [.i fun _ => 1, .i fun _ => 0, .b fun _ => true], .agg [.i fun _ => 1, .i fun _ => 1, .b fun _ => true], .agg [.i fun _ => 2, .i fun _ => 0, .b fun _ => false], .agg [.i fun _ => 2, .i fun _ => 1, .b fun _ => false]], .i fun _ => h]
theorem prefixNames_ok (hγ : γ 0 = some tabAV) : Pure Tryd.prog γ false 3 [] (.b fun _ => true) := by
  have ke := exX_ok (γ := γ)
  have kl := lives18_ok (γ := γ) hγ
  have k1 := pleans_ok (γ := γ) hγ gX rdX ⟨1, 1⟩
  rw [lX2] at k1
  have ki := kids_ok (γ := γ) [⟨1, 0⟩] [⟨1, 0⟩] (by simp)
  have kc := pclose_ok (γ := γ) hγ gX rdX [⟨2, 0⟩] (by simp)
  rw [cX3] at kc
  have ku := pcut_ok (γ := γ) hγ ⟨gX, msX, 0⟩ rdX (by simp [msX]) [⟨1, 0⟩, ⟨1, 1⟩, ⟨2, 0⟩] (by simp)
  rw [if_pos ⟨sX1, cX4⟩, if_pos ⟨sX1, cX4⟩] at ku
  have t := tX
  generalize cutM ⟨gX, msX, 0⟩ [⟨1, 0⟩, ⟨1, 1⟩, ⟨2, 0⟩] = c at *
  have ku : Pure Tryd.prog γ false 6 [aSX gX 0, .vs 2 fun _ => ids [⟨1, 0⟩, ⟨1, 1⟩, ⟨2, 0⟩]] (.tup [aSt c, .i fun _ => 0]) := ku
  have kh1 := pcheck_ok (γ := γ) ⟨gX, msX, 0⟩ rdX (by simp [msX])
  rw [show pcheckM _ = 0 from if_pos sX1] at kh1
  have kh1 : Pure Tryd.prog γ false 11 [aSX gX 0] (.i fun _ => 0) := kh1
  have kh2 := pcheck_ok (γ := γ) ⟨gX, msX, 1⟩ rdX (by simp [msX])
  rw [show pcheckM _ = 2 from if_neg sX2] at kh2
  have kh2 : Pure Tryd.prog γ false 11 [aSX gX 1] (.i fun _ => 2) := kh2
  have kw1 := when_ok (γ := γ) ⟨gX, msX, 0⟩ ⟨⟨2, 0⟩, false⟩ (by simp [msX])
  rw [show numK _ _ = 2 from wX1] at kw1
  have kw1 : Pure Tryd.prog γ false 12 [aSX gX 0, aMk ⟨⟨2, 0⟩, false⟩] (.i fun _ => 2) := kw1
  have kw2 := when_ok (γ := γ) ⟨gX, msX, 0⟩ ⟨⟨0, 0⟩, false⟩ (by simp [msX])
  rw [show numK _ _ = -1 from wX2] at kw2
  have kw2 : Pure Tryd.prog γ false 12 [aSX gX 0, aMk ⟨⟨0, 0⟩, false⟩] (.i fun _ => -1) := kw2
  clear hγ
  generalize gX = g at *
  refine Pure.go (ty := ty) ty_eq mo Tryd.func3 rfl Tryd.ntmps3 Tryd.results3 Tryd.call3 (by simp) fun P C CQ D W F E hF => ?_
  cbv
  repeat' (first
    | (refine E.c (SCalls.of_le (kw2) ?_ ?_); (· (cbv; simp [rls, ps, us, is, ids, evs, evss, idss, LV.of, setAll, AV.nrm]; done)); cbv)
    | (refine E.q (QCalls.of_le (kw2) ?_ ?_); (· (cbv; simp [rls, ps, us, is, ids, evs, evss, idss, LV.of, setAll, AV.nrm]; done)); cbv)
    | (refine E.c (SCalls.of_le (kw1) ?_ ?_); (· (cbv; simp [rls, ps, us, is, ids, evs, evss, idss, LV.of, setAll, AV.nrm]; done)); cbv)
    | (refine E.q (QCalls.of_le (kw1) ?_ ?_); (· (cbv; simp [rls, ps, us, is, ids, evs, evss, idss, LV.of, setAll, AV.nrm]; done)); cbv)
    | (refine E.c (SCalls.of_le (kh2) ?_ ?_); (· (cbv; simp [rls, ps, us, is, ids, evs, evss, idss, LV.of, setAll, AV.nrm]; done)); cbv)
    | (refine E.q (QCalls.of_le (kh2) ?_ ?_); (· (cbv; simp [rls, ps, us, is, ids, evs, evss, idss, LV.of, setAll, AV.nrm]; done)); cbv)
    | (refine E.c (SCalls.of_le (kh1) ?_ ?_); (· (cbv; simp [rls, ps, us, is, ids, evs, evss, idss, LV.of, setAll, AV.nrm]; done)); cbv)
    | (refine E.q (QCalls.of_le (kh1) ?_ ?_); (· (cbv; simp [rls, ps, us, is, ids, evs, evss, idss, LV.of, setAll, AV.nrm]; done)); cbv)
    | (refine E.c (SCalls.of_le (ki) ?_ ?_); (· (cbv; simp [rls, ps, us, is, ids, evs, evss, idss, LV.of, setAll, AV.nrm]; done)); cbv)
    | (refine E.q (QCalls.of_le (ki) ?_ ?_); (· (cbv; simp [rls, ps, us, is, ids, evs, evss, idss, LV.of, setAll, AV.nrm]; done)); cbv)
    | (refine E.c (SCalls.of_le (k1) ?_ ?_); (· (cbv; (try simp only [nc] at *); first | done | (simp; done) | (simp (disch := (first | omega | (simp only [lnS, zA, zM, zG, zP]; omega))) only [nc, nct, w64_of, zT, zZ, zM, rdS, at_agg, bofZ, bof1, bof0, zC, zS, implies_true, and_true, true_and, forall_const]; first | done | omega | (refine ⟨?_, ?_⟩ <;> omega)) | (simp (disch := (first | omega | (simp only [lnS, zA, zM, zG, zP]; omega))) [nc, nct, w64_of, zT, zZ, zM, rdS, at_agg, bofZ, bof1, bof0, zC, zS]; done))); cbv)
    | (refine E.c (SCalls.of_le (kl) ?_ ?_); (· (cbv; (try simp only [nc] at *); first | done | (simp; done) | (simp (disch := (first | omega | (simp only [lnS, zA, zM, zG, zP]; omega))) only [nc, nct, w64_of, zT, zZ, zM, rdS, at_agg, bofZ, bof1, bof0, zC, zS, implies_true, and_true, true_and, forall_const]; first | done | omega | (refine ⟨?_, ?_⟩ <;> omega)) | (simp (disch := (first | omega | (simp only [lnS, zA, zM, zG, zP]; omega))) [nc, nct, w64_of, zT, zZ, zM, rdS, at_agg, bofZ, bof1, bof0, zC, zS]; done))); cbv)
    | (refine E.de 12 [] [none] (by decide +kernel) ?_; cbv; (fail_if_success guard_target =~ False))
    | (refine E.c (SCalls.of_le (ku) ?_ ?_); (· (cbv; simp [rls, ps, us, is, ids, evs, evss, idss, LV.of, setAll, AV.nrm]; done)); cbv)
    | (refine E.q (QCalls.of_le (ku) ?_ ?_); (· (cbv; simp [rls, ps, us, is, ids, evs, evss, idss, LV.of, setAll, AV.nrm]; done)); cbv)
    | (refine E.c (SCalls.of_le (kc) ?_ ?_); (· (cbv; simp [rls, ps, us, is, ids, evs, evss, idss, LV.of, setAll, AV.nrm]; done)); cbv)
    | (refine E.q (QCalls.of_le (kc) ?_ ?_); (· (cbv; simp [rls, ps, us, is, ids, evs, evss, idss, LV.of, setAll, AV.nrm]; done)); cbv)
    | (refine E.c (SCalls.of_le (ke) ?_ ?_); (· (cbv; (try simp only [nc] at *); first | done | (simp; done) | (simp (disch := (first | omega | (simp only [lnS, zA, zM, zG, zP]; omega))) only [nc, nct, w64_of, zT, zZ, zM, rdS, at_agg, bofZ, bof1, bof0, zC, zS, implies_true, and_true, true_and, forall_const]; first | done | omega | (refine ⟨?_, ?_⟩ <;> omega)) | (simp (disch := (first | omega | (simp only [lnS, zA, zM, zG, zP]; omega))) [nc, nct, w64_of, zT, zZ, zM, rdS, at_agg, bofZ, bof1, bof0, zC, zS]; done))); cbv)
    | (refine ⟨fun _ h_s => ?_, fun _ h_s => ?_⟩ <;> (cbv; (try simp only [nc] at *); try simp (disch := (first | omega | (simp only [lnS, zA, zM, zG, zP]; omega))) only [nc, nct, w64_of, zT, zZ, zM, rdS, at_agg, bofZ, bof1, bof0, zC, zS, reduceCtorEq, Bool.not_true, Bool.not_false, zD, zE, zB, zF, zN, zO, ne_eq, zQ, zL, zR, beq_iff_eq] at h_s))
    | (refine hF ?_; intro _; clear hF)
    | (refine hF ?_; cbv; clear hF)
    | (refine ⟨fun _ => ?_, ?_⟩; (· ((try simp only [nc] at *); first | done | omega | exact ⟨by omega, rfl⟩ | (simp (disch := (first | omega | (simp only [lnS, zA, zM, zG, zP]; omega))) only [nc, nct, w64_of, zT, zZ, zM, rdS, at_agg, bofZ, bof1, bof0, zC, zS]; first | done | omega | rfl | exact ⟨by omega, rfl⟩ | (simp; done) | (simp; omega)) | (intros; trivial))); (try (simp only [nc] at *)); (try simp (disch := (first | omega | (simp only [lnS, zA, zM, zG, zP]; omega))) only [nc, nct, w64_of, zT, zZ, zM, rdS, at_agg, bofZ, bof1, bof0, zC, zS]); (try cbv))
    | fail
  )
  all_goals first
    | (simp; done)
    | exact absurd trivial h_s
    | (exfalso; rw [mks_len] at h_s; omega)
end Go.AL.Rl

namespace Go.AL
open Go Go.RowKit Go.ChangeShapes Go.WideShapes

section
variable {H : Type} {enc : TypeId × Value → H} {P : Program} {w : World} {spare : Nat → Bool} {held : Bool}

abbrev Old (w : World) : Nat → Prop := fun k => k < w.heap.size

/-- Whatever reads by the type 't' is told by an 'a'. -/
def Dec (P : Program) (t : TypeId) (α : Type) (en : α → List AV) (ok : α → Prop) : Prop :=
  ∀ {H : Type} (enc : TypeId × Value → H) (w : World) (spare : Nat → Bool) (held : Bool) (fuel : Nat) (cs : List Value) (x : DataW H × List MemPlace),
    DataW.trod enc P w 0 spare held fuel t cs = some x → ∃ a, ok a ∧ Rs (Old w) w none (en a) cs

theorem Dec.int {t : TypeId} (ht : P.underlying t = some (.int .i64)) : Dec P t Int (fun n => [.i fun _ => n]) fun n => -9223372036854775808 ≤ n ∧ n ≤ 9223372036854775807 := by
  intro H enc w spare held fuel cs x h
  obtain ⟨n, rfl, _, h2⟩ := DataW.trod_int ht h
  exact ⟨n, bounds_i64 h2, _, _, rfl, rfl, rfl⟩
theorem Dec.u64 {t : TypeId} (ht : P.underlying t = some (.int .u64)) : Dec P t (BitVec 64) (fun n => [.u fun _ => n]) fun _ => True := by
  intro H enc w spare held fuel cs x h
  obtain ⟨n, rfl, _, h2⟩ := DataW.trod_int ht h
  have := bounds_u64 h2
  refine ⟨BitVec.ofInt 64 n, trivial, _, _, rfl, ?_, rfl⟩
  simp only [R]
  congr 1
  simp only [BitVec.toNat_ofInt]
  omega
theorem Dec.bool {t : TypeId} (ht : P.underlying t = some .bool) : Dec P t Bool (fun b => [.b fun _ => b]) fun _ => True := by
  intro H enc w spare held fuel cs x h
  obtain ⟨b, rfl, _⟩ := DataW.trod_bool ht h
  exact ⟨b, trivial, _, _, rfl, rfl, rfl⟩

theorem cells?_get {w : World} {a : Addr} {n : Nat} {cs : List Value} (h : w.cells? 0 a n = some cs) : cs.length = n ∧ ∀ (i : Nat) (c : Value), cs[i]? = some c → w.cell? (a.add i) = some c := by
  simp only [World.cells?, Nat.zero_le, if_true] at h
  have hl : cs.length = n := by have := mapM_some_length h; simpa using this
  refine ⟨hl, fun i c hc => ?_⟩
  have hi : i < n := by have := (List.getElem?_eq_some_iff.1 hc).1; omega
  rw [mapM_some_get h i i (by simp [hi])]; exact hc

theorem list_of_all {α β : Type} {R' : α → β → Prop} : ∀ (l : List β), (∀ b ∈ l, ∃ a, R' a b) → ∃ r : List α, r.length = l.length ∧ ∀ (i : Nat) (a : α) (b : β), r[i]? = some a → l[i]? = some b → R' a b
  | [], _ => ⟨[], rfl, fun i a b h => by simp at h⟩
  | b :: l, h => by
    obtain ⟨a, ha⟩ := h b (by simp)
    obtain ⟨r, h1, h2⟩ := list_of_all l fun b hb => h b (by simp [hb])
    refine ⟨a :: r, by simp [h1], fun i a' b' ha' hb' => ?_⟩
    cases i with
    | zero => simp at ha' hb'; subst ha'; subst hb'; exact ha
    | succ i => exact h2 i a' b' (by simpa using ha') (by simpa using hb')

/-- the elements' values: 'mk' is '.agg' or the one cell -/
structure Elem (mk : List AV → AV) (k : Nat) : Prop where
  val : ∀ {S : Nat → Prop} {w : World} {l : List AV} {cs : List Value}, cs.length = k → l.all AV.one = true → Rs S w none l cs → ∃ v, v.cells.toList = cs ∧ R S w none (mk l) v
theorem Elem.agg (k : Nat) : Elem .agg k := ⟨fun {S w l cs} _ _ h => ⟨.agg cs.toArray, by simp [Value.cells], cs, rfl, h⟩⟩
theorem Elem.one : Elem (fun l => l.headD .any) 1 := ⟨fun {S w l cs} hl h1 h => by
  match cs, hl with
  | [c], _ =>
    match l, h with
    | x :: _, ⟨v, _, e, hx, hr⟩ =>
      cases e
      simp only [List.all_cons, Bool.and_eq_true] at h1
      exact ⟨c, by rw [cells_of_one (R_one hx h1.1)], hx⟩⟩

theorem Dec.slice {t e : TypeId} (ht : P.underlying t = some (.slice e)) {k : Nat} (hk : P.cellsOf e = k) (hk0 : 0 < k) {α : Type} {en : α → List AV} {ok : α → Prop} {mk : List AV → AV} (he : Dec P e α en ok) (hone : ∀ a, (en a).all AV.one = true) (hm : Elem mk k) :
    Dec P t (List α) (fun l => [.vs k fun _ => LV.of (l.map fun a => mk (en a))]) fun l => l.length ≤ maxLen ∧ ∀ a ∈ l, ok a := by
  subst hk
  intro H enc w spare held fuel cs x h
  rcases DataW.trod_slice ht h with ⟨rfl, _⟩ | ⟨a, len, cap, elems, rest, n, rfl, rfl, rfl, _, h2, h3, h4, h5, _⟩
  · exact ⟨[], ⟨by simp, by simp⟩, _, _, rfl, ⟨none, 0, [], rfl, Nat.le_refl _, rfl, .inl rfl⟩, rfl⟩
  · have key : ∀ i : Nat, i < len → ∃ (c : List Value) (a' : α), w.cells? 0 (a.add (i * P.cellsOf e)) (P.cellsOf e) = some c ∧ ok a' ∧ Rs (Old w) w none (en a') c := by
      intro i hi
      have := h5 i hi
      rw [List.getElem?_eq_getElem (by omega)] at this
      simp only [Option.bind_eq_some_iff] at this
      obtain ⟨c, hc, hd⟩ := this
      obtain ⟨a', ha, hr⟩ := he _ _ _ _ _ _ _ hd
      exact ⟨c, a', hc, ha, hr⟩
    have hlist := list_of_all (R' := fun (q : α × Value) (i : Nat) => ok q.1 ∧ q.2.cells.size = P.cellsOf e ∧ (∀ (j : Nat) (c : Value), q.2.cells[j]? = some c → w.cell? ((a.add (i * P.cellsOf e)).add j) = some c) ∧ R (Old w) w none (mk (en q.1)) q.2) (List.range len) fun i hi => by
      obtain ⟨c, a', hc, ha, hr⟩ := key i (by simpa using hi)
      obtain ⟨hl, hg⟩ := cells?_get hc
      obtain ⟨v, hv, hr'⟩ := hm.val hl (hone a') hr
      refine ⟨(a', v), ha, by rw [← Array.length_toList, hv]; exact hl, fun j c' hj => hg j c' ?_, hr'⟩
      rw [← hv]; simpa using hj
    obtain ⟨qs, hq1, hq2⟩ := hlist
    rw [List.length_range] at hq1
    have hq : ∀ (i : Nat) (q : α × Value), qs[i]? = some q → ok q.1 ∧ q.2.cells.size = P.cellsOf e ∧ (∀ (j : Nat) (c : Value), q.2.cells[j]? = some c → w.cell? ((a.add (i * P.cellsOf e)).add j) = some c) ∧ R (Old w) w none (mk (en q.1)) q.2 := fun i q hi =>
      hq2 i q i hi (by
        have := (List.getElem?_eq_some_iff.1 hi).1
        rw [List.getElem?_range (by omega)])
    refine ⟨qs.map (·.1), ⟨by simp; omega, fun a' ha' => ?_⟩, _, _, rfl, ⟨some a, cap, qs.map (·.2), by simp [hq1], by simp; omega, ?_, ?_⟩, rfl⟩
    · obtain ⟨q, hqm, rfl⟩ := List.mem_map.1 ha'
      obtain ⟨i, hi, rfl⟩ := List.mem_iff_getElem.1 hqm
      exact (hq i _ (List.getElem?_eq_getElem hi)).1
    · rw [RL_iff, LV.l_of, Rs_iff]
      refine ⟨by simp, fun i c v hc hv => ?_⟩
      simp only [List.map_map, List.getElem?_map, Option.map_eq_some_iff] at hc hv
      obtain ⟨q, hq', rfl⟩ := hc
      obtain ⟨q', hq'', rfl⟩ := hv
      rw [hq'] at hq''; cases hq''
      exact (hq i q hq').2.2.2
    · cases hqs : qs with
      | nil => exact .inl rfl
      | cons q0 qr =>
        right
        have hlen : 0 < len := by rw [← hq1, hqs]; simp
        obtain ⟨_, hsz, hcell, _⟩ := hq 0 q0 (by rw [hqs]; rfl)
        have hc0 : ∃ c, q0.2.cells[0]? = some c := ⟨_, Array.getElem?_eq_getElem (by omega)⟩
        obtain ⟨c, hc⟩ := hc0
        have hw := hcell 0 c hc
        have ha0 : a.spot = none ∧ a.block < w.heap.size := by
          simp only [Nat.zero_mul, Addr.add, if_true] at hw
          unfold World.cell? at hw
          split at hw
          · rename_i hb
            split at hw
            · cases hw
            · rename_i hs
              exact ⟨by simpa using hs, (Array.getElem?_eq_some_iff.1 hb).1⟩
          · cases hw
        refine ⟨a, rfl, ha0.1, ha0.2, fun i ev hi => ?_⟩
        rw [← hqs] at hi
        simp only [List.getElem?_map, Option.map_eq_some_iff] at hi
        obtain ⟨q, hq', rfl⟩ := hi
        obtain ⟨_, h1, h2, _⟩ := hq i q hq'
        refine ⟨h1, fun j c hj => ?_⟩
        have := h2 j c hj
        have ea : (a.add (i * P.cellsOf e)).add j = ⟨a.block, a.off + (i * P.cellsOf e + j), none⟩ := by
          obtain ⟨b, o, s⟩ := a
          simp only at ha0
          obtain ⟨rfl, _⟩ := ha0
          simp only [Addr.add]
          by_cases h0 : i * P.cellsOf e = 0 <;> by_cases h1 : j = 0 <;> simp [h0, h1] <;> omega
        rw [← ea]; exact this

theorem trodAll_len {W : World} {b : Nat} : ∀ {ts : List TypeId} {vs : List Value} {ds : List (DataW H)} {p : List MemPlace}, DataW.TrodAll enc P W b spare held ts vs ds p → ds.length = ts.length
  | [], [], [], _, _ => rfl
  | _ :: _, _ :: _, _ :: _, _, ⟨_, _, _, h, _⟩ => by simp [trodAll_len h]
  | [], [], _ :: _, _, h => h.elim
  | [], _ :: _, _, _, h => h.elim
  | _ :: _, [], _, _, h => h.elim
  | _ :: _, _ :: _, [], _, h => h.elim
theorem trodAll_carry {W W' : World} (hq : ∀ k, k < W.heap.size → W'.heap[k]? = W.heap[k]?) : ∀ {ts : List TypeId} {vs : List Value} {ds : List (DataW H)} {p : List MemPlace},
    DataW.TrodAll enc P W 0 spare held ts vs ds p → (∀ p' ∈ p, p'.block < W.heap.size) → DataW.TrodAll enc P W' 0 spare held ts vs ds p
  | [], [], [], _, h, _ => h
  | _ :: _, _ :: _, _ :: _, _, ⟨p0, q0, ⟨n, h1⟩, h2, e⟩, lt => by
    subst e
    refine ⟨p0, q0, ⟨n, DataW.trod_carry _ _ _ _ h1 fun pl hpl => ?_⟩, trodAll_carry hq h2 fun p' hp => lt p' (List.mem_append_right _ hp), rfl⟩
    have hlt := lt pl (List.mem_append_left _ hpl)
    cases pl with
    | cell b off => exact World.cell?_of_block (hq b hlt)
    | map b => exact hq b hlt
  | [], [], _ :: _, _, h, _ => h.elim
  | [], _ :: _, _, _, h, _ => h.elim
  | _ :: _, [], _, _, h, _ => h.elim
  | _ :: _, _ :: _, [], _, h, _ => h.elim
theorem post_true {H : Type} {enc : TypeId × Value → H} {f : Func} {s : ChangeSpec} {W W' : World} {args : Array Value} {ds gs : List (DataW H)} {before : List MemPlace} {tb : TypeId}
    (hW : DataW.Whole enc P f.params.toList s.vars false W args.toList ds gs before) (hv : s.vars = []) (hres : f.resultTypes = #[tb]) (htb : P.underlying tb = some .bool)
    (hs : ∀ ds' : List (DataW H), ds'.length = f.params.size → s.fn H ds' = { results := [.lit (.bool true)], args := ds' })
    (hl : laidOutB P = true) (hm : mapsRowed P = true) (hz : ((List.range P.types.size).all fun t => match P.underlying t with | some (.slice e) => decide (0 < P.cellsOf e) | _ => true) = true) (hT : ∀ t ∈ f.params.toList, t < P.types.size)
    (hq : ∀ k, k < W.heap.size → W'.heap[k]? = W.heap[k]?) (fr : Fr W W') : s.post enc P f false true false false W args (.bool true) W' := by
  have hW' := hW
  obtain ⟨p, q, hA, hV, rfl, hfz, hnd⟩ := hW
  rw [hv] at hV
  obtain ⟨rfl, rfl⟩ := trodVars_none hV
  have hlen : ds.length = f.params.size := by have := trodAll_len hA; simpa using this
  have hsd := hs (ds ++ []) (by simpa using hlen)
  have hall : ∀ (b : Nat) (sp : Nat → Bool) (hd : Bool), DataW.TrodAll enc P W' b sp hd [tb] [.bool true] [.lit (.bool true)] [] := fun b sp hd => ⟨[], [], ⟨1, by simp [DataW.trod, htb, Value.cells]⟩, rfl, rfl⟩
  refine post_of_same (pa := p) (pv := []) hW' (fun b sp hd => ?_) (fun sp hsp => ?_) (fun sp _ => ?_) (by simp) ?_ fr.frozen ?_
  · rw [hsd, hres]; exact hall b sp hd
  · rw [hsd]
    simp only [List.append_nil]
    have carry : DataW.TrodAll enc P W' 0 (fun _ => true) true f.params.toList args.toList ds p := trodAll_carry hq hA fun p' hp => hW'.lt p' (by simpa using hp)
    exact carry.respare (kids_rows hl hm) (fun t e ht hu => slices_full_of P hz t e ht hu) hT fun p' hp => hsp p' (by simpa using hp)
  · rw [hsd, hv]; rfl
  · refine ⟨fr.os, fr.output, fun i hi => ?_⟩
    rw [hq i hi]
    cases h : W.heap[i]? with
    | none => trivial
    | some o => cases o <;> simp
  · exact ok_one hres rfl (okWide_bool_mk htb _)

def Arg (P : Program) (t : TypeId) (α : Type) (en : α → AV) (ok : α → Prop) : Prop :=
  ∀ {H : Type} (enc : TypeId × Value → H) (W : World) (base : Nat) (v : Value) (d : DataW H) (p : List MemPlace), Value.okWide P W .any base t v → DataW.Trod enc P W 0 (fun _ => true) true t v d p → ∃ a, ok a ∧ R (Old W) W none (en a) v
theorem Arg.agg {t : TypeId} {a : Array Field} (ht : P.underlying t = some (.struct a)) {α : Type} {en : α → List AV} {ok : α → Prop} (h : Dec P t α en ok) : Arg P t α (fun a => .agg (en a)) ok := by
  intro H enc W base v d p hok ⟨n, hn⟩
  simp only [Value.okWide, ht] at hok
  obtain ⟨cs, rfl, _⟩ := hok
  obtain ⟨x, h1, h2⟩ := h _ _ _ _ _ _ _ hn
  exact ⟨x, h1, cs.toList, by simp, by simpa [Value.cells] using h2⟩
theorem Arg.one {t : TypeId} {k : TypeDesc} (ht : P.underlying t = some k) (hk : match k with | .int _ | .bool | .slice _ => True | _ => False) {α : Type} {en : α → AV} {ok : α → Prop} (h : Dec P t α (fun a => [en a]) ok) : Arg P t α en ok := by
  intro H enc W base v d p hok ⟨n, hn⟩
  obtain ⟨x, h1, y, ys, h2, h3, h4⟩ := h _ _ _ _ _ _ _ hn
  have h4 : ys = [] := h4
  subst h4
  have hv : v = y := by
    cases v
    case agg cs => cases k <;> first | exact hk.elim | simp [Value.okWide, ht, Cell.okWide, Cell.ok] at hok
    all_goals (simp [Value.cells] at h2; exact h2)
  subst hv
  exact ⟨x, h1, h3⟩

/-- A LAW, from its contract. -/
theorem law_true {γ : Nat → Option AV} {f : FuncId} {fn : Func} {s : ChangeSpec} {W : World} {args : Array Value} {ds gs : List (DataW H)} {before : List MemPlace} {tb : TypeId} {avs : List AV} (hp : Pure P γ false f avs (.b fun _ => true)) (hr : Rs (Old W) W none avs args.toList)
    (hγ : ∀ g x, γ g = some x → R (Old W) W none (.vp (fun _ => x) 0) (.pointer (some ⟨g, 0, none⟩)))
    (hW : DataW.Whole enc P fn.params.toList s.vars false W args.toList ds gs before) (hv : s.vars = []) (hres : fn.resultTypes = #[tb]) (htb : P.underlying tb = some .bool)
    (hs : ∀ ds' : List (DataW H), ds'.length = fn.params.size → s.fn H ds' = { results := [.lit (.bool true)], args := ds' })
    (hl : laidOutB P = true) (hm : mapsRowed P = true) (hz : ((List.range P.types.size).all fun t => match P.underlying t with | some (.slice e) => decide (0 < P.cellsOf e) | _ => true) = true) (hT : ∀ t ∈ fn.params.toList, t < P.types.size) :
    Calls P f args W fun e W' => ∃ v, e = .returned v ∧ s.post enc P fn false true false false W args v W' := by
  have := hp.2 (Old W) W args.toList (fun k hk => hk) hγ hr
  refine (this.mono fun e w' ⟨v', S', h1, h2, h3⟩ => ?_)
  have h2 : v' = .bool true := h2
  subst h2
  exact ⟨_, h1, post_true hW hv hres htb hs hl hm hz hT h3.same h3.fr⟩
end
end Go.AL

namespace Go.AL
open Go Go.RowKit Go.ChangeShapes Go.WideShapes
section
variable {P : Program}
end
end Go.AL

namespace Go.AL.Rl
open Go Go.AL Go.Proofs Go.RowKit Go.ChangeShapes Go.WideShapes Go.ChangeAt Go.Proofs.YtefobdmgflipjaaDoor
set_option maxRecDepth 100000

theorem laidOut : laidOutB Tryd.prog = true := by kernel_rfl
theorem mapsOk : mapsRowed Tryd.prog = true := by kernel_rfl
theorem slicesOk : ((List.range Tryd.prog.types.size).all fun t => match Tryd.prog.underlying t with | some (.slice e) => decide (0 < Tryd.prog.cellsOf e) | _ => true) = true := by kernel_rfl

theorem own : ownKnob Tryd.prog.godebug = none := by kernel_rfl
theorem gTab : Tryd.prog.globalNamed "math/bits.deBruijn64tab" = some 0 := by kernel_rfl
def γ0 : Nat → Option AV := fun g => if g = 0 then some tabAV else none
theorem table {W : World} {laid : List (String × DataW Unit)} (hl : laid = [("math/bits.deBruijn64tab", Rows.laid_math_bits_deBruijn64tab)]) (h : laidMet Tryd.prog laid W) : Lib.TabIs Tryd.prog W "math/bits.deBruijn64tab" .u8 (Lib.deBruijn64tab.map fun (n : Nat) => (n : Int)) := by
  subst hl
  exact Lib.tabIs_of_head (rest := []) gTab (t := 112) (by kernel_rfl) Tryd.underlying112 Tryd.underlying5 (by kernel_rfl) (by kernel_rfl) h
theorem gok0 {W : World} (h : Lib.TabIs Tryd.prog W "math/bits.deBruijn64tab" .u8 (Lib.deBruijn64tab.map fun (n : Nat) => (n : Int))) : ∀ g x, γ0 g = some x → R (Old W) W none (.vp (fun _ => x) 0) (.pointer (some ⟨g, 0, none⟩)) := by
  intro g x hg
  unfold γ0 at hg
  split at hg
  · rename_i h0
    subst h0
    cases hg
    have hc := fun i hi => h.cell gTab i hi
    have hlen : Lib.deBruijn64tab.length = 64 := by decide
    have hcell : ∀ i : Nat, i < 64 → W.cell? ⟨0, i, none⟩ = some (.int .u8 (Lib.deBruijn64tab.getD i 0 : Nat)) := fun i hi => by
      have := hc i (by rw [List.length_map]; omega)
      rw [this]; congr 2
      simp [hlen, hi]
    have hlt : 0 < W.heap.size := by
      have := hcell 0 (by omega)
      unfold World.cell? at this
      split at this
      · rename_i hb; exact (Array.getElem?_eq_some_iff.1 hb).1
      · cases this
    refine ⟨⟨0, 0, none⟩, .agg (Lib.deBruijn64tab.map fun (n : Nat) => Value.int .u8 n).toArray, rfl, ⟨_, rfl, ?_⟩, hlt, fun j c hj => ?_⟩
    · show Rs _ W none (Lib.deBruijn64tab.map fun (n : Nat) => .raw (.int .u8 n)) _
      generalize Lib.deBruijn64tab = l
      induction l with
      | nil => rfl
      | cons x l ih => exact ⟨_, _, rfl, rfl, ih⟩
    · have hj' : (Lib.deBruijn64tab.map fun (n : Nat) => Value.int .u8 n)[j]? = some c := by simpa [Value.cells] using hj
      have hj2 : j < 64 := by have := (List.getElem?_eq_some_iff.1 hj').1; rw [List.length_map] at this; omega
      rw [Nat.zero_add, hcell j hj2, ← hj']
      simp [hlen, hj2]
  · cases hg
/-- A world for the witness: the settled one, the table holding what its initialiser lays. -/
noncomputable def laidWorld (os : Os) : World :=
  { World.holding Tryd.prog os ⟨#[], #[], []⟩ with heap := (World.holding Tryd.prog os ⟨#[], #[], []⟩).heap.modify 0 fun
      | .cells _ t frozen => .cells (Lib.deBruijn64tab.map fun (n : Nat) => Value.int .u8 n).toArray t frozen
      | o => o }

end Go.AL.Rl

namespace Go.AL.Rl
open Go Go.AL Go.Proofs Go.RowKit Go.ChangeShapes Go.WideShapes Go.ChangeAt Go.Proofs.YtefobdmgflipjaaDoor
set_option maxRecDepth 100000
namespace PrefixNames
theorem contract (H : Type) (enc : TypeId × Value → H) (W : World) (base : Nat) (args : Array Value) (ds gs : List (DataW H)) (before : List MemPlace)
    (hval : ∀ (j : Nat) t v, Tryd.f3.params[j]? = some t → args[j]? = some v → Value.okWide Tryd.prog W .any base t v)
    (hW : DataW.Whole enc Tryd.prog Tryd.f3.params.toList Rows.prefixNamesSpec.vars false W args.toList ds gs before) (hL : laidMet Tryd.prog Rows.prefixNamesRow.laid W) :
    Calls Tryd.prog 3 args W fun e W' => ∃ v, e = .returned v ∧ Rows.prefixNamesSpec.post enc Tryd.prog Tryd.f3 false true false false W args v W' := by
  have hW' := hW
  obtain ⟨p, q, hA, hV, rfl, hfz, hnd⟩ := hW
  rw [Tryd.params3] at hA hval
  obtain ⟨hargs, rfl, rfl⟩ := trodAll_nil hA
  obtain rfl : args = #[] := by cases args; simp_all
  exact law_true (prefixNames_ok (γ := γ0) rfl) rfl (gok0 (table rfl hL)) hW' rfl (tb := 4) (by kernel_rfl) Tryd.underlying4
    (fun ds' h => by match ds', h with | [], _ => rfl) laidOut mapsOk slicesOk (by rw [Tryd.params3]; decide +kernel)
theorem laid_met (os : Os) : laidMet Tryd.prog Rows.prefixNamesRow.laid ((laidWorld os).forCall (fun _ _ => 0) ⟨#[], #[], []⟩).memory :=
  laidMet_of_run' 8 (by kernel_rfl) (by kernel_rfl)
theorem reads (os : Os) {H : Type} (enc : TypeId × Value → H) : ∃ places, DataW.whole enc Tryd.prog ((laidWorld os).forCall (fun _ _ => 0) ⟨#[], #[], []⟩).memory Tryd.f3.params.toList Rows.prefixNamesSpec.vars false (#[] : Array Value).toList 8 = some ([], [], places) :=
  ⟨[], by kernel_rfl⟩
theorem lifted (os : Os) (started : os.Started) (H : Type) (enc : TypeId × Value → H) (F : Stop.Interp) :
    ReturnsInHanded {} Tryd.checked os 3 .any ((OpenSpec.ofChange Rows.prefixNamesSpec).preRow enc Tryd.prog Tryd.f3 Rows.prefixNamesRow.domain false Rows.prefixNamesRow.laid) (((OpenSpec.ofChange Rows.prefixNamesSpec).at F).post enc Tryd.prog Tryd.f3 false true false false) := by
  obtain ⟨places, hx⟩ := reads os enc
  refine returnsInHanded_of_row (C := Tryd.checked) (s := OpenSpec.ofChange Rows.prefixNamesSpec) own started (by kernel_rfl) Tryd.func3
    (witness_row_at (enc := enc) (C := Tryd.checked) false (laidWorld os) #[] rfl (by kernel_rfl) (by kernel_rfl) (by kernel_rfl)
      (OpenSpec.preRow_of_cond 8 hx (by kernel_rfl) (fun k hk => by cases hk) (by kernel_rfl) (laid_met os))) ?_
  intro W base args ds gs before hval hW _ _ _ hL _ _
  exact contract H enc W base args ds gs before hval hW hL
theorem said : Rows.PrefixNamesSaid :=
  OpenClaim.holds_of_cond 3 Tryd.f3 rfl rfl rfl rfl rfl rfl rfl ⟨rfl, rfl, rfl, rfl, rfl⟩ rfl rfl rfl rfl rfl (by kernel_rfl) Tryd.func3 (by kernel_rfl)
    (of_decide_eq_true (by kernel_rfl)) (by unfold Func.isWrapper; first | (rw [if_pos (by decide +kernel)]; kernel_rfl) | (rw [if_neg (by decide +kernel)]; exact ⟨rfl, rfl⟩))
    (fun os started H enc _ F => by rw [OpenClaim.pre_eq_preRow]; exact lifted os started H enc F)
theorem plain (f : FuncId) (fn : Func) (hf : Tryd.pinned.checked.prog.funcNamed "cantilever/cantileverlaw18.PrefixNames" = some f) (hfn : Tryd.pinned.checked.prog.funcs[f]? = some fn) :
    false = Tryd.pinned.checked.prog.looks [] ∧ ∀ (j : Nat) t, fn.params[j]? = some t → Tryd.pinned.checked.prog.wantsStandIn t = false := by
  obtain rfl : f = 3 := Option.some.inj ((show Tryd.prog.funcNamed "cantilever/cantileverlaw18.PrefixNames" = some 3 by kernel_rfl).symm.trans hf) |>.symm
  obtain rfl : fn = Tryd.f3 := (Option.some.inj (Tryd.func3.symm.trans hfn)).symm
  refine ⟨by kernel_rfl, fun j t ht => ?_⟩
  have key : ∀ t ∈ (Tryd.f3.params).toList, Tryd.prog.wantsStandIn t = false := by
    rw [Tryd.params3]; decide +kernel
  exact key t (Array.mem_toList_iff.2 (Array.mem_of_getElem? ht))
theorem card : Rows.PrefixNamesCardSaid :=
  Claim7.holds_tied_plain_at .later [] _ _ _ _ said (fun _ h => by cases h) (by kernel_rfl) (fun _ h => by cases h) prefixNames_row_tie rfl ⟨rfl, rfl⟩ (by kernel_rfl) rfl plain (by kernel_rfl)
end PrefixNames
end Go.AL.Rl
