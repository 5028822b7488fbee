import Derived.Test.YtefobdmgflipjaaGreatDoorPk7
import Derived.OpenShut
import Derived.ReadAgain
import Derived.Deep.DeepHandedRow
import Derived.Lib.LaidTab
import Derived.ProofKit
import Derived.Test.YtefobdmgflipjaaGreatDoorCards
import Derived.Test.YtefobdmgflipjaaGreatDoorTie
set_option linter.unusedVariables false
set_option linter.unusedSimpArgs false
namespace Go.AL.Rl
open Go Go.AL Go.Proofs
set_option maxRecDepth 100000
set_option maxHeartbeats 3200000
variable {γ : Nat → Option AV}

abbrev aGiven (n : Int) (po rf co fr : List (BitVec 64)) : AV := .agg [.i fun _ => n, .vs 1 fun _ => us po, .i fun _ => n, .vs 1 fun _ => us rf, .i fun _ => n, .vs 1 fun _ => us co, .i fun _ => n, .vs 1 fun _ => us fr]
theorem wgiven_ok (g : Gr) (hg : Rd g) (h : GOk g) : Pure Tryz.prog γ false 57 [pW g] (aGiven (nG g : Nat) (poF (viewG g) (nG g)) (rfF (viewG g) (nG g)) (coF (viewG g) (nG g)) (frF (viewG g) (nG g))) := by
 have hn := (viewG_wf h).small
 have c1 := fun a b => wpo_ok (γ := γ) g a b
 have c2 := fun a b => wrf_ok (γ := γ) g h a b
 have c3 := fun a b => wco_ok (γ := γ) g hg h a b
 have c4 := fun a b => wfr_ok (γ := γ) g hg h a b
 unfold poF rfF coF frF
 generalize poM (viewG g) = p1 at *
 generalize rfM (viewG g) = p2 at *
 generalize coM (viewG g) = p3 at *
 generalize frM (viewG g) = p4 at *
 obtain ⟨L, hL⟩ : ∃ L : (Nat → Nat → Bool) → Nat → Nat → List (Int × Int), ∀ p a b, L p a b = prA p (nG g) a ++ prE p a b := ⟨_, fun _ _ _ => rfl⟩
 obtain ⟨G, hG⟩ : ∃ G : List (Int × Int) → Nat, ∀ l, G l = l.length := ⟨_, fun _ => rfl⟩
 have hG0 : G [] = 0 := by rw [hG]; rfl
 have l0 : ∀ p, L p 0 0 = [] := fun p => by rw [hL]; rfl
 have lS : ∀ p a b, L p a (b + 1) = L p a b ++ if p a b = true then [((a : Int), (b : Int))] else [] := fun p a b => by rw [hL, hL, prE_succ]; simp only [List.append_assoc]
 have lE : ∀ p a, L p a (nG g) = L p (a + 1) 0 := fun p a => by rw [hL, hL, prA_succ]; simp [prE]
 have lL : ∀ p a b, a ≤ nG g → b ≤ nG g → (L p a b).length ≤ 4000 := fun p a b ha hb => by
  have q1 := prA_len p (nG g) a
  have q2 := prE_len p a b
  have q3 : a * nG g ≤ 62 * 62 := Nat.mul_le_mul (by omega) hn
  rw [hL, List.length_append]; omega
 have lF : ∀ p, L p (nG g) 0 = prA p (nG g) (nG g) := fun p => by rw [hL]; simp [prE]
 have hlen : ∀ p, (prA p (nG g) (nG g)).length ≤ 4000 := fun p => by rw [← lF]; exact lL p _ _ (Nat.le_refl _) (Nat.zero_le _)
 have o2 : ∀ p, Pure Tryz.prog γ false 60 [.i fun _ => (nG g : Int), .vs 2 fun _ => ps (prA p (nG g) (nG g))] (encRel (nG g) (relRows (nG g) p)) := fun p => by
  have := rof_in (γ := γ) (nG g : Int) (prA p (nG g) (nG g)) (by omega) (by omega) (by have := hlen p; omega)
  rwa [ofTo_rel (nG g) (by omega) p] at this
 have k1 := o2 p1
 have k2 := o2 p2
 have k3 := o2 p3
 have k4 := o2 p4
 clear o2
 refine Pure.goL (ty := ty) ty_eq mo Tryz.func57 rfl Tryz.ntmps57 Tryz.results57 Tryz.call57 (by simp) fun P C CQ D W F E hF => ?_
 refine E.cut 4 (told 95 [(0, pW g), (2, .ptr 0 0), (3, .ptr 1 0)] [.box (.agg [.lit 0, .nils, .lit 0, .nils, .lit 0, .nils, .lit 0, .nils]), .box (.agg [.vs 2 fun _ => ps (prA p1 (nG g) (nG g)), .vs 2 fun _ => ps (prA p2 (nG g) (nG g)), .vs 2 fun _ => ps (prA p3 (nG g) (nG g)), .vs 2 fun _ => ps (prA p4 (nG g) (nG g))])]) (by kernel_rfl) (Nat.zero_le _) (fun I hI => ?_) (E.bl ?_)
 ·cbv
  repeat' (first
   | (refine ⟨fun _ h_s => ?_, fun _ h_s => ?_⟩ <;> (cbv; (try simp only [nc] at *); try simp (disch := (first | omega | (simp only [lnS, zA, zM, zG, zP]; omega))) only [nc, nct, w64_of, zT, zZ, zM, rdS, at_agg, bofZ, bof1, bof0, zC, zS, reduceCtorEq, Bool.not_true, Bool.not_false, zD, zE, zB, zF, zN, zO, ne_eq, zQ, zL, zR, beq_iff_eq] at h_s))
   | (refine hF ?_; intro _; clear hF)
   | (refine hF ?_; cbv; clear hF)
   | (refine ⟨fun _ => ?_, ?_⟩; (· ((try simp only [nc] at *); first | done | omega | exact ⟨by omega, rfl⟩ | (simp (disch := (first | omega | (simp only [lnS, zA, zM, zG, zP]; omega))) only [nc, nct, w64_of, zT, zZ, zM, rdS, at_agg, bofZ, bof1, bof0, zC, zS]; first | done | omega | rfl | exact ⟨by omega, rfl⟩ | (simp; done) | (simp; omega)) | (intros; trivial))); (try (simp only [nc] at *)); (try simp (disch := (first | omega | (simp only [lnS, zA, zM, zG, zP]; omega))) only [nc, nct, w64_of, zT, zZ, zM, rdS, at_agg, bofZ, bof1, bof0, zC, zS]); (try cbv))
   | (refine E.d 27 (by decide +kernel) ?_; cbv; (fail_if_success guard_target =~ False))
   | fail
  )
  refine E.w (AWP.ghostField 1 0 2 rfl rfl ?_)
  refine AWP.ghostField 1 1 2 rfl rfl ?_
  refine AWP.ghostField 1 2 2 rfl rfl ?_
  refine AWP.ghostField 1 3 2 rfl rfl ?_
  refine E.loopSA (ι := Nat) (fun a => a ≤ nG g) (fun a => nG g - a) (fun a => [(4, .i fun _ => ((a : Nat) : Int))]) (fun a h => (((((h.set 1 (.box (.agg [.sl 2 (G (L p1 a 0)) 2 (fun _ => 0) fun _ => (L p1 a 0).length, .sl 3 (G (L p2 a 0)) 2 (fun _ => 0) fun _ => (L p2 a 0).length, .sl 4 (G (L p3 a 0)) 2 (fun _ => 0) fun _ => (L p3 a 0).length, .sl 5 (G (L p4 a 0)) 2 (fun _ => 0) fun _ => (L p4 a 0).length]))).set 2 (.run (G (L p1 a 0)) 2 fun _ => ps (L p1 a 0))).set 3 (.run (G (L p2 a 0)) 2 fun _ => ps (L p2 a 0))).set 4 (.run (G (L p3 a 0)) 2 fun _ => ps (L p3 a 0))).set 5 (.run (G (L p4 a 0)) 2 fun _ => ps (L p4 a 0)))) 0 (fun _ => by first | rfl | simp) (Nat.zero_le _) ?_ fun a ha I1 hJ => ?_
  ·cbv
   simp [l0, hG0, ps, LV.of]
  cbv
  repeat' (first
   | (refine ⟨fun _ h_s => ?_, fun _ h_s => ?_⟩ <;> (cbv; (try simp only [nc] at *); try simp (disch := (first | omega | (simp only [lnS, zA, zM, zG, zP]; omega))) only [nc, nct, w64_of, zT, zZ, zM, rdS, at_agg, bofZ, bof1, bof0, zC, zS, reduceCtorEq, Bool.not_true, Bool.not_false, zD, zE, zB, zF, zN, zO, ne_eq, zQ, zL, zR, beq_iff_eq] at h_s))
   | (refine hF ?_; intro _; clear hF)
   | (refine hF ?_; cbv; clear hF)
   | (refine ⟨fun _ => ?_, ?_⟩; (· ((try simp only [nc] at *); first | done | omega | exact ⟨by omega, rfl⟩ | (simp (disch := (first | omega | (simp only [lnS, zA, zM, zG, zP]; omega))) only [nc, nct, w64_of, zT, zZ, zM, rdS, at_agg, bofZ, bof1, bof0, zC, zS]; first | done | omega | rfl | exact ⟨by omega, rfl⟩ | (simp; done) | (simp; omega)) | (intros; trivial))); (try (simp only [nc] at *)); (try simp (disch := (first | omega | (simp only [lnS, zA, zM, zG, zP]; omega))) only [nc, nct, w64_of, zT, zZ, zM, rdS, at_agg, bofZ, bof1, bof0, zC, zS]); (try cbv))
   | (refine E.d 27 (by decide +kernel) ?_; cbv; (fail_if_success guard_target =~ False))
   | fail
  )
  ·refine E.loopS (ι := Nat) (fun b => b ≤ (nG g)) (fun b => (nG g) - b) (fun b => [(5, .i fun _ => ((b : Nat) : Int))]) (fun b h => (((((h.set 1 (.box (.agg [.sl 2 (G (L p1 a b)) 2 (fun _ => 0) fun _ => (L p1 a b).length, .sl 3 (G (L p2 a b)) 2 (fun _ => 0) fun _ => (L p2 a b).length, .sl 4 (G (L p3 a b)) 2 (fun _ => 0) fun _ => (L p3 a b).length, .sl 5 (G (L p4 a b)) 2 (fun _ => 0) fun _ => (L p4 a b).length]))).set 2 (.run (G (L p1 a b)) 2 fun _ => ps (L p1 a b))).set 3 (.run (G (L p2 a b)) 2 fun _ => ps (L p2 a b))).set 4 (.run (G (L p3 a b)) 2 fun _ => ps (L p3 a b))).set 5 (.run (G (L p4 a b)) 2 fun _ => ps (L p4 a b)))) 0 (fun _ => by first | rfl | simp) (Nat.zero_le _) ?_ fun b hb I2 hI2 => ?_
   ·cbv; simp
   cbv
   have d1 := lL p1 a b ha hb
   have d2 := lL p2 a b ha hb
   have d3 := lL p3 a b ha hb
   have d4 := lL p4 a b ha hb
   skip
   repeat' (first
    | (refine hI2 (b + 1) ?_ ?_ ?_; rotate_left 1; (· ((try simp only [nc] at *); omega)); (cbv; clear hI2; (try clear hF); (try simp only [nc] at *); (try simp (disch := (first | omega | (simp only [lnS, zA, zM, zG, zP]; omega))) only [nc, nct, w64_of, zT, zZ, zM, rdS, at_agg, bofZ, bof1, bof0, zC, zS, implies_true, and_true, true_and, forall_const])); rotate_left 1; (try ((try simp only [nc] at *); omega)))
    | (refine E.c (SCalls.of_le (c4 a b (by ((try simp only [nc] at *); omega)) (by ((try simp only [nc] at *); omega))) ?_ ?_); (· (cbv; (try simp only [nc] at *); first | done | (simp; done) | (simp (disch := (first | omega | (simp only [lnS, zA, zM, zG, zP]; omega))) only [nc, nct, w64_of, zT, zZ, zM, rdS, at_agg, bofZ, bof1, bof0, zC, zS, implies_true, and_true, true_and, forall_const]; first | done | omega | (refine ⟨?_, ?_⟩ <;> omega)) | (simp (disch := (first | omega | (simp only [lnS, zA, zM, zG, zP]; omega))) [nc, nct, w64_of, zT, zZ, zM, rdS, at_agg, bofZ, bof1, bof0, zC, zS]; done))); cbv)
    | (refine E.c (SCalls.of_le (c3 a b (by ((try simp only [nc] at *); omega)) (by ((try simp only [nc] at *); omega))) ?_ ?_); (· (cbv; (try simp only [nc] at *); first | done | (simp; done) | (simp (disch := (first | omega | (simp only [lnS, zA, zM, zG, zP]; omega))) only [nc, nct, w64_of, zT, zZ, zM, rdS, at_agg, bofZ, bof1, bof0, zC, zS, implies_true, and_true, true_and, forall_const]; first | done | omega | (refine ⟨?_, ?_⟩ <;> omega)) | (simp (disch := (first | omega | (simp only [lnS, zA, zM, zG, zP]; omega))) [nc, nct, w64_of, zT, zZ, zM, rdS, at_agg, bofZ, bof1, bof0, zC, zS]; done))); cbv)
    | (refine E.c (SCalls.of_le (c2 a b (by ((try simp only [nc] at *); omega)) (by ((try simp only [nc] at *); omega))) ?_ ?_); (· (cbv; (try simp only [nc] at *); first | done | (simp; done) | (simp (disch := (first | omega | (simp only [lnS, zA, zM, zG, zP]; omega))) only [nc, nct, w64_of, zT, zZ, zM, rdS, at_agg, bofZ, bof1, bof0, zC, zS, implies_true, and_true, true_and, forall_const]; first | done | omega | (refine ⟨?_, ?_⟩ <;> omega)) | (simp (disch := (first | omega | (simp only [lnS, zA, zM, zG, zP]; omega))) [nc, nct, w64_of, zT, zZ, zM, rdS, at_agg, bofZ, bof1, bof0, zC, zS]; done))); cbv)
    | (refine E.c (SCalls.of_le (c1 a b (by ((try simp only [nc] at *); omega)) (by ((try simp only [nc] at *); omega))) ?_ ?_); (· (cbv; (try simp only [nc] at *); first | done | (simp; done) | (simp (disch := (first | omega | (simp only [lnS, zA, zM, zG, zP]; omega))) only [nc, nct, w64_of, zT, zZ, zM, rdS, at_agg, bofZ, bof1, bof0, zC, zS, implies_true, and_true, true_and, forall_const]; first | done | omega | (refine ⟨?_, ?_⟩ <;> omega)) | (simp (disch := (first | omega | (simp only [lnS, zA, zM, zG, zP]; omega))) [nc, nct, w64_of, zT, zZ, zM, rdS, at_agg, bofZ, bof1, bof0, zC, zS]; done))); cbv)
    | (refine ⟨fun _ h_s => ?_, fun _ h_s => ?_⟩ <;> (cbv; (try simp only [nc] at *); try simp (disch := (first | omega | (simp only [lnS, zA, zM, zG, zP]; omega))) only [nc, nct, w64_of, zT, zZ, zM, rdS, at_agg, bofZ, bof1, bof0, zC, zS, reduceCtorEq, Bool.not_true, Bool.not_false, zD, zE, zB, zF, zN, zO, ne_eq, zQ, zL, zR, beq_iff_eq] at h_s))
    | (refine hF ?_; intro _; clear hF)
    | (refine hF ?_; cbv; clear hF)
    | (refine ⟨fun _ => ?_, ?_⟩; (· ((try simp only [nc] at *); first | done | omega | exact ⟨by omega, rfl⟩ | (simp (disch := (first | omega | (simp only [lnS, zA, zM, zG, zP]; omega))) only [nc, nct, w64_of, zT, zZ, zM, rdS, at_agg, bofZ, bof1, bof0, zC, zS]; first | done | omega | rfl | exact ⟨by omega, rfl⟩ | (simp; done) | (simp; omega)) | (intros; trivial) | exact ⟨by first | trivial | rfl, by first | trivial | rfl | simp, by first | trivial | simp, by simp; omega, by simp; omega, by simp [AV.flat, AV.cells, AV.one]⟩)); (try (simp only [nc] at *)); (try simp (disch := (first | omega | (simp only [lnS, zA, zM, zG, zP]; omega))) only [nc, nct, w64_of, zT, zZ, zM, rdS, at_agg, bofZ, bof1, bof0, zC, zS]); (try cbv))
    | (refine E.d 27 (by decide +kernel) ?_; cbv; (fail_if_success guard_target =~ False))
    | fail
   )
   all_goals clear c1 c2 c3 c4 E lL lF l0 hG0 d1 d2 d3 d4
   rotate_right 1
   ·have eb : b = nG g := by ((try simp only [nc] at *); omega)
    subst eb
    simp only [lE]
    refine hJ (a + 1) (by ((try simp only [nc] at *); omega)) (by ((try simp only [nc] at *); omega)) ?_
    cbv
    clear hJ hI hI2
    have e := w64_of (n := (a : Int) + 1) (by omega) (by omega)
    simp [e]
   all_goals clear lE
   all_goals simp_all [hG, setAll, ps, AV.nrm]
   all_goals omega
  ·have ea : a = nG g := by ((try simp only [nc] at *); omega)
   subst ea
   simp only [lF]
   refine hI ?_
   cbv
   clear hI hJ
   simp only [List.drop_zero, nc]
   simp
   refine ⟨?_, ?_, ?_, ?_⟩ <;> exact List.take_of_length_le (by simp)
 ·cbv
  repeat' (first
   | (refine E.c (SCalls.of_le (k4) ?_ ?_); (· (cbv; (try simp only [nc] at *); first | done | (simp; done) | (simp (disch := (first | omega | (simp only [lnS, zA, zM, zG, zP]; omega))) only [nc, nct, w64_of, zT, zZ, zM, rdS, at_agg, bofZ, bof1, bof0, zC, zS, implies_true, and_true, true_and, forall_const]; first | done | omega | (refine ⟨?_, ?_⟩ <;> omega)) | (simp (disch := (first | omega | (simp only [lnS, zA, zM, zG, zP]; omega))) [nc, nct, w64_of, zT, zZ, zM, rdS, at_agg, bofZ, bof1, bof0, zC, zS]; done))); cbv)
   | (refine E.q (QCalls.of_le (k4) ?_ ?_); (· (cbv; (try simp only [nc] at *); first | done | (simp; done) | (simp (disch := (first | omega | (simp only [lnS, zA, zM, zG, zP]; omega))) only [nc, nct, w64_of, zT, zZ, zM, rdS, at_agg, bofZ, bof1, bof0, zC, zS, implies_true, and_true, true_and, forall_const]; first | done | omega | (refine ⟨?_, ?_⟩ <;> omega)) | (simp (disch := (first | omega | (simp only [lnS, zA, zM, zG, zP]; omega))) [nc, nct, w64_of, zT, zZ, zM, rdS, at_agg, bofZ, bof1, bof0, zC, zS]; done))); cbv)
   | (refine E.c (SCalls.of_le (k3) ?_ ?_); (· (cbv; (try simp only [nc] at *); first | done | (simp; done) | (simp (disch := (first | omega | (simp only [lnS, zA, zM, zG, zP]; omega))) only [nc, nct, w64_of, zT, zZ, zM, rdS, at_agg, bofZ, bof1, bof0, zC, zS, implies_true, and_true, true_and, forall_const]; first | done | omega | (refine ⟨?_, ?_⟩ <;> omega)) | (simp (disch := (first | omega | (simp only [lnS, zA, zM, zG, zP]; omega))) [nc, nct, w64_of, zT, zZ, zM, rdS, at_agg, bofZ, bof1, bof0, zC, zS]; done))); cbv)
   | (refine E.q (QCalls.of_le (k3) ?_ ?_); (· (cbv; (try simp only [nc] at *); first | done | (simp; done) | (simp (disch := (first | omega | (simp only [lnS, zA, zM, zG, zP]; omega))) only [nc, nct, w64_of, zT, zZ, zM, rdS, at_agg, bofZ, bof1, bof0, zC, zS, implies_true, and_true, true_and, forall_const]; first | done | omega | (refine ⟨?_, ?_⟩ <;> omega)) | (simp (disch := (first | omega | (simp only [lnS, zA, zM, zG, zP]; omega))) [nc, nct, w64_of, zT, zZ, zM, rdS, at_agg, bofZ, bof1, bof0, zC, zS]; done))); cbv)
   | (refine E.c (SCalls.of_le (k2) ?_ ?_); (· (cbv; (try simp only [nc] at *); first | done | (simp; done) | (simp (disch := (first | omega | (simp only [lnS, zA, zM, zG, zP]; omega))) only [nc, nct, w64_of, zT, zZ, zM, rdS, at_agg, bofZ, bof1, bof0, zC, zS, implies_true, and_true, true_and, forall_const]; first | done | omega | (refine ⟨?_, ?_⟩ <;> omega)) | (simp (disch := (first | omega | (simp only [lnS, zA, zM, zG, zP]; omega))) [nc, nct, w64_of, zT, zZ, zM, rdS, at_agg, bofZ, bof1, bof0, zC, zS]; done))); cbv)
   | (refine E.q (QCalls.of_le (k2) ?_ ?_); (· (cbv; (try simp only [nc] at *); first | done | (simp; done) | (simp (disch := (first | omega | (simp only [lnS, zA, zM, zG, zP]; omega))) only [nc, nct, w64_of, zT, zZ, zM, rdS, at_agg, bofZ, bof1, bof0, zC, zS, implies_true, and_true, true_and, forall_const]; first | done | omega | (refine ⟨?_, ?_⟩ <;> omega)) | (simp (disch := (first | omega | (simp only [lnS, zA, zM, zG, zP]; omega))) [nc, nct, w64_of, zT, zZ, zM, rdS, at_agg, bofZ, bof1, bof0, zC, zS]; done))); cbv)
   | (refine E.c (SCalls.of_le (k1) ?_ ?_); (· (cbv; (try simp only [nc] at *); first | done | (simp; done) | (simp (disch := (first | omega | (simp only [lnS, zA, zM, zG, zP]; omega))) only [nc, nct, w64_of, zT, zZ, zM, rdS, at_agg, bofZ, bof1, bof0, zC, zS, implies_true, and_true, true_and, forall_const]; first | done | omega | (refine ⟨?_, ?_⟩ <;> omega)) | (simp (disch := (first | omega | (simp only [lnS, zA, zM, zG, zP]; omega))) [nc, nct, w64_of, zT, zZ, zM, rdS, at_agg, bofZ, bof1, bof0, zC, zS]; done))); cbv)
   | (refine E.q (QCalls.of_le (k1) ?_ ?_); (· (cbv; (try simp only [nc] at *); first | done | (simp; done) | (simp (disch := (first | omega | (simp only [lnS, zA, zM, zG, zP]; omega))) only [nc, nct, w64_of, zT, zZ, zM, rdS, at_agg, bofZ, bof1, bof0, zC, zS, implies_true, and_true, true_and, forall_const]; first | done | omega | (refine ⟨?_, ?_⟩ <;> omega)) | (simp (disch := (first | omega | (simp only [lnS, zA, zM, zG, zP]; omega))) [nc, nct, w64_of, zT, zZ, zM, rdS, at_agg, bofZ, bof1, bof0, zC, zS]; done))); cbv)
   | (refine ⟨fun _ h_s => ?_, fun _ h_s => ?_⟩ <;> (cbv; (try simp only [nc] at *); try simp (disch := (first | omega | (simp only [lnS, zA, zM, zG, zP]; omega))) only [nc, nct, w64_of, zT, zZ, zM, rdS, at_agg, bofZ, bof1, bof0, zC, zS, reduceCtorEq, Bool.not_true, Bool.not_false, zD, zE, zB, zF, zN, zO, ne_eq, zQ, zL, zR, beq_iff_eq] at h_s))
   | (refine hF ?_; intro _; clear hF)
   | (refine hF ?_; cbv; clear hF)
   | (refine ⟨fun _ => ?_, ?_⟩; (· ((try simp only [nc] at *); first | done | omega | exact ⟨by omega, rfl⟩ | (simp (disch := (first | omega | (simp only [lnS, zA, zM, zG, zP]; omega))) only [nc, nct, w64_of, zT, zZ, zM, rdS, at_agg, bofZ, bof1, bof0, zC, zS]; first | done | omega | rfl | exact ⟨by omega, rfl⟩ | (simp; done) | (simp; omega)) | (intros; trivial) | exact ⟨by first | trivial | rfl, by first | trivial | rfl | simp, by first | trivial | simp, by simp; omega, by simp; omega, by simp [AV.flat, AV.cells, AV.one]⟩)); (try (simp only [nc] at *)); (try simp (disch := (first | omega | (simp only [lnS, zA, zM, zG, zP]; omega))) only [nc, nct, w64_of, zT, zZ, zM, rdS, at_agg, bofZ, bof1, bof0, zC, zS]); (try cbv))
   | (refine E.d 27 (by decide +kernel) ?_; cbv; (fail_if_success guard_target =~ False))
   | fail
  )
end Go.AL.Rl

namespace Go.AL.Rl
open Go Go.AL Go.Proofs
set_option maxRecDepth 100000
set_option maxHeartbeats 3200000
variable {γ : Nat → Option AV}

theorem wsw_ok (g : Gr) (h : GOk g) : Pure Tryz.prog γ false 61 [pW g] (encRel (nG g : Nat) (swF (viewG g) (nG g))) := by
 have hn := (viewG_wf h).small
 have hEl := evsG_l g
 have hVl : (viewG g).ev = evsG g := rfl
 have hfr0 := fun i hi => fr_iff h i hi
 have hfrl := (viewG_wf h).frl
 have q1 := wreads_ok (γ := γ) g
 have q2 := wwrites_ok (γ := γ) g
 have q3 := wacq_ok (γ := γ) g
 have q4 := wrel_ok (γ := γ) g
 have q5 := wsequence_ok (γ := γ) g h
 have q6 := wfrom_ok (γ := γ) g h
 have q7 := wpo_ok (γ := γ) g
 have e1 : ∀ w, cwM (viewG g) w = (writesM ((evsG g).getD w ⟨0, 0, 0, 0, 0⟩) && decide (((evsG g).getD w ⟨0, 0, 0, 0, 0⟩).order ≠ 1)) := fun _ => rfl
 have e2 : ∀ s b, rdrM (viewG g) s b = (readsM ((evsG g).getD b ⟨0, 0, 0, 0, 0⟩) && decide (((evsG g).getD b ⟨0, 0, 0, 0, 0⟩).order ≠ 1) && s.getLsbD ((viewG g).fr.getD b 0).toNat) := fun _ _ => rfl
 have e3 : ∀ w r, crM (viewG g) w r = (relM ((evsG g).getD r ⟨0, 0, 0, 0, 0⟩) && (decide (r = w) || decide (((evsG g).getD r ⟨0, 0, 0, 0, 0⟩).kind = 4) && poM (viewG g) r w)) := fun _ _ => rfl
 have e4 : ∀ b a, caM (viewG g) b a = (acqM ((evsG g).getD a ⟨0, 0, 0, 0, 0⟩) && (decide (a = b) || decide (((evsG g).getD a ⟨0, 0, 0, 0, 0⟩).kind = 4) && poM (viewG g) b a)) := fun _ _ => rfl
 rw [hVl] at q1 q2 q3 q4
 obtain ⟨L, hL⟩ : ∃ L : Nat → Nat → Nat → Nat → List (Int × Int), ∀ w b r a, L w b r a = lAll (viewG g) (nG g) w b r a := ⟨_, fun _ _ _ _ => rfl⟩
 obtain ⟨G, hG⟩ : ∃ G : List (Int × Int) → Nat, ∀ l, G l = l.length := ⟨_, fun _ => rfl⟩
 have hG0 : G [] = 0 := by rw [hG]; rfl
 have l0 : L 0 0 0 0 = [] := by rw [hL]; rfl
 have lL : ∀ w b r a, w ≤ nG g → b ≤ nG g → r ≤ nG g → a ≤ nG g → (L w b r a).length ≤ 100000000 := fun w b r a h1 h2 h3 h4 => by rw [hL]; exact lAll_len _ _ _ _ _ _ hn h1 h2 h3 h4
 have a1 : ∀ w b r a, caM (viewG g) b a = true → L w b r (a + 1) = L w b r a ++ [((r : Int), (a : Int))] := fun w b r a hc => by rw [hL, hL]; exact lAll_a1 _ _ _ _ _ _ hc
 have a0 : ∀ w b r a, ¬ caM (viewG g) b a = true → L w b r (a + 1) = L w b r a := fun w b r a hc => by rw [hL, hL]; exact lAll_a0 _ _ _ _ _ _ hc
 have r1 : ∀ w b r, crM (viewG g) w r = true → L w b (r + 1) 0 = L w b r (nG g) := fun w b r hc => by rw [hL, hL]; exact lAll_r1 _ _ _ _ _ hc
 have r0 : ∀ w b r, ¬ crM (viewG g) w r = true → L w b (r + 1) 0 = L w b r 0 := fun w b r hc => by rw [hL, hL]; exact lAll_r0 _ _ _ _ _ hc
 have b1 : ∀ w b, rdrM (viewG g) (seqM (viewG g) (nG g) w) b = true → L w (b + 1) 0 0 = L w b (nG g) 0 := fun w b hc => by rw [hL, hL]; exact lAll_b1 _ _ _ _ hc
 have b0 : ∀ w b, ¬ rdrM (viewG g) (seqM (viewG g) (nG g) w) b = true → L w (b + 1) 0 0 = L w b 0 0 := fun w b hc => by rw [hL, hL]; exact lAll_b0 _ _ _ _ hc
 have w1 : ∀ w, cwM (viewG g) w = true → L (w + 1) 0 0 0 = L w (nG g) 0 0 := fun w hc => by rw [hL, hL]; exact lAll_w1 _ _ _ hc
 have w0 : ∀ w, ¬ cwM (viewG g) w = true → L (w + 1) 0 0 0 = L w 0 0 0 := fun w hc => by rw [hL, hL]; exact lAll_w0 _ _ _ hc
 have eO : swF (viewG g) (nG g) = ofTo (nG g) (L (nG g) 0 0 0) (L (nG g) 0 0 0).length := by rw [hL]; exact (ofTo_sw (viewG g) (nG g) hn).symm
 have lN := lL (nG g) 0 0 0 (Nat.le_refl _) (Nat.zero_le _) (Nat.zero_le _) (Nat.zero_le _)
 have kO := rof_in (γ := γ) (nG g : Int) (L (nG g) 0 0 0) (by omega) (by omega) (by omega)
 rw [eO]
 clear eO hL
 generalize hS : seqM (viewG g) (nG g) = S at *
 generalize hF' : (viewG g).fr = FR at *
 generalize hP : poM (viewG g) = PO at *
 refine Pure.goL (ty := ty) ty_eq mo Tryz.func61 rfl Tryz.ntmps61 Tryz.results61 Tryz.call61 (by simp) fun P C CQ D W F E hF => ?_
 refine E.cut 4 (told 148 [(0, pW g), (2, .ptr 0 0), (3, .vs 2 fun _ => ps (L (nG g) 0 0 0))] [.box (.agg [.lit 0, .nils])]) (by kernel_rfl) (Nat.zero_le _) (fun I hI => ?_) (E.bl ?_)
 ·cbv
  repeat' (first
   | (refine ⟨fun _ h_s => ?_, fun _ h_s => ?_⟩ <;> (cbv; (try simp only [nc] at *); try simp (disch := (first | omega | (simp only [lnS, zA, zM, zG, zP]; omega))) only [nc, nct, w64_of, zT, zZ, zM, rdS, at_agg, bofZ, bof1, bof0, zC, zS, reduceCtorEq, Bool.not_true, Bool.not_false, zD, zE, zB, zF, zN, zO, ne_eq, zQ, zL, zR, beq_iff_eq] at h_s))
   | (refine hF ?_; intro _; clear hF)
   | (refine hF ?_; cbv; clear hF)
   | (refine ⟨fun _ => ?_, ?_⟩; (· ((try simp only [nc] at *); first | done | omega | exact ⟨by omega, rfl⟩ | (simp (disch := (first | omega | (simp only [lnS, zA, zM, zG, zP]; omega))) only [nc, nct, w64_of, zT, zZ, zM, rdS, at_agg, bofZ, bof1, bof0, zC, zS]; first | done | omega | rfl | exact ⟨by omega, rfl⟩ | (simp; done) | (simp; omega)) | (intros; trivial))); (try (simp only [nc] at *)); (try simp (disch := (first | omega | (simp only [lnS, zA, zM, zG, zP]; omega))) only [nc, nct, w64_of, zT, zZ, zM, rdS, at_agg, bofZ, bof1, bof0, zC, zS]); (try cbv))
   | fail
  )
  refine E.w (AWP.ghostSlot 3 2 rfl (by omega) (E.loopSA (ι := Nat) (fun w => w ≤ (nG g)) (fun w => (nG g) - w) (fun w => [(4, .i fun _ => ((w : Nat) : Int)), (3, .sl 1 (G (L w 0 0 0)) 2 (fun _ => 0) fun _ => (L w 0 0 0).length)]) (fun w h => h.set 1 (.run (G (L w 0 0 0)) 2 fun _ => ps (L w 0 0 0))) 0 (fun _ => by first | rfl | simp) (Nat.zero_le _) ?_ fun w hw I1 hJ => ?_))
  ·cbv; simp [l0, hG0, ps, LV.of]
  cbv
  have k2 := q2 w
  have k5 := q5 w
  have kw0 := w0 w
  have kw1 := w1 w
  have ew := e1 w
  repeat' (first
   | (refine hJ (w + 1) ?_ ?_ ?_; rotate_left 1; (· ((try simp only [nc] at *); omega)); (cbv; clear hJ; (try clear hF); (try simp only [nc] at *); (try simp (disch := (first | omega | (simp only [lnS, zA, zM, zG, zP]; omega))) only [nc, nct, w64_of, zT, zZ, zM, rdS, at_agg, bofZ, bof1, bof0, zC, zS, implies_true, and_true, true_and, forall_const])); rotate_left 1; (try ((try simp only [nc] at *); omega)))
   | (refine E.c (SCalls.of_le (k5 (by ((try simp only [nc] at *); omega))) ?_ ?_); (· (cbv; (try simp only [nc] at *); first | done | (simp; done) | (simp (disch := (first | omega | (simp only [lnS, zA, zM, zG, zP]; omega))) only [nc, nct, w64_of, zT, zZ, zM, rdS, at_agg, bofZ, bof1, bof0, zC, zS, implies_true, and_true, true_and, forall_const]; first | done | omega | (refine ⟨?_, ?_⟩ <;> omega)) | (simp (disch := (first | omega | (simp only [lnS, zA, zM, zG, zP]; omega))) [nc, nct, w64_of, zT, zZ, zM, rdS, at_agg, bofZ, bof1, bof0, zC, zS]; done))); cbv)
   | (refine E.c (SCalls.of_le (k2 (by ((try simp only [nc] at *); omega))) ?_ ?_); (· (cbv; (try simp only [nc] at *); first | done | (simp; done) | (simp (disch := (first | omega | (simp only [lnS, zA, zM, zG, zP]; omega))) only [nc, nct, w64_of, zT, zZ, zM, rdS, at_agg, bofZ, bof1, bof0, zC, zS, implies_true, and_true, true_and, forall_const]; first | done | omega | (refine ⟨?_, ?_⟩ <;> omega)) | (simp (disch := (first | omega | (simp only [lnS, zA, zM, zG, zP]; omega))) [nc, nct, w64_of, zT, zZ, zM, rdS, at_agg, bofZ, bof1, bof0, zC, zS]; done))); cbv)
   | (refine ⟨fun _ h_s => ?_, fun _ h_s => ?_⟩ <;> (cbv; (try simp only [nc] at *); try simp (disch := (first | omega | (simp only [lnS, zA, zM, zG, zP]; omega))) only [nc, nct, w64_of, zT, zZ, zM, rdS, at_agg, bofZ, bof1, bof0, zC, zS, reduceCtorEq, Bool.not_true, Bool.not_false, zD, zE, zB, zF, zN, zO, ne_eq, zQ, zL, zR, beq_iff_eq] at h_s))
   | (refine hF ?_; intro _; clear hF)
   | (refine hF ?_; cbv; clear hF)
   | (refine ⟨fun _ => ?_, ?_⟩; (· ((try simp only [nc] at *); first | done | omega | exact ⟨by omega, rfl⟩ | (simp (disch := (first | omega | (simp only [lnS, zA, zM, zG, zP]; omega))) only [nc, nct, w64_of, zT, zZ, zM, rdS, at_agg, bofZ, bof1, bof0, zC, zS]; first | done | omega | rfl | exact ⟨by omega, rfl⟩ | (simp; done) | (simp; omega)) | (intros; trivial))); (try (simp only [nc] at *)); (try simp (disch := (first | omega | (simp only [lnS, zA, zM, zG, zP]; omega))) only [nc, nct, w64_of, zT, zZ, zM, rdS, at_agg, bofZ, bof1, bof0, zC, zS]); (try cbv))
   | fail
  )
  iterate 2
   ·have hc : ¬ cwM (viewG g) w = true := by
     clear kw0 kw1 w0 w1 r0 r1 b0 b1 a0 a1 lL
     rw [ew]; simp_all
    rw [kw0 hc]
    exact ⟨⟨⟨rfl, rfl⟩, by push_cast; rfl⟩, rfl, rfl⟩
  ·have hcw : cwM (viewG g) w = true := by
    clear kw0 kw1 w0 w1 r0 r1 b0 b1 a0 a1 lL
    rw [ew]; simp_all
   replace kw1 := kw1 hcw
   clear kw0 ew
   refine E.loopS (ι := Nat) (fun b => b ≤ (nG g)) (fun b => (nG g) - b) (fun b => [(6, .i fun _ => ((b : Nat) : Int)), (3, .sl 1 (G (L w b 0 0)) 2 (fun _ => 0) fun _ => (L w b 0 0).length)]) (fun b h => h.set 1 (.run (G (L w b 0 0)) 2 fun _ => ps (L w b 0 0))) 0 (fun _ => by first | rfl | simp) (Nat.zero_le _) ?_ fun b hb I2 hI2 => ?_
   ·cbv; simp
   cbv
   have k1 := q1 b
   have k6 := q6 b
   have kb0 := b0 w b
   have kb1 := b1 w b
   have eb := e2 (S w) b
   have hf1 := hfr0 b
   have hf2 := hfrl b
   repeat' (first
    | (refine hJ (w + 1) ?_ ?_ ?_; rotate_left 1; (· ((try simp only [nc] at *); omega)); (cbv; clear hJ; (try clear hF); (try simp only [nc] at *); (try simp (disch := (first | omega | (simp only [lnS, zA, zM, zG, zP]; omega))) only [nc, nct, w64_of, zT, zZ, zM, rdS, at_agg, bofZ, bof1, bof0, zC, zS, implies_true, and_true, true_and, forall_const])); rotate_left 1; (try ((try simp only [nc] at *); omega)))
    | (refine hI2 (b + 1) ?_ ?_ ?_; rotate_left 1; (· ((try simp only [nc] at *); omega)); (cbv; clear hI2; (try clear hF); (try simp only [nc] at *); (try simp (disch := (first | omega | (simp only [lnS, zA, zM, zG, zP]; omega))) only [nc, nct, w64_of, zT, zZ, zM, rdS, at_agg, bofZ, bof1, bof0, zC, zS, implies_true, and_true, true_and, forall_const])); rotate_left 1; (try ((try simp only [nc] at *); omega)))
    | (refine E.c (SCalls.of_le (k6 (by ((try simp only [nc] at *); omega))) ?_ ?_); (· (cbv; (try simp only [nc] at *); first | done | (simp; done) | (simp (disch := (first | omega | (simp only [lnS, zA, zM, zG, zP]; omega))) only [nc, nct, w64_of, zT, zZ, zM, rdS, at_agg, bofZ, bof1, bof0, zC, zS, implies_true, and_true, true_and, forall_const]; first | done | omega | (refine ⟨?_, ?_⟩ <;> omega)) | (simp (disch := (first | omega | (simp only [lnS, zA, zM, zG, zP]; omega))) [nc, nct, w64_of, zT, zZ, zM, rdS, at_agg, bofZ, bof1, bof0, zC, zS]; done))); cbv)
    | (refine E.c (SCalls.of_le (k1 (by ((try simp only [nc] at *); omega))) ?_ ?_); (· (cbv; (try simp only [nc] at *); first | done | (simp; done) | (simp (disch := (first | omega | (simp only [lnS, zA, zM, zG, zP]; omega))) only [nc, nct, w64_of, zT, zZ, zM, rdS, at_agg, bofZ, bof1, bof0, zC, zS, implies_true, and_true, true_and, forall_const]; first | done | omega | (refine ⟨?_, ?_⟩ <;> omega)) | (simp (disch := (first | omega | (simp only [lnS, zA, zM, zG, zP]; omega))) [nc, nct, w64_of, zT, zZ, zM, rdS, at_agg, bofZ, bof1, bof0, zC, zS]; done))); cbv)
    | (refine ⟨fun _ h_s => ?_, fun _ h_s => ?_⟩ <;> (cbv; (try simp only [nc] at *); try simp (disch := (first | omega | (simp only [lnS, zA, zM, zG, zP]; omega))) only [nc, nct, w64_of, zT, zZ, zM, rdS, at_agg, bofZ, bof1, bof0, zC, zS, reduceCtorEq, Bool.not_true, Bool.not_false, zD, zE, zB, zF, zN, zO, ne_eq, zQ, zL, zR, beq_iff_eq] at h_s))
    | (refine hF ?_; intro _; clear hF)
    | (refine hF ?_; cbv; clear hF)
    | (refine ⟨fun _ => ?_, ?_⟩; (· ((try simp only [nc] at *); first | done | omega | exact ⟨by omega, rfl⟩ | (simp (disch := (first | omega | (simp only [lnS, zA, zM, zG, zP]; omega))) only [nc, nct, w64_of, zT, zZ, zM, rdS, at_agg, bofZ, bof1, bof0, zC, zS]; first | done | omega | rfl | exact ⟨by omega, rfl⟩ | (simp; done) | (simp; omega)) | (intros; trivial))); (try (simp only [nc] at *)); (try simp (disch := (first | omega | (simp only [lnS, zA, zM, zG, zP]; omega))) only [nc, nct, w64_of, zT, zZ, zM, rdS, at_agg, bofZ, bof1, bof0, zC, zS]); (try cbv))
    | fail
   )
   iterate 3
    ·have hc : ¬ rdrM (viewG g) (S w) b = true := by
      clear kb0 kb1 w0 w1 r0 r1 b0 b1 a0 a1 lL
      rw [eb]
      first
       | (simp_all; done)
       | (rw [bofZ (by simp_all) (by omega), mod2_bit0] at h_s; rw [Bool.and_eq_true]; rintro ⟨_, hx⟩; rw [h_s] at hx; cases hx)
     rw [kb0 hc]
     exact ⟨⟨⟨rfl, rfl⟩, by push_cast; rfl⟩, rfl, rfl⟩
   ·have hcb : rdrM (viewG g) (S w) b = true := by
     clear kb0 kb1 w0 w1 r0 r1 b0 b1 a0 a1 lL
     rw [eb]
     rw [bofZ (by simp_all) (by omega), mod2_bit0] at h_s
     simp_all
    replace kb1 := kb1 hcb
    clear kb0 eb
    refine E.loopS (ι := Nat) (fun r => r ≤ (nG g)) (fun r => (nG g) - r) (fun r => [(7, .i fun _ => ((r : Nat) : Int)), (3, .sl 1 (G (L w b r 0)) 2 (fun _ => 0) fun _ => (L w b r 0).length)]) (fun r h => h.set 1 (.run (G (L w b r 0)) 2 fun _ => ps (L w b r 0))) 0 (fun _ => by first | rfl | simp) (Nat.zero_le _) ?_ fun r hr I3 hI3 => ?_
    ·cbv; simp
    cbv
    have k4 := q4 r
    have k7 := q7 r w
    have kr0 := r0 w b r
    have kr1 := r1 w b r
    have er := e3 w r
    repeat' (first
     | (refine hI2 (b + 1) ?_ ?_ ?_; rotate_left 1; (· ((try simp only [nc] at *); omega)); (cbv; clear hI2; (try clear hF); (try simp only [nc] at *); (try simp (disch := (first | omega | (simp only [lnS, zA, zM, zG, zP]; omega))) only [nc, nct, w64_of, zT, zZ, zM, rdS, at_agg, bofZ, bof1, bof0, zC, zS, implies_true, and_true, true_and, forall_const])); rotate_left 1; (try ((try simp only [nc] at *); omega)))
     | (refine hI3 (r + 1) ?_ ?_ ?_; rotate_left 1; (· ((try simp only [nc] at *); omega)); (cbv; clear hI3; (try clear hF); (try simp only [nc] at *); (try simp (disch := (first | omega | (simp only [lnS, zA, zM, zG, zP]; omega))) only [nc, nct, w64_of, zT, zZ, zM, rdS, at_agg, bofZ, bof1, bof0, zC, zS, implies_true, and_true, true_and, forall_const])); rotate_left 1; (try ((try simp only [nc] at *); omega)))
     | (refine E.c (SCalls.of_le (k7 (by ((try simp only [nc] at *); omega)) (by ((try simp only [nc] at *); omega))) ?_ ?_); (· (cbv; (try simp only [nc] at *); first | done | (simp; done) | (simp (disch := (first | omega | (simp only [lnS, zA, zM, zG, zP]; omega))) only [nc, nct, w64_of, zT, zZ, zM, rdS, at_agg, bofZ, bof1, bof0, zC, zS, implies_true, and_true, true_and, forall_const]; first | done | omega | (refine ⟨?_, ?_⟩ <;> omega)) | (simp (disch := (first | omega | (simp only [lnS, zA, zM, zG, zP]; omega))) [nc, nct, w64_of, zT, zZ, zM, rdS, at_agg, bofZ, bof1, bof0, zC, zS]; done))); cbv)
     | (refine E.c (SCalls.of_le (k4 (by ((try simp only [nc] at *); omega))) ?_ ?_); (· (cbv; (try simp only [nc] at *); first | done | (simp; done) | (simp (disch := (first | omega | (simp only [lnS, zA, zM, zG, zP]; omega))) only [nc, nct, w64_of, zT, zZ, zM, rdS, at_agg, bofZ, bof1, bof0, zC, zS, implies_true, and_true, true_and, forall_const]; first | done | omega | (refine ⟨?_, ?_⟩ <;> omega)) | (simp (disch := (first | omega | (simp only [lnS, zA, zM, zG, zP]; omega))) [nc, nct, w64_of, zT, zZ, zM, rdS, at_agg, bofZ, bof1, bof0, zC, zS]; done))); cbv)
     | (refine ⟨fun _ h_s => ?_, fun _ h_s => ?_⟩ <;> (cbv; (try simp only [nc] at *); try simp (disch := (first | omega | (simp only [lnS, zA, zM, zG, zP]; omega))) only [nc, nct, w64_of, zT, zZ, zM, rdS, at_agg, bofZ, bof1, bof0, zC, zS, reduceCtorEq, Bool.not_true, Bool.not_false, zD, zE, zB, zF, zN, zO, ne_eq, zQ, zL, zR, beq_iff_eq] at h_s))
     | (refine hF ?_; intro _; clear hF)
     | (refine hF ?_; cbv; clear hF)
     | (refine ⟨fun _ => ?_, ?_⟩; (· ((try simp only [nc] at *); first | done | omega | exact ⟨by omega, rfl⟩ | (simp (disch := (first | omega | (simp only [lnS, zA, zM, zG, zP]; omega))) only [nc, nct, w64_of, zT, zZ, zM, rdS, at_agg, bofZ, bof1, bof0, zC, zS]; first | done | omega | rfl | exact ⟨by omega, rfl⟩ | (simp; done) | (simp; omega)) | (intros; trivial))); (try (simp only [nc] at *)); (try simp (disch := (first | omega | (simp only [lnS, zA, zM, zG, zP]; omega))) only [nc, nct, w64_of, zT, zZ, zM, rdS, at_agg, bofZ, bof1, bof0, zC, zS]); (try cbv))
     | fail
    )
    have eri : ((r : Int) = w) ↔ r = w := Int.ofNat_inj
    iterate 3
     ·have hc : ¬ crM (viewG g) w r = true := by
       clear kr0 kr1 w0 w1 r0 r1 b0 b1 a0 a1 lL
       rw [er]
       first
        | (simp_all; done)
        | (simp_all; omega)
      rw [kr0 hc]
      exact ⟨⟨⟨rfl, rfl⟩, by push_cast; rfl⟩, rfl, rfl⟩
    iterate 2
     ·have hcr : crM (viewG g) w r = true := by
       clear kr0 kr1 w0 w1 r0 r1 b0 b1 a0 a1 lL
       rw [er]
       first
        | (simp_all; done)
        | (simp_all; omega)
        | (
          have e : r = w := by omega
          simp_all; done)
      replace kr1 := kr1 hcr
      clear kr0 er
      refine E.loopS (ι := Nat) (fun a => a ≤ (nG g)) (fun a => (nG g) - a) (fun a => [(8, .i fun _ => ((a : Nat) : Int)), (3, .sl 1 (G (L w b r a)) 2 (fun _ => 0) fun _ => (L w b r a).length)]) (fun a h => h.set 1 (.run (G (L w b r a)) 2 fun _ => ps (L w b r a))) 0 (fun _ => by first | rfl | simp) (Nat.zero_le _) ?_ fun a ha I4 hI4 => ?_
      ·cbv; simp
      cbv
      have k3 := q3 a
      have k7 := q7 b a
      have ka0 := a0 w b r a
      have ka1 := a1 w b r a
      have ea := e4 b a
      have d1 := lL w b r a (by omega) (by omega) (by omega) (by omega)
      skip
      repeat' (first
       | (refine hI3 (r + 1) ?_ ?_ ?_; rotate_left 1; (· ((try simp only [nc] at *); omega)); (cbv; clear hI3; (try clear hF); (try simp only [nc] at *); (try simp (disch := (first | omega | (simp only [lnS, zA, zM, zG, zP]; omega))) only [nc, nct, w64_of, zT, zZ, zM, rdS, at_agg, bofZ, bof1, bof0, zC, zS, implies_true, and_true, true_and, forall_const])); rotate_left 1; (try ((try simp only [nc] at *); omega)))
       | (refine hI4 (a + 1) ?_ ?_ ?_; rotate_left 1; (· ((try simp only [nc] at *); omega)); (cbv; clear hI4; (try clear hF); (try simp only [nc] at *); (try simp (disch := (first | omega | (simp only [lnS, zA, zM, zG, zP]; omega))) only [nc, nct, w64_of, zT, zZ, zM, rdS, at_agg, bofZ, bof1, bof0, zC, zS, implies_true, and_true, true_and, forall_const])); rotate_left 1; (try ((try simp only [nc] at *); omega)))
       | (refine E.c (SCalls.of_le (k7 (by ((try simp only [nc] at *); omega)) (by ((try simp only [nc] at *); omega))) ?_ ?_); (· (cbv; (try simp only [nc] at *); first | done | (simp; done) | (simp (disch := (first | omega | (simp only [lnS, zA, zM, zG, zP]; omega))) only [nc, nct, w64_of, zT, zZ, zM, rdS, at_agg, bofZ, bof1, bof0, zC, zS, implies_true, and_true, true_and, forall_const]; first | done | omega | (refine ⟨?_, ?_⟩ <;> omega)) | (simp (disch := (first | omega | (simp only [lnS, zA, zM, zG, zP]; omega))) [nc, nct, w64_of, zT, zZ, zM, rdS, at_agg, bofZ, bof1, bof0, zC, zS]; done))); cbv)
       | (refine E.c (SCalls.of_le (k3 (by ((try simp only [nc] at *); omega))) ?_ ?_); (· (cbv; (try simp only [nc] at *); first | done | (simp; done) | (simp (disch := (first | omega | (simp only [lnS, zA, zM, zG, zP]; omega))) only [nc, nct, w64_of, zT, zZ, zM, rdS, at_agg, bofZ, bof1, bof0, zC, zS, implies_true, and_true, true_and, forall_const]; first | done | omega | (refine ⟨?_, ?_⟩ <;> omega)) | (simp (disch := (first | omega | (simp only [lnS, zA, zM, zG, zP]; omega))) [nc, nct, w64_of, zT, zZ, zM, rdS, at_agg, bofZ, bof1, bof0, zC, zS]; done))); cbv)
       | (refine ⟨fun _ h_s => ?_, fun _ h_s => ?_⟩ <;> (cbv; (try simp only [nc] at *); try simp (disch := (first | omega | (simp only [lnS, zA, zM, zG, zP]; omega))) only [nc, nct, w64_of, zT, zZ, zM, rdS, at_agg, bofZ, bof1, bof0, zC, zS, reduceCtorEq, Bool.not_true, Bool.not_false, zD, zE, zB, zF, zN, zO, ne_eq, zQ, zL, zR, beq_iff_eq] at h_s))
       | (refine hF ?_; intro _; clear hF)
       | (refine hF ?_; cbv; clear hF)
       | (refine ⟨fun _ => ?_, ?_⟩; (· ((try simp only [nc] at *); first | done | omega | exact ⟨by omega, rfl⟩ | (simp (disch := (first | omega | (simp only [lnS, zA, zM, zG, zP]; omega))) only [nc, nct, w64_of, zT, zZ, zM, rdS, at_agg, bofZ, bof1, bof0, zC, zS]; first | done | omega | rfl | exact ⟨by omega, rfl⟩ | (simp; done) | (simp; omega)) | (intros; trivial) | exact ⟨by first | trivial | rfl, by first | trivial | rfl | simp, by first | trivial | simp, by simp; omega, by simp; omega, by simp [AV.flat, AV.cells, AV.one]⟩)); (try (simp only [nc] at *)); (try simp (disch := (first | omega | (simp only [lnS, zA, zM, zG, zP]; omega))) only [nc, nct, w64_of, zT, zZ, zM, rdS, at_agg, bofZ, bof1, bof0, zC, zS]); (try cbv))
       | fail
      )
      all_goals (have eai : ((a : Int) = b) ↔ a = b := Int.ofNat_inj)
      iterate 2
       ·have hc : caM (viewG g) b a = true := by
         clear ka0 ka1 w0 w1 r0 r1 b0 b1 a0 a1 lL
         rw [ea]
         first
          | (simp_all; done)
          | (simp_all; omega)
          | (
            have e : a = b := by omega
            simp_all; done)
        replace ka1 := ka1 hc
        clear w0 w1 r0 r1 b0 b1 a0 a1 lL
        rw [ka1]
        simp [hG, ps, setAll, AV.nrm]
      iterate 3
       ·have hc : ¬ caM (viewG g) b a = true := by
         clear ka0 ka1 w0 w1 r0 r1 b0 b1 a0 a1 lL
         rw [ea]
         first
          | (simp_all; done)
          | (simp_all; omega)
        rw [ka0 hc]
        exact ⟨⟨⟨rfl, rfl⟩, by push_cast; rfl⟩, rfl, rfl⟩
      ·have e : a = nG g := by ((try simp only [nc] at *); omega)
       subst e
       rw [kr1]
       exact ⟨⟨⟨rfl, rfl⟩, by push_cast; rfl⟩, rfl, rfl⟩
    ·have e : r = nG g := by ((try simp only [nc] at *); omega)
     subst e
     rw [kb1]
     exact ⟨⟨⟨rfl, rfl⟩, by push_cast; rfl⟩, rfl, rfl⟩
   ·have e : b = nG g := by ((try simp only [nc] at *); omega)
    subst e
    rw [kw1]
    exact ⟨⟨⟨rfl, rfl⟩, by push_cast; rfl⟩, rfl, rfl⟩
  ·have ew : w = nG g := by ((try simp only [nc] at *); omega)
   subst ew
   refine hI ?_
   cbv
   clear hI hJ
   simp only [List.drop_zero, nc]
   simp
   exact List.take_of_length_le (by simp)
 ·cbv
  repeat' (first
   | (refine E.c (SCalls.of_le (kO) ?_ ?_); (· (cbv; (try simp only [nc] at *); first | done | (simp; done) | (simp (disch := (first | omega | (simp only [lnS, zA, zM, zG, zP]; omega))) only [nc, nct, w64_of, zT, zZ, zM, rdS, at_agg, bofZ, bof1, bof0, zC, zS, implies_true, and_true, true_and, forall_const]; first | done | omega | (refine ⟨?_, ?_⟩ <;> omega)) | (simp (disch := (first | omega | (simp only [lnS, zA, zM, zG, zP]; omega))) [nc, nct, w64_of, zT, zZ, zM, rdS, at_agg, bofZ, bof1, bof0, zC, zS]; done))); cbv)
   | (refine ⟨fun _ h_s => ?_, fun _ h_s => ?_⟩ <;> (cbv; (try simp only [nc] at *); try simp (disch := (first | omega | (simp only [lnS, zA, zM, zG, zP]; omega))) only [nc, nct, w64_of, zT, zZ, zM, rdS, at_agg, bofZ, bof1, bof0, zC, zS, reduceCtorEq, Bool.not_true, Bool.not_false, zD, zE, zB, zF, zN, zO, ne_eq, zQ, zL, zR, beq_iff_eq] at h_s))
   | (refine hF ?_; intro _; clear hF)
   | (refine hF ?_; cbv; clear hF)
   | (refine ⟨fun _ => ?_, ?_⟩; (· ((try simp only [nc] at *); first | done | omega | exact ⟨by omega, rfl⟩ | (simp (disch := (first | omega | (simp only [lnS, zA, zM, zG, zP]; omega))) only [nc, nct, w64_of, zT, zZ, zM, rdS, at_agg, bofZ, bof1, bof0, zC, zS]; first | done | omega | rfl | exact ⟨by omega, rfl⟩ | (simp; done) | (simp; omega)) | (intros; trivial) | exact ⟨by first | trivial | rfl, by first | trivial | rfl | simp, by first | trivial | simp, by simp; omega, by simp; omega, by simp [AV.flat, AV.cells, AV.one]⟩)); (try (simp only [nc] at *)); (try simp (disch := (first | omega | (simp only [lnS, zA, zM, zG, zP]; omega))) only [nc, nct, w64_of, zT, zZ, zM, rdS, at_agg, bofZ, bof1, bof0, zC, zS]); (try cbv))
   | fail
  )
end Go.AL.Rl

namespace Go.AL.Rl
open Go Go.AL Go.Proofs
set_option maxRecDepth 100000
set_option maxHeartbeats 3200000
variable {γ : Nat → Option AV}

theorem ror3 (n : Nat) (a b c : List (BitVec 64)) (ha : Fits n a) (hb : Fits n b) (hc : Fits n c) : Pure Tryz.prog γ false 59 [.vs 2 fun _ => rls [((n : Int), a), ((n : Int), b), ((n : Int), c)]] (encRel n (orM n [((n : Int), a), ((n : Int), b), ((n : Int), c)])) :=
 ror_yes _ (by simp) (alike3 n a b c ha hb hc) n rfl
theorem w15All_yes (g : Gr) (hg : Rd g) (h : GOk g) : Pure Tryz.prog γ false 37 [aGr g] (.tup [aDer (nG g : Nat) (poF (viewG g) (nG g)) (rfF (viewG g) (nG g)) (coF (viewG g) (nG g)) (frF (viewG g) (nG g)) (ecoF (viewG g) (nG g)) (porfF (viewG g) (nG g)) (locF (viewG g) (nG g)) (swF (viewG g) (nG g)) (hbF (viewG g) (nG g)), .i fun _ => 0]) := by
 have hV := viewG_wf h
 have hn := hV.small
 have kl := look15_yes (γ := γ) g hg h
 have kg := wgiven_ok (γ := γ) g hg h
 have ks := wsw_ok (γ := γ) g h
 have f1 := fits_poF (viewG g) hV.small
 have f2 := fits_rfF (viewG g) hV.small
 have f3 := fits_coF (viewG g) hV.small
 have f4 := fits_frF (viewG g) hV.small
 have f6 := fits_swF (viewG g) hV.small
 have o1 := ror3 (γ := γ) (nG g) _ _ _ f2 f3 f4
 have o2 := ror2 (γ := γ) (nG g) _ _ f1 f2
 have o3 := ror2 (γ := γ) (nG g) _ _ f1 f6
 have p1 := rplus_yes (γ := γ) (nG g) _ (fits_or (by omega) (l := [((nG g : Int), rfF (viewG g) (nG g)), ((nG g : Int), coF (viewG g) (nG g)), ((nG g : Int), frF (viewG g) (nG g))]) (by simp [f2, f3, f4]))
 have p2 := rplus_yes (γ := γ) (nG g) _ (fits_or2 f1 f2)
 have p3 := rplus_yes (γ := γ) (nG g) _ (fits_or2 f1 f6)
 have c1 := wloc_ok (γ := γ) g
 have e1 : plusM (nG g) (orM (nG g) [((nG g : Int), rfF (viewG g) (nG g)), ((nG g : Int), coF (viewG g) (nG g)), ((nG g : Int), frF (viewG g) (nG g))]) = ecoF (viewG g) (nG g) := by simp [ecoF]
 have e2 : plusM (nG g) (orM (nG g) [((nG g : Int), poF (viewG g) (nG g)), ((nG g : Int), rfF (viewG g) (nG g))]) = porfF (viewG g) (nG g) := by simp [porfF]
 have e3 : plusM (nG g) (orM (nG g) [((nG g : Int), poF (viewG g) (nG g)), ((nG g : Int), swF (viewG g) (nG g))]) = hbF (viewG g) (nG g) := by simp [hbF]
 rw [e1] at p1
 rw [e2] at p2
 rw [e3] at p3
 have eL : locF (viewG g) (nG g) = relRows (nG g) (locM (viewG g)) := rfl
 rw [eL]
 clear e1 e2 e3 eL f1 f2 f3 f4 f6
 generalize locM (viewG g) = p at *
 generalize poF (viewG g) (nG g) = q1 at *
 generalize rfF (viewG g) (nG g) = q2 at *
 generalize coF (viewG g) (nG g) = q3 at *
 generalize frF (viewG g) (nG g) = q4 at *
 generalize swF (viewG g) (nG g) = q5 at *
 generalize ecoF (viewG g) (nG g) = q6 at *
 generalize porfF (viewG g) (nG g) = q7 at *
 generalize hbF (viewG g) (nG g) = q8 at *
 obtain ⟨L, hL⟩ : ∃ L : Nat → Nat → List (Int × Int), ∀ a b, L a b = prA p (nG g) a ++ prE p a b := ⟨_, fun _ _ => rfl⟩
 obtain ⟨G, hG⟩ : ∃ G : List (Int × Int) → Nat, ∀ l, G l = l.length := ⟨_, fun _ => rfl⟩
 have hG0 : G [] = 0 := by rw [hG]; rfl
 have l0 : L 0 0 = [] := by rw [hL]; rfl
 have lS : ∀ a b, L a (b + 1) = L a b ++ if p a b = true then [((a : Int), (b : Int))] else [] := fun a b => by rw [hL, hL, prE_succ]; simp only [List.append_assoc]
 have lE : ∀ a, L a (nG g) = L (a + 1) 0 := fun a => by rw [hL, hL, prA_succ]; simp [prE]
 have lL : ∀ a b, a ≤ nG g → b ≤ nG g → (L a b).length ≤ 4000 := fun a b ha hb => by
  have q1 := prA_len p (nG g) a
  have q2 := prE_len p a b
  have q3 : a * nG g ≤ 62 * 62 := Nat.mul_le_mul (by omega) hn
  rw [hL, List.length_append]; omega
 have lF : L (nG g) 0 = prA p (nG g) (nG g) := by rw [hL]; simp [prE]
 have lN := lL (nG g) 0 (Nat.le_refl _) (Nat.zero_le _)
 have kO := rof_in (γ := γ) (nG g : Int) (prA p (nG g) (nG g)) (by omega) (by omega) (by rw [← lF]; omega)
 rw [ofTo_rel (nG g) (by omega) p, ← lF] at kO
 clear hL lF
 refine Pure.goL (ty := ty) ty_eq mo Tryz.func37 rfl Tryz.ntmps37 Tryz.results37 Tryz.call37 (by simp) fun P C CQ D W F E hF => ?_
 refine E.cut 7 (told 96 [(1, .ptr 0 0), (2, .ptr 1 0), (3, .lit 0), (4, pW g), (6, .vs 2 fun _ => ps (L (nG g) 0))] [.box (aGr g), .box (.agg [.lit 0, .nils, .lit 0, .nils, .lit 0, .nils, .lit 0, .nils, .lit 0, .nils, .lit 0, .nils, .lit 0, .nils, .lit 0, .nils, .lit 0, .nils])]) (by kernel_rfl) (Nat.zero_le _) (fun I hI => ?_) (E.bl ?_)
 ·cbv
  repeat' (first
   | (refine E.c (SCalls.of_le (kl) ?_ ?_); (· (cbv; (try simp only [nc] at *); first | done | (simp; done) | (simp (disch := (first | omega | (simp only [lnS, zA, zM, zG, zP]; omega))) only [nc, nct, w64_of, zT, zZ, zM, rdS, at_agg, bofZ, bof1, bof0, zC, zS, implies_true, and_true, true_and, forall_const]; first | done | omega | (refine ⟨?_, ?_⟩ <;> omega)) | (simp (disch := (first | omega | (simp only [lnS, zA, zM, zG, zP]; omega))) [nc, nct, w64_of, zT, zZ, zM, rdS, at_agg, bofZ, bof1, bof0, zC, zS]; done))); cbv)
   | (refine ⟨fun _ h_s => ?_, fun _ h_s => ?_⟩ <;> (cbv; (try simp only [nc] at *); try simp (disch := (first | omega | (simp only [lnS, zA, zM, zG, zP]; omega))) only [nc, nct, w64_of, zT, zZ, zM, rdS, at_agg, bofZ, bof1, bof0, zC, zS, reduceCtorEq, Bool.not_true, Bool.not_false, zD, zE, zB, zF, zN, zO, ne_eq, zQ, zL, zR, beq_iff_eq] at h_s))
   | (refine hF ?_; intro _; clear hF)
   | (refine hF ?_; cbv; clear hF)
   | (refine ⟨fun _ => ?_, ?_⟩; (· ((try simp only [nc] at *); first | done | omega | exact ⟨by omega, rfl⟩ | (simp (disch := (first | omega | (simp only [lnS, zA, zM, zG, zP]; omega))) only [nc, nct, w64_of, zT, zZ, zM, rdS, at_agg, bofZ, bof1, bof0, zC, zS]; first | done | omega | rfl | exact ⟨by omega, rfl⟩ | (simp; done) | (simp; omega)) | (intros; trivial))); (try (simp only [nc] at *)); (try simp (disch := (first | omega | (simp only [lnS, zA, zM, zG, zP]; omega))) only [nc, nct, w64_of, zT, zZ, zM, rdS, at_agg, bofZ, bof1, bof0, zC, zS]); (try cbv))
   | fail
  )
  refine E.w (AWP.ghostSlot 6 2 rfl (by omega) (E.loopSA (ι := Nat) (fun a => a ≤ (nG g)) (fun a => (nG g) - a) (fun a => [(7, .i fun _ => ((a : Nat) : Int)), (6, .sl 2 (G (L a 0)) 2 (fun _ => 0) fun _ => (L a 0).length)]) (fun a h => h.set 2 (.run (G (L a 0)) 2 fun _ => ps (L a 0))) 0 (fun _ => by first | rfl | simp) (Nat.zero_le _) ?_ fun a ha I1 hJ => ?_))
  ·cbv; simp [l0, hG0, ps, LV.of]
  cbv
  repeat' (first
   | (refine ⟨fun _ h_s => ?_, fun _ h_s => ?_⟩ <;> (cbv; (try simp only [nc] at *); try simp (disch := (first | omega | (simp only [lnS, zA, zM, zG, zP]; omega))) only [nc, nct, w64_of, zT, zZ, zM, rdS, at_agg, bofZ, bof1, bof0, zC, zS, reduceCtorEq, Bool.not_true, Bool.not_false, zD, zE, zB, zF, zN, zO, ne_eq, zQ, zL, zR, beq_iff_eq] at h_s))
   | (refine hF ?_; intro _; clear hF)
   | (refine hF ?_; cbv; clear hF)
   | (refine ⟨fun _ => ?_, ?_⟩; (· ((try simp only [nc] at *); first | done | omega | exact ⟨by omega, rfl⟩ | (simp (disch := (first | omega | (simp only [lnS, zA, zM, zG, zP]; omega))) only [nc, nct, w64_of, zT, zZ, zM, rdS, at_agg, bofZ, bof1, bof0, zC, zS]; first | done | omega | rfl | exact ⟨by omega, rfl⟩ | (simp; done) | (simp; omega)) | (intros; trivial))); (try (simp only [nc] at *)); (try simp (disch := (first | omega | (simp only [lnS, zA, zM, zG, zP]; omega))) only [nc, nct, w64_of, zT, zZ, zM, rdS, at_agg, bofZ, bof1, bof0, zC, zS]); (try cbv))
   | fail
  )
  ·refine E.loopS (ι := Nat) (fun b => b ≤ (nG g)) (fun b => (nG g) - b) (fun b => [(8, .i fun _ => ((b : Nat) : Int)), (6, .sl 2 (G (L a b)) 2 (fun _ => 0) fun _ => (L a b).length)]) (fun b h => h.set 2 (.run (G (L a b)) 2 fun _ => ps (L a b))) 0 (fun _ => by first | rfl | simp) (Nat.zero_le _) ?_ fun b hb I2 hI2 => ?_
   ·cbv; simp
   cbv
   have c2 := c1 a b
   have d1 := lL a b ha hb
   have hsb := lS a b
   have hle := lE a
   skip
   repeat' (first
    | (refine hJ (a + 1) ?_ ?_ ?_; rotate_left 1; (· ((try simp only [nc] at *); omega)); (cbv; clear hJ; (try clear hF); (try simp only [nc] at *); (try simp (disch := (first | omega | (simp only [lnS, zA, zM, zG, zP]; omega))) only [nc, nct, w64_of, zT, zZ, zM, rdS, at_agg, bofZ, bof1, bof0, zC, zS, implies_true, and_true, true_and, forall_const])); rotate_left 1; (try ((try simp only [nc] at *); omega)))
    | (refine hI2 (b + 1) ?_ ?_ ?_; rotate_left 1; (· ((try simp only [nc] at *); omega)); (cbv; clear hI2; (try clear hF); (try simp only [nc] at *); (try simp (disch := (first | omega | (simp only [lnS, zA, zM, zG, zP]; omega))) only [nc, nct, w64_of, zT, zZ, zM, rdS, at_agg, bofZ, bof1, bof0, zC, zS, implies_true, and_true, true_and, forall_const])); rotate_left 1; (try ((try simp only [nc] at *); omega)))
    | (refine E.c (SCalls.of_le (c2 (by ((try simp only [nc] at *); omega)) (by ((try simp only [nc] at *); omega))) ?_ ?_); (· (cbv; (try simp only [nc] at *); first | done | (simp; done) | (simp (disch := (first | omega | (simp only [lnS, zA, zM, zG, zP]; omega))) only [nc, nct, w64_of, zT, zZ, zM, rdS, at_agg, bofZ, bof1, bof0, zC, zS, implies_true, and_true, true_and, forall_const]; first | done | omega | (refine ⟨?_, ?_⟩ <;> omega)) | (simp (disch := (first | omega | (simp only [lnS, zA, zM, zG, zP]; omega))) [nc, nct, w64_of, zT, zZ, zM, rdS, at_agg, bofZ, bof1, bof0, zC, zS]; done))); cbv)
    | (refine ⟨fun _ h_s => ?_, fun _ h_s => ?_⟩ <;> (cbv; (try simp only [nc] at *); try simp (disch := (first | omega | (simp only [lnS, zA, zM, zG, zP]; omega))) only [nc, nct, w64_of, zT, zZ, zM, rdS, at_agg, bofZ, bof1, bof0, zC, zS, reduceCtorEq, Bool.not_true, Bool.not_false, zD, zE, zB, zF, zN, zO, ne_eq, zQ, zL, zR, beq_iff_eq] at h_s))
    | (refine hF ?_; intro _; clear hF)
    | (refine hF ?_; cbv; clear hF)
    | (refine ⟨fun _ => ?_, ?_⟩; (· ((try simp only [nc] at *); first | done | omega | exact ⟨by omega, rfl⟩ | (simp (disch := (first | omega | (simp only [lnS, zA, zM, zG, zP]; omega))) only [nc, nct, w64_of, zT, zZ, zM, rdS, at_agg, bofZ, bof1, bof0, zC, zS]; first | done | omega | rfl | exact ⟨by omega, rfl⟩ | (simp; done) | (simp; omega)) | (intros; trivial) | exact ⟨by first | trivial | rfl, by first | trivial | rfl | simp, by first | trivial | simp, by simp; omega, by simp; omega, by simp [AV.flat, AV.cells, AV.one]⟩)); (try (simp only [nc] at *)); (try simp (disch := (first | omega | (simp only [lnS, zA, zM, zG, zP]; omega))) only [nc, nct, w64_of, zT, zZ, zM, rdS, at_agg, bofZ, bof1, bof0, zC, zS]); (try cbv))
    | fail
   )
   all_goals clear c1 c2 kl kg ks o1 o2 o3 p1 p2 p3 kO
   ·rw [if_pos (by assumption)] at hsb
    simp [hG, hsb, ps, setAll]
   ·rw [if_neg (by simp_all)] at hsb
    simp [hG, hsb]
   ·have e : b = nG g := by omega
    subst e
    rw [hle]
    exact ⟨⟨by push_cast; rfl, rfl, rfl⟩, rfl, rfl⟩
  ·have ea : a = nG g := by ((try simp only [nc] at *); omega)
   subst ea
   refine hI ?_
   cbv
   clear hI hJ
   simp only [List.drop_zero, nc]
   simp
   exact List.take_of_length_le (by simp)
 ·cbv
  repeat' (first
   | (refine E.c (SCalls.of_le (p3) ?_ ?_); (· (cbv; (try simp only [nc] at *); first | done | (simp; done) | (simp (disch := (first | omega | (simp only [lnS, zA, zM, zG, zP]; omega))) only [nc, nct, w64_of, zT, zZ, zM, rdS, at_agg, bofZ, bof1, bof0, zC, zS, implies_true, and_true, true_and, forall_const]; first | done | omega | (refine ⟨?_, ?_⟩ <;> omega)) | (simp (disch := (first | omega | (simp only [lnS, zA, zM, zG, zP]; omega))) [nc, nct, w64_of, zT, zZ, zM, rdS, at_agg, bofZ, bof1, bof0, zC, zS]; done))); cbv)
   | (refine E.c (SCalls.of_le (p2) ?_ ?_); (· (cbv; (try simp only [nc] at *); first | done | (simp; done) | (simp (disch := (first | omega | (simp only [lnS, zA, zM, zG, zP]; omega))) only [nc, nct, w64_of, zT, zZ, zM, rdS, at_agg, bofZ, bof1, bof0, zC, zS, implies_true, and_true, true_and, forall_const]; first | done | omega | (refine ⟨?_, ?_⟩ <;> omega)) | (simp (disch := (first | omega | (simp only [lnS, zA, zM, zG, zP]; omega))) [nc, nct, w64_of, zT, zZ, zM, rdS, at_agg, bofZ, bof1, bof0, zC, zS]; done))); cbv)
   | (refine E.c (SCalls.of_le (p1) ?_ ?_); (· (cbv; (try simp only [nc] at *); first | done | (simp; done) | (simp (disch := (first | omega | (simp only [lnS, zA, zM, zG, zP]; omega))) only [nc, nct, w64_of, zT, zZ, zM, rdS, at_agg, bofZ, bof1, bof0, zC, zS, implies_true, and_true, true_and, forall_const]; first | done | omega | (refine ⟨?_, ?_⟩ <;> omega)) | (simp (disch := (first | omega | (simp only [lnS, zA, zM, zG, zP]; omega))) [nc, nct, w64_of, zT, zZ, zM, rdS, at_agg, bofZ, bof1, bof0, zC, zS]; done))); cbv)
   | (refine E.c (SCalls.of_bare (o3) rfl ?_ ?_); (· (cbv; simp [rls, ps, us, is, LV.of]; done)); cbv)
   | (refine E.c (SCalls.of_le (o3) ?_ ?_); (· (cbv; simp [rls, ps, us, is, LV.of]; done)); cbv)
   | (refine E.q (QCalls.of_le (o3) ?_ ?_); (· (cbv; simp [rls, ps, us, is, LV.of]; done)); cbv)
   | (refine E.c (SCalls.of_bare (o2) rfl ?_ ?_); (· (cbv; simp [rls, ps, us, is, LV.of]; done)); cbv)
   | (refine E.c (SCalls.of_le (o2) ?_ ?_); (· (cbv; simp [rls, ps, us, is, LV.of]; done)); cbv)
   | (refine E.q (QCalls.of_le (o2) ?_ ?_); (· (cbv; simp [rls, ps, us, is, LV.of]; done)); cbv)
   | (refine E.c (SCalls.of_bare (o1) rfl ?_ ?_); (· (cbv; simp [rls, ps, us, is, LV.of]; done)); cbv)
   | (refine E.c (SCalls.of_le (o1) ?_ ?_); (· (cbv; simp [rls, ps, us, is, LV.of]; done)); cbv)
   | (refine E.q (QCalls.of_le (o1) ?_ ?_); (· (cbv; simp [rls, ps, us, is, LV.of]; done)); cbv)
   | (refine E.c (SCalls.of_le (kO) ?_ ?_); (· (cbv; (try simp only [nc] at *); first | done | (simp; done) | (simp (disch := (first | omega | (simp only [lnS, zA, zM, zG, zP]; omega))) only [nc, nct, w64_of, zT, zZ, zM, rdS, at_agg, bofZ, bof1, bof0, zC, zS, implies_true, and_true, true_and, forall_const]; first | done | omega | (refine ⟨?_, ?_⟩ <;> omega)) | (simp (disch := (first | omega | (simp only [lnS, zA, zM, zG, zP]; omega))) [nc, nct, w64_of, zT, zZ, zM, rdS, at_agg, bofZ, bof1, bof0, zC, zS]; done))); cbv)
   | (refine E.c (SCalls.of_le (ks) ?_ ?_); (· (cbv; (try simp only [nc] at *); first | done | (simp; done) | (simp (disch := (first | omega | (simp only [lnS, zA, zM, zG, zP]; omega))) only [nc, nct, w64_of, zT, zZ, zM, rdS, at_agg, bofZ, bof1, bof0, zC, zS, implies_true, and_true, true_and, forall_const]; first | done | omega | (refine ⟨?_, ?_⟩ <;> omega)) | (simp (disch := (first | omega | (simp only [lnS, zA, zM, zG, zP]; omega))) [nc, nct, w64_of, zT, zZ, zM, rdS, at_agg, bofZ, bof1, bof0, zC, zS]; done))); cbv)
   | (refine E.c (SCalls.of_le (kg) ?_ ?_); (· (cbv; (try simp only [nc] at *); first | done | (simp; done) | (simp (disch := (first | omega | (simp only [lnS, zA, zM, zG, zP]; omega))) only [nc, nct, w64_of, zT, zZ, zM, rdS, at_agg, bofZ, bof1, bof0, zC, zS, implies_true, and_true, true_and, forall_const]; first | done | omega | (refine ⟨?_, ?_⟩ <;> omega)) | (simp (disch := (first | omega | (simp only [lnS, zA, zM, zG, zP]; omega))) [nc, nct, w64_of, zT, zZ, zM, rdS, at_agg, bofZ, bof1, bof0, zC, zS]; done))); cbv)
   | (refine ⟨fun _ h_s => ?_, fun _ h_s => ?_⟩ <;> (cbv; (try simp only [nc] at *); try simp (disch := (first | omega | (simp only [lnS, zA, zM, zG, zP]; omega))) only [nc, nct, w64_of, zT, zZ, zM, rdS, at_agg, bofZ, bof1, bof0, zC, zS, reduceCtorEq, Bool.not_true, Bool.not_false, zD, zE, zB, zF, zN, zO, ne_eq, zQ, zL, zR, beq_iff_eq] at h_s))
   | (refine hF ?_; intro _; clear hF)
   | (refine hF ?_; cbv; clear hF)
   | (refine ⟨fun _ => ?_, ?_⟩; (· ((try simp only [nc] at *); first | done | omega | exact ⟨by omega, rfl⟩ | (simp (disch := (first | omega | (simp only [lnS, zA, zM, zG, zP]; omega))) only [nc, nct, w64_of, zT, zZ, zM, rdS, at_agg, bofZ, bof1, bof0, zC, zS]; first | done | omega | rfl | exact ⟨by omega, rfl⟩ | (simp; done) | (simp; omega)) | (intros; trivial) | exact ⟨by first | trivial | rfl, by first | trivial | rfl | simp, by first | trivial | simp, by simp; omega, by simp; omega, by simp [AV.flat, AV.cells, AV.one]⟩)); (try (simp only [nc] at *)); (try simp (disch := (first | omega | (simp only [lnS, zA, zM, zG, zP]; omega))) only [nc, nct, w64_of, zT, zZ, zM, rdS, at_agg, bofZ, bof1, bof0, zC, zS]); (try cbv))
   | fail
  )
  simp
end Go.AL.Rl

namespace Go.AL.Rl
open Go Go.AL Go.Proofs
set_option maxRecDepth 100000
set_option maxHeartbeats 3200000
variable {γ : Nat → Option AV}

noncomputable def pairC (g : Gr) : List (Int × Int) := pairsM (andM (nG g) (hbF (viewG g) (nG g)) (turnM (ecoF (viewG g) (nG g))))
noncomputable def brkP (g : Gr) (k : Int) : Int × Int :=
 if k = 2 then (fstI (leadM (updB (viewG g)) (nG g)), -1)
 else if k = 3 then (fstI (leadM (fun i => bit (plusM (nG g) (porfF (viewG g) (nG g))) i i) (nG g)), -1)
 else if k = 4 then (fstI (leadM (fun i => bit (plusM (nG g) (hbF (viewG g) (nG g))) i i) (nG g)), -1)
 else if k = 6 then (fstI (leadM (fun i => bit (plusM (nG g) (togF (viewG g) (nG g))) i i) (nG g)), -1)
 else if k = 5 then ((pairC g).find? fun p => decide (p.1 ≠ p.2)).getD (-1, -1)
 else (-1, -1)
noncomputable abbrev aDg (g : Gr) : AV := aDer (nG g : Nat) (poF (viewG g) (nG g)) (rfF (viewG g) (nG g)) (coF (viewG g) (nG g)) (frF (viewG g) (nG g)) (ecoF (viewG g) (nG g)) (porfF (viewG g) (nG g)) (locF (viewG g) (nG g)) (swF (viewG g) (nG g)) (hbF (viewG g) (nG g))
theorem alike4E (n : Int) (a b c d : List (BitVec 64)) (ha : Fits n a) (hb : Fits n b) (hc : Fits n c) (hd : Fits n d) : Alike [(n, a), (n, b), (n, c), (n, d)] := by
 refine ⟨by simp, fun i hi => ?_⟩
 have : i = 0 ∨ i = 1 ∨ i = 2 ∨ i = 3 := by simp at hi; omega
 rcases this with rfl | rfl | rfl | rfl
 ·simp [ha]
 ·simp [hb]
 ·simp [hc]
 ·simp [hd]
theorem find_at {α : Type} {L : List α} {p : α → Bool} {d : α} {i : Nat} (hi : i < L.length) (h : p (L.getD i d) = true) (hb : ∀ j < i, p (L.getD j d) = false) : L.find? p = some (L.getD i d) := by
 rw [List.find?_eq_some_iff_getElem]
 refine ⟨h, i, hi, by simp [hi], fun j hj => ?_⟩
 have := hb j hj
 rw [show L.getD j d = L[j] by simp [show j < L.length by omega]] at this
 rw [this]; rfl
theorem rbroken_ok (g : Gr) (hg : Rd g) (h : GOk g) (k : Int) : Pure Tryz.prog γ false 38 [.i fun _ => k, aGr g, aDg g] (.tup [.agg [.i fun _ => k, .i fun _ => (brkP g k).1, .i fun _ => (brkP g k).2], .b fun _ => decide (0 ≤ (brkP g k).1)]) := by
 unfold aDg
 have hn := (viewG_wf h).small
 have f1 := fits_poF (viewG g) hn
 have f2 := fits_rfF (viewG g) hn
 have f3 := fits_coF (viewG g) hn
 have f4 := fits_frF (viewG g) hn
 have f5 := eco_fits (viewG g) hn
 have f6 : Fits (nG g : Nat) (porfF (viewG g) (nG g)) := fits_plus (fits_or2 f1 f2)
 have f7 := hb_fits (viewG g) hn
 have kU := rupdate_ok (γ := γ) g hg h
 have kp := rround_ok (γ := γ) (nG g) (porfF (viewG g) (nG g)) f6
 have kh := rround_ok (γ := γ) (nG g) (hbF (viewG g) (nG g)) f7
 have ko := ror_yes (γ := γ) [((nG g : Int), poF (viewG g) (nG g)), ((nG g : Int), rfF (viewG g) (nG g)), ((nG g : Int), coF (viewG g) (nG g)), ((nG g : Int), frF (viewG g) (nG g))] (by simp) (alike4E _ _ _ _ _ f1 f2 f3 f4) (nG g) rfl
 have kg := rround_ok (γ := γ) (nG g) (togF (viewG g) (nG g)) (fits_tog (viewG_wf h))
 have kt := rturn_yes (γ := γ) (nG g) (ecoF (viewG g) (nG g)) f5
 have ka := rand_yes (γ := γ) (nG g) (hbF (viewG g) (nG g)) (turnM (ecoF (viewG g) (nG g))) f7 (fits_turn f5)
 have kq := rpairs_yes (γ := γ) (nG g) (andM (nG g) (hbF (viewG g) (nG g)) (turnM (ecoF (viewG g) (nG g)))) (fits_and f7)
 have hq : pairsM (andM (nG g) (hbF (viewG g) (nG g)) (turnM (ecoF (viewG g) (nG g)))) = pairC g := rfl
 have ht : togF (viewG g) (nG g) = orM (nG g) [((nG g : Int), poF (viewG g) (nG g)), ((nG g : Int), rfF (viewG g) (nG g)), ((nG g : Int), coF (viewG g) (nG g)), ((nG g : Int), frF (viewG g) (nG g))] := rfl
 rw [← ht] at ko
 rw [hq] at kq
 have b2 : brkP g 2 = (fstI (leadM (updB (viewG g)) (nG g)), -1) := rfl
 have b3 : brkP g 3 = (fstI (leadM (fun i => bit (plusM (nG g) (porfF (viewG g) (nG g))) i i) (nG g)), -1) := rfl
 have b4 : brkP g 4 = (fstI (leadM (fun i => bit (plusM (nG g) (hbF (viewG g) (nG g))) i i) (nG g)), -1) := rfl
 have b6 : brkP g 6 = (fstI (leadM (fun i => bit (plusM (nG g) (togF (viewG g) (nG g))) i i) (nG g)), -1) := rfl
 have b5 : brkP g 5 = ((pairC g).find? fun p => decide (p.1 ≠ p.2)).getD (-1, -1) := rfl
 have b0 : ¬ k = 2 → ¬ k = 3 → ¬ k = 4 → ¬ k = 6 → ¬ k = 5 → brkP g k = (-1, -1) := fun h2 h3 h4 h6 h5 => by
  unfold brkP; rw [if_neg h2, if_neg h3, if_neg h4, if_neg h6, if_neg h5]
 have hLl : (pairC g).length ≤ 100000 := by
  have f8 := fits_and (b := turnM (ecoF (viewG g) (nG g))) f7
  have e8 : ((andM (nG g) (hbF (viewG g) (nG g)) (turnM (ecoF (viewG g) (nG g)))).length : Int) = nG g := f8.2.2.1
  have := prows_len (andM (nG g) (hbF (viewG g) (nG g)) (turnM (ecoF (viewG g) (nG g)))) (andM (nG g) (hbF (viewG g) (nG g)) (turnM (ecoF (viewG g) (nG g)))).length
  unfold pairC pairsM
  omega
 generalize brkP g = B at *
 generalize fstI (leadM (updB (viewG g)) (nG g)) = v2 at *
 generalize fstI (leadM (fun i => bit (plusM (nG g) (porfF (viewG g) (nG g))) i i) (nG g)) = v3 at *
 generalize fstI (leadM (fun i => bit (plusM (nG g) (hbF (viewG g) (nG g))) i i) (nG g)) = v4 at *
 generalize fstI (leadM (fun i => bit (plusM (nG g) (togF (viewG g) (nG g))) i i) (nG g)) = v6 at *
 generalize pairC g = L at *
 clear f1 f2 f3 f4 f5 f6 f7 hq ht
 generalize andM (nG g) (hbF (viewG g) (nG g)) (turnM (ecoF (viewG g) (nG g))) = r1 at *
 generalize turnM (ecoF (viewG g) (nG g)) = r2 at *
 generalize togF (viewG g) (nG g) = r3 at *
 generalize poF (viewG g) (nG g) = q1 at *
 generalize rfF (viewG g) (nG g) = q2 at *
 generalize coF (viewG g) (nG g) = q3 at *
 generalize frF (viewG g) (nG g) = q4 at *
 generalize swF (viewG g) (nG g) = q5 at *
 generalize ecoF (viewG g) (nG g) = q6 at *
 generalize porfF (viewG g) (nG g) = q7 at *
 generalize hbF (viewG g) (nG g) = q8 at *
 generalize locF (viewG g) (nG g) = q9 at *
 generalize nG g = n at *
 refine Pure.go (ty := ty) ty_eq mo Tryz.func38 rfl Tryz.ntmps38 Tryz.results38 Tryz.call38 (by simp) fun P C CQ D W F E hF => ?_
 cbv
 repeat' (first
  | (refine E.de 12 [3] [] (by decide +kernel) ?_; cbv; (fail_if_success guard_target =~ False))
  | (refine E.de 5 [2] [] (by decide +kernel) ?_; cbv; (fail_if_success guard_target =~ False))
  | (refine E.c (SCalls.of_le (kq) ?_ ?_); (· (cbv; (try simp only [nc] at *); first | done | (simp; done) | (simp (disch := (first | omega | (simp only [lnS, zA, zM, zG, zP]; omega))) only [nc, nct, w64_of, zT, zZ, zM, rdS, at_agg, bofZ, bof1, bof0, zC, zS, implies_true, and_true, true_and, forall_const]; first | done | omega | (refine ⟨?_, ?_⟩ <;> omega)) | (simp (disch := (first | omega | (simp only [lnS, zA, zM, zG, zP]; omega))) [nc, nct, w64_of, zT, zZ, zM, rdS, at_agg, bofZ, bof1, bof0, zC, zS]; done))); cbv)
  | (refine E.q (QCalls.of_le (kq) ?_ ?_); (· (cbv; (try simp only [nc] at *); first | done | (simp; done) | (simp (disch := (first | omega | (simp only [lnS, zA, zM, zG, zP]; omega))) only [nc, nct, w64_of, zT, zZ, zM, rdS, at_agg, bofZ, bof1, bof0, zC, zS, implies_true, and_true, true_and, forall_const]; first | done | omega | (refine ⟨?_, ?_⟩ <;> omega)) | (simp (disch := (first | omega | (simp only [lnS, zA, zM, zG, zP]; omega))) [nc, nct, w64_of, zT, zZ, zM, rdS, at_agg, bofZ, bof1, bof0, zC, zS]; done))); cbv)
  | (refine E.c (SCalls.of_le (ka) ?_ ?_); (· (cbv; (try simp only [nc] at *); first | done | (simp; done) | (simp (disch := (first | omega | (simp only [lnS, zA, zM, zG, zP]; omega))) only [nc, nct, w64_of, zT, zZ, zM, rdS, at_agg, bofZ, bof1, bof0, zC, zS, implies_true, and_true, true_and, forall_const]; first | done | omega | (refine ⟨?_, ?_⟩ <;> omega)) | (simp (disch := (first | omega | (simp only [lnS, zA, zM, zG, zP]; omega))) [nc, nct, w64_of, zT, zZ, zM, rdS, at_agg, bofZ, bof1, bof0, zC, zS]; done))); cbv)
  | (refine E.q (QCalls.of_le (ka) ?_ ?_); (· (cbv; (try simp only [nc] at *); first | done | (simp; done) | (simp (disch := (first | omega | (simp only [lnS, zA, zM, zG, zP]; omega))) only [nc, nct, w64_of, zT, zZ, zM, rdS, at_agg, bofZ, bof1, bof0, zC, zS, implies_true, and_true, true_and, forall_const]; first | done | omega | (refine ⟨?_, ?_⟩ <;> omega)) | (simp (disch := (first | omega | (simp only [lnS, zA, zM, zG, zP]; omega))) [nc, nct, w64_of, zT, zZ, zM, rdS, at_agg, bofZ, bof1, bof0, zC, zS]; done))); cbv)
  | (refine E.c (SCalls.of_le (kt) ?_ ?_); (· (cbv; (try simp only [nc] at *); first | done | (simp; done) | (simp (disch := (first | omega | (simp only [lnS, zA, zM, zG, zP]; omega))) only [nc, nct, w64_of, zT, zZ, zM, rdS, at_agg, bofZ, bof1, bof0, zC, zS, implies_true, and_true, true_and, forall_const]; first | done | omega | (refine ⟨?_, ?_⟩ <;> omega)) | (simp (disch := (first | omega | (simp only [lnS, zA, zM, zG, zP]; omega))) [nc, nct, w64_of, zT, zZ, zM, rdS, at_agg, bofZ, bof1, bof0, zC, zS]; done))); cbv)
  | (refine E.q (QCalls.of_le (kt) ?_ ?_); (· (cbv; (try simp only [nc] at *); first | done | (simp; done) | (simp (disch := (first | omega | (simp only [lnS, zA, zM, zG, zP]; omega))) only [nc, nct, w64_of, zT, zZ, zM, rdS, at_agg, bofZ, bof1, bof0, zC, zS, implies_true, and_true, true_and, forall_const]; first | done | omega | (refine ⟨?_, ?_⟩ <;> omega)) | (simp (disch := (first | omega | (simp only [lnS, zA, zM, zG, zP]; omega))) [nc, nct, w64_of, zT, zZ, zM, rdS, at_agg, bofZ, bof1, bof0, zC, zS]; done))); cbv)
  | (refine E.c (SCalls.of_le (kg) ?_ ?_); (· (cbv; (try simp only [nc] at *); first | done | (simp; done) | (simp (disch := (first | omega | (simp only [lnS, zA, zM, zG, zP]; omega))) only [nc, nct, w64_of, zT, zZ, zM, rdS, at_agg, bofZ, bof1, bof0, zC, zS, implies_true, and_true, true_and, forall_const]; first | done | omega | (refine ⟨?_, ?_⟩ <;> omega)) | (simp (disch := (first | omega | (simp only [lnS, zA, zM, zG, zP]; omega))) [nc, nct, w64_of, zT, zZ, zM, rdS, at_agg, bofZ, bof1, bof0, zC, zS]; done))); cbv)
  | (refine E.c (SCalls.of_bare (ko) rfl ?_ ?_); (· (cbv; simp [rls, ps, us, is, LV.of]; done)); cbv)
  | (refine E.c (SCalls.of_le (ko) ?_ ?_); (· (cbv; simp [rls, ps, us, is, LV.of]; done)); cbv)
  | (refine E.q (QCalls.of_le (ko) ?_ ?_); (· (cbv; simp [rls, ps, us, is, LV.of]; done)); cbv)
  | (refine E.c (SCalls.of_le (kh) ?_ ?_); (· (cbv; (try simp only [nc] at *); first | done | (simp; done) | (simp (disch := (first | omega | (simp only [lnS, zA, zM, zG, zP]; omega))) only [nc, nct, w64_of, zT, zZ, zM, rdS, at_agg, bofZ, bof1, bof0, zC, zS, implies_true, and_true, true_and, forall_const]; first | done | omega | (refine ⟨?_, ?_⟩ <;> omega)) | (simp (disch := (first | omega | (simp only [lnS, zA, zM, zG, zP]; omega))) [nc, nct, w64_of, zT, zZ, zM, rdS, at_agg, bofZ, bof1, bof0, zC, zS]; done))); cbv)
  | (refine E.c (SCalls.of_le (kp) ?_ ?_); (· (cbv; (try simp only [nc] at *); first | done | (simp; done) | (simp (disch := (first | omega | (simp only [lnS, zA, zM, zG, zP]; omega))) only [nc, nct, w64_of, zT, zZ, zM, rdS, at_agg, bofZ, bof1, bof0, zC, zS, implies_true, and_true, true_and, forall_const]; first | done | omega | (refine ⟨?_, ?_⟩ <;> omega)) | (simp (disch := (first | omega | (simp only [lnS, zA, zM, zG, zP]; omega))) [nc, nct, w64_of, zT, zZ, zM, rdS, at_agg, bofZ, bof1, bof0, zC, zS]; done))); cbv)
  | (refine E.c (SCalls.of_le (kU) ?_ ?_); (· (cbv; (try simp only [nc] at *); first | done | (simp; done) | (simp (disch := (first | omega | (simp only [lnS, zA, zM, zG, zP]; omega))) only [nc, nct, w64_of, zT, zZ, zM, rdS, at_agg, bofZ, bof1, bof0, zC, zS, implies_true, and_true, true_and, forall_const]; first | done | omega | (refine ⟨?_, ?_⟩ <;> omega)) | (simp (disch := (first | omega | (simp only [lnS, zA, zM, zG, zP]; omega))) [nc, nct, w64_of, zT, zZ, zM, rdS, at_agg, bofZ, bof1, bof0, zC, zS]; done))); cbv)
  | (refine ⟨fun _ h_s => ?_, fun _ h_s => ?_⟩ <;> (cbv; (try simp only [nc] at *); try simp (disch := (first | omega | (simp only [lnS, zA, zM, zG, zP]; omega))) only [nc, nct, w64_of, zT, zZ, zM, rdS, at_agg, bofZ, bof1, bof0, zC, zS, reduceCtorEq, Bool.not_true, Bool.not_false, zD, zE, zB, zF, zN, zO, ne_eq, zQ, zL, zR, beq_iff_eq] at h_s))
  | (refine hF ?_; intro _; clear hF)
  | (refine hF ?_; cbv; clear hF)
  | (refine ⟨fun _ => ?_, ?_⟩; (· ((try simp only [nc] at *); first | done | omega | exact ⟨by omega, rfl⟩ | (simp (disch := (first | omega | (simp only [lnS, zA, zM, zG, zP]; omega))) only [nc, nct, w64_of, zT, zZ, zM, rdS, at_agg, bofZ, bof1, bof0, zC, zS]; first | done | omega | rfl | exact ⟨by omega, rfl⟩ | (simp; done) | (simp; omega)) | (intros; trivial))); (try (simp only [nc] at *)); (try simp (disch := (first | omega | (simp only [lnS, zA, zM, zG, zP]; omega))) only [nc, nct, w64_of, zT, zZ, zM, rdS, at_agg, bofZ, bof1, bof0, zC, zS]); (try cbv))
  | (refine E.d 7 (by decide +kernel) ?_; cbv; (fail_if_success guard_target =~ False))
  | (refine E.d 10 (by decide +kernel) ?_; cbv; (fail_if_success guard_target =~ False))
  | fail
 )
 ·rw [show k = 2 by assumption, b2]; simp
 ·rw [show k = 3 by assumption, b3]; simp
 ·rw [show k = 4 by assumption, b4]; simp
 ·rw [show k = 6 by assumption, b6]; simp
 ·have b5k : B k = (L.find? fun p => decide (p.1 ≠ p.2)).getD (-1, -1) := by rw [show k = 5 by assumption]; exact b5
  clear kU kp kh ko kg kt ka kq b0 b2 b3 b4 b6 b5
  refine E.loopS (ι := Nat) (fun i => i ≤ L.length ∧ (∀ j < i, (L.getD j (0, 0)).1 = (L.getD j (0, 0)).2)) (fun i => L.length - i) (fun i => [(10, .i fun _ => ((i : Nat) : Int))]) (fun i h => h) 0 (fun _ => by first | rfl | simp) ⟨Nat.zero_le _, ?_⟩ ?_ fun i hi I hI => ?_
  ·intro j hj; omega
  ·cbv; simp
  cbv
  obtain ⟨hi, hp⟩ := hi
  repeat' (first
   | (refine hI (i + 1) ?_ ?_ ?_; rotate_left 1; (· ((try simp only [nc] at *); omega)); (cbv; clear hI; (try clear hF); (try simp only [nc] at *); (try simp (disch := (first | omega | (simp only [lnS, zA, zM, zG, zP]; omega))) only [nc, nct, w64_of, zT, zZ, zM, rdS, at_agg, bofZ, bof1, bof0, zC, zS, implies_true, and_true, true_and, forall_const])); rotate_left 1; (try ((try simp only [nc] at *); omega)))
   | (refine E.de 5 [2] [] (by decide +kernel) ?_; cbv; (fail_if_success guard_target =~ False))
   | (refine E.de 12 [3] [] (by decide +kernel) ?_; cbv; (fail_if_success guard_target =~ False))
   | (refine ⟨fun _ h_s => ?_, fun _ h_s => ?_⟩ <;> (cbv; (try simp only [nc] at *); try simp (disch := (first | omega | (simp only [lnS, zA, zM, zG, zP]; omega))) only [nc, nct, w64_of, zT, zZ, zM, rdS, at_agg, bofZ, bof1, bof0, zC, zS, reduceCtorEq, Bool.not_true, Bool.not_false, zD, zE, zB, zF, zN, zO, ne_eq, zQ, zL, zR, beq_iff_eq] at h_s))
   | (refine hF ?_; intro _; clear hF)
   | (refine hF ?_; cbv; clear hF)
   | (refine ⟨fun _ => ?_, ?_⟩; (· ((try simp only [nc] at *); first | done | omega | exact ⟨by omega, rfl⟩ | (simp (disch := (first | omega | (simp only [lnS, zA, zM, zG, zP]; omega))) only [nc, nct, w64_of, zT, zZ, zM, rdS, at_agg, bofZ, bof1, bof0, zC, zS]; first | done | omega | rfl | exact ⟨by omega, rfl⟩ | (simp; done) | (simp; omega)) | (intros; trivial))); (try (simp only [nc] at *)); (try simp (disch := (first | omega | (simp only [lnS, zA, zM, zG, zP]; omega))) only [nc, nct, w64_of, zT, zZ, zM, rdS, at_agg, bofZ, bof1, bof0, zC, zS]); (try cbv))
   | (refine E.d 7 (by decide +kernel) ?_; cbv; (fail_if_success guard_target =~ False))
   | (refine E.d 10 (by decide +kernel) ?_; cbv; (fail_if_success guard_target =~ False))
   | fail
  )
  ·rw [b5k, find_at (L := L) (p := fun p => decide (p.1 ≠ p.2)) (d := (0, 0)) (i := i) (by ((try simp only [nc] at *); omega)) (decide_eq_true h_s) fun j hj => decide_eq_false fun x => x (hp j hj)]
   simp
  ·refine ⟨by ((try simp only [nc] at *); omega), fun j hj => ?_⟩
   rcases Nat.lt_or_ge j i with h1 | h1
   ·exact hp j h1
   ·obtain rfl : j = i := by omega
    exact h_s
  ·push_cast; rfl
  ·have e : i = L.length := by ((try simp only [nc] at *); omega)
   subst e
   have hno : (L.find? fun p => decide (p.1 ≠ p.2)) = none := by
    rw [List.find?_eq_none]
    intro x hx
    obtain ⟨j, hj, e⟩ := List.getElem_of_mem hx
    have := hp j hj
    rw [show L.getD j (0, 0) = x by simp [hj, e]] at this
    simpa using this
   rw [b5k, hno]
   simp
 ·rw [b0 (by assumption) (by assumption) (by assumption) (by assumption) (by assumption)]; simp
theorem rrules_ok (m : Int) : Pure Tryz.prog γ false 25 [.i fun _ => m] (.vs 1 fun _ => is (rulesM m)) := by
 by_cases h1 : m = 1
 ·rw [show rulesM m = [1, 2, 6] by unfold rulesM; rw [if_pos h1]]
  refine Pure.go (ty := ty) ty_eq mo Tryz.func25 rfl Tryz.ntmps25 Tryz.results25 Tryz.call25 (by simp) fun P C CQ D W F E hF => ?_
  cbv
  repeat' (first
   | (refine ⟨fun _ h_s => ?_, fun _ h_s => ?_⟩ <;> (cbv; (try simp only [nc] at *); try simp (disch := (first | omega | (simp only [lnS, zA, zM, zG, zP]; omega))) only [nc, nct, w64_of, zT, zZ, zM, rdS, at_agg, bofZ, bof1, bof0, zC, zS, reduceCtorEq, Bool.not_true, Bool.not_false, zD, zE, zB, zF, zN, zO, ne_eq, zQ, zL, zR, beq_iff_eq] at h_s))
   | (refine hF ?_; intro _; clear hF)
   | (refine hF ?_; cbv; clear hF)
   | (refine ⟨fun _ => ?_, ?_⟩; (· ((try simp only [nc] at *); first | done | omega | exact ⟨by omega, rfl⟩ | (simp (disch := (first | omega | (simp only [lnS, zA, zM, zG, zP]; omega))) only [nc, nct, w64_of, zT, zZ, zM, rdS, at_agg, bofZ, bof1, bof0, zC, zS]; first | done | omega | rfl | exact ⟨by omega, rfl⟩ | (simp; done) | (simp; omega)) | (intros; trivial))); (try (simp only [nc] at *)); (try simp (disch := (first | omega | (simp only [lnS, zA, zM, zG, zP]; omega))) only [nc, nct, w64_of, zT, zZ, zM, rdS, at_agg, bofZ, bof1, bof0, zC, zS]); (try cbv))
   | fail
  )
  all_goals first
   | (exfalso; ((try simp only [nc] at *); omega))
   | (simp [is, LV.of, LV.l, setAll, AV.nrm, nrms, nrm1]; done)
 ·by_cases h2 : m = 2
  ·rw [show rulesM m = [1, 2, 3, 4, 5] by unfold rulesM; rw [if_neg h1, if_pos h2]]
   refine Pure.go (ty := ty) ty_eq mo Tryz.func25 rfl Tryz.ntmps25 Tryz.results25 Tryz.call25 (by simp) fun P C CQ D W F E hF => ?_
   cbv
   repeat' (first
    | (refine ⟨fun _ h_s => ?_, fun _ h_s => ?_⟩ <;> (cbv; (try simp only [nc] at *); try simp (disch := (first | omega | (simp only [lnS, zA, zM, zG, zP]; omega))) only [nc, nct, w64_of, zT, zZ, zM, rdS, at_agg, bofZ, bof1, bof0, zC, zS, reduceCtorEq, Bool.not_true, Bool.not_false, zD, zE, zB, zF, zN, zO, ne_eq, zQ, zL, zR, beq_iff_eq] at h_s))
    | (refine hF ?_; intro _; clear hF)
    | (refine hF ?_; cbv; clear hF)
    | (refine ⟨fun _ => ?_, ?_⟩; (· ((try simp only [nc] at *); first | done | omega | exact ⟨by omega, rfl⟩ | (simp (disch := (first | omega | (simp only [lnS, zA, zM, zG, zP]; omega))) only [nc, nct, w64_of, zT, zZ, zM, rdS, at_agg, bofZ, bof1, bof0, zC, zS]; first | done | omega | rfl | exact ⟨by omega, rfl⟩ | (simp; done) | (simp; omega)) | (intros; trivial))); (try (simp only [nc] at *)); (try simp (disch := (first | omega | (simp only [lnS, zA, zM, zG, zP]; omega))) only [nc, nct, w64_of, zT, zZ, zM, rdS, at_agg, bofZ, bof1, bof0, zC, zS]); (try cbv))
    | fail
   )
   all_goals first
    | (exfalso; ((try simp only [nc] at *); omega))
    | (simp [is, LV.of, LV.l, setAll, AV.nrm, nrms, nrm1]; done)
  ·rw [show rulesM m = [] by unfold rulesM; rw [if_neg h1, if_neg h2]]
   refine Pure.go (ty := ty) ty_eq mo Tryz.func25 rfl Tryz.ntmps25 Tryz.results25 Tryz.call25 (by simp) fun P C CQ D W F E hF => ?_
   cbv
   repeat' (first
    | (refine ⟨fun _ h_s => ?_, fun _ h_s => ?_⟩ <;> (cbv; (try simp only [nc] at *); try simp (disch := (first | omega | (simp only [lnS, zA, zM, zG, zP]; omega))) only [nc, nct, w64_of, zT, zZ, zM, rdS, at_agg, bofZ, bof1, bof0, zC, zS, reduceCtorEq, Bool.not_true, Bool.not_false, zD, zE, zB, zF, zN, zO, ne_eq, zQ, zL, zR, beq_iff_eq] at h_s))
    | (refine hF ?_; intro _; clear hF)
    | (refine hF ?_; cbv; clear hF)
    | (refine ⟨fun _ => ?_, ?_⟩; (· ((try simp only [nc] at *); first | done | omega | exact ⟨by omega, rfl⟩ | (simp (disch := (first | omega | (simp only [lnS, zA, zM, zG, zP]; omega))) only [nc, nct, w64_of, zT, zZ, zM, rdS, at_agg, bofZ, bof1, bof0, zC, zS]; first | done | omega | rfl | exact ⟨by omega, rfl⟩ | (simp; done) | (simp; omega)) | (intros; trivial))); (try (simp only [nc] at *)); (try simp (disch := (first | omega | (simp only [lnS, zA, zM, zG, zP]; omega))) only [nc, nct, w64_of, zT, zZ, zM, rdS, at_agg, bofZ, bof1, bof0, zC, zS]); (try cbv))
    | fail
   )
   all_goals first
    | (exfalso; ((try simp only [nc] at *); omega))
    | (simp [is, LV.of, LV.l]; done)
noncomputable def whyP (g : Gr) (R : List Int) : (Int × Int × Int) × Bool := match R.find? fun k => decide (0 ≤ (brkP g k).1) with
 | some k => ((k, (brkP g k).1, (brkP g k).2), true)
 | none => ((0, 0, 0), false)
theorem rwhy_ok (g : Gr) (hg : Rd g) (h : GOk g) (m : Int) (hm : m = 1 ∨ m = 2) : Pure Tryz.prog γ false 26 [.i fun _ => m, aGr g] (.tup [.agg [.i fun _ => (whyP g (rulesM m)).1.1, .i fun _ => (whyP g (rulesM m)).1.2.1, .i fun _ => (whyP g (rulesM m)).1.2.2], .b fun _ => (whyP g (rulesM m)).2]) := by
 have kr := rrules_ok (γ := γ) m
 have kd := w15All_yes (γ := γ) g hg h
 have kb := fun k => rbroken_ok (γ := γ) g hg h k
 have hl : (rulesM m).length ≤ 5 ∧ (rulesM m).length ≠ 0 := by
  rcases hm with rfl | rfl <;> simp [rulesM]
 unfold aDg at kb
 have wy : ∀ i, i < (rulesM m).length → 0 ≤ (brkP g ((rulesM m).getD i 0)).1 → (∀ j < i, ¬ 0 ≤ (brkP g ((rulesM m).getD j 0)).1) → whyP g (rulesM m) = (((rulesM m).getD i 0, (brkP g ((rulesM m).getD i 0)).1, (brkP g ((rulesM m).getD i 0)).2), true) := fun i hi h1 h2 => by
  unfold whyP
  rw [find_at (L := rulesM m) (p := fun k => decide (0 ≤ (brkP g k).1)) (d := 0) hi (decide_eq_true h1) fun j hj => decide_eq_false (h2 j hj)]
 have wn : (∀ j < (rulesM m).length, ¬ 0 ≤ (brkP g ((rulesM m).getD j 0)).1) → whyP g (rulesM m) = ((0, 0, 0), false) := fun h2 => by
  have hno : ((rulesM m).find? fun k => decide (0 ≤ (brkP g k).1)) = none := by
   rw [List.find?_eq_none]
   intro x hx
   obtain ⟨j, hj, e⟩ := List.getElem_of_mem hx
   have := h2 j hj
   rw [show (rulesM m).getD j 0 = x by simp [hj, e]] at this
   simpa using this
  unfold whyP
  rw [hno]
 generalize whyP g (rulesM m) = Y at *
 generalize rulesM m = R at *
 generalize brkP g = B at *
 generalize poF (viewG g) (nG g) = q1 at *
 generalize rfF (viewG g) (nG g) = q2 at *
 generalize coF (viewG g) (nG g) = q3 at *
 generalize frF (viewG g) (nG g) = q4 at *
 generalize swF (viewG g) (nG g) = q5 at *
 generalize ecoF (viewG g) (nG g) = q6 at *
 generalize porfF (viewG g) (nG g) = q7 at *
 generalize hbF (viewG g) (nG g) = q8 at *
 generalize locF (viewG g) (nG g) = q9 at *
 generalize nG g = n at *
 refine Pure.go (ty := ty) ty_eq mo Tryz.func26 rfl Tryz.ntmps26 Tryz.results26 Tryz.call26 (by simp) fun P C CQ D W F E hF => ?_
 cbv
 repeat' (first
  | (refine E.c (SCalls.of_le (kd) ?_ ?_); (· (cbv; (try simp only [nc] at *); first | done | (simp; done) | (simp (disch := (first | omega | (simp only [lnS, zA, zM, zG, zP]; omega))) only [nc, nct, w64_of, zT, zZ, zM, rdS, at_agg, bofZ, bof1, bof0, zC, zS, implies_true, and_true, true_and, forall_const]; first | done | omega | (refine ⟨?_, ?_⟩ <;> omega)) | (simp (disch := (first | omega | (simp only [lnS, zA, zM, zG, zP]; omega))) [nc, nct, w64_of, zT, zZ, zM, rdS, at_agg, bofZ, bof1, bof0, zC, zS]; done))); cbv)
  | (refine E.c (SCalls.of_le (kr) ?_ ?_); (· (cbv; (try simp only [nc] at *); first | done | (simp; done) | (simp (disch := (first | omega | (simp only [lnS, zA, zM, zG, zP]; omega))) only [nc, nct, w64_of, zT, zZ, zM, rdS, at_agg, bofZ, bof1, bof0, zC, zS, implies_true, and_true, true_and, forall_const]; first | done | omega | (refine ⟨?_, ?_⟩ <;> omega)) | (simp (disch := (first | omega | (simp only [lnS, zA, zM, zG, zP]; omega))) [nc, nct, w64_of, zT, zZ, zM, rdS, at_agg, bofZ, bof1, bof0, zC, zS]; done))); cbv)
  | (refine ⟨fun _ h_s => ?_, fun _ h_s => ?_⟩ <;> (cbv; (try simp only [nc] at *); try simp (disch := (first | omega | (simp only [lnS, zA, zM, zG, zP]; omega))) only [nc, nct, w64_of, zT, zZ, zM, rdS, at_agg, bofZ, bof1, bof0, zC, zS, reduceCtorEq, Bool.not_true, Bool.not_false, zD, zE, zB, zF, zN, zO, ne_eq, zQ, zL, zR, beq_iff_eq] at h_s))
  | (refine hF ?_; intro _; clear hF)
  | (refine hF ?_; cbv; clear hF)
  | (refine ⟨fun _ => ?_, ?_⟩; (· ((try simp only [nc] at *); first | done | omega | exact ⟨by omega, rfl⟩ | (simp (disch := (first | omega | (simp only [lnS, zA, zM, zG, zP]; omega))) only [nc, nct, w64_of, zT, zZ, zM, rdS, at_agg, bofZ, bof1, bof0, zC, zS]; first | done | omega | rfl | exact ⟨by omega, rfl⟩ | (simp; done) | (simp; omega)) | (intros; trivial))); (try (simp only [nc] at *)); (try simp (disch := (first | omega | (simp only [lnS, zA, zM, zG, zP]; omega))) only [nc, nct, w64_of, zT, zZ, zM, rdS, at_agg, bofZ, bof1, bof0, zC, zS]); (try cbv))
  | fail
 )
 ·exfalso; ((try simp only [nc] at *); omega)
 ·exact absurd h_s (by simp)
 refine E.loopS (ι := Nat) (fun i => i ≤ R.length ∧ (∀ j < i, ¬ 0 ≤ (B (R.getD j 0)).1)) (fun i => R.length - i) (fun i => [(9, .i fun _ => ((i : Nat) : Int))]) (fun i h => h) 0 (fun _ => by first | rfl | simp) ⟨Nat.zero_le _, ?_⟩ ?_ fun i hi I hI => ?_
 ·intro j hj; omega
 ·cbv; simp
 cbv
 obtain ⟨hi, hp⟩ := hi
 have kbi := kb (R.getD i 0)
 repeat' (first
  | (refine hI (i + 1) ?_ ?_ ?_; rotate_left 1; (· ((try simp only [nc] at *); omega)); (cbv; clear hI; (try clear hF); (try simp only [nc] at *); (try simp (disch := (first | omega | (simp only [lnS, zA, zM, zG, zP]; omega))) only [nc, nct, w64_of, zT, zZ, zM, rdS, at_agg, bofZ, bof1, bof0, zC, zS, implies_true, and_true, true_and, forall_const])); rotate_left 1; (try ((try simp only [nc] at *); omega)))
  | (refine E.c (SCalls.of_le (kbi) ?_ ?_); (· (cbv; (try simp only [nc] at *); first | done | (simp; done) | (simp (disch := (first | omega | (simp only [lnS, zA, zM, zG, zP]; omega))) only [nc, nct, w64_of, zT, zZ, zM, rdS, at_agg, bofZ, bof1, bof0, zC, zS, implies_true, and_true, true_and, forall_const]; first | done | omega | (refine ⟨?_, ?_⟩ <;> omega)) | (simp (disch := (first | omega | (simp only [lnS, zA, zM, zG, zP]; omega))) [nc, nct, w64_of, zT, zZ, zM, rdS, at_agg, bofZ, bof1, bof0, zC, zS]; done))); cbv)
  | (refine E.q (QCalls.of_le (kbi) ?_ ?_); (· (cbv; (try simp only [nc] at *); first | done | (simp; done) | (simp (disch := (first | omega | (simp only [lnS, zA, zM, zG, zP]; omega))) only [nc, nct, w64_of, zT, zZ, zM, rdS, at_agg, bofZ, bof1, bof0, zC, zS, implies_true, and_true, true_and, forall_const]; first | done | omega | (refine ⟨?_, ?_⟩ <;> omega)) | (simp (disch := (first | omega | (simp only [lnS, zA, zM, zG, zP]; omega))) [nc, nct, w64_of, zT, zZ, zM, rdS, at_agg, bofZ, bof1, bof0, zC, zS]; done))); cbv)
  | (refine E.de 12 [] [none] (by decide +kernel) ?_; cbv; (fail_if_success guard_target =~ False))
  | (refine ⟨fun _ h_s => ?_, fun _ h_s => ?_⟩ <;> (cbv; (try simp only [nc] at *); try simp (disch := (first | omega | (simp only [lnS, zA, zM, zG, zP]; omega))) only [nc, nct, w64_of, zT, zZ, zM, rdS, at_agg, bofZ, bof1, bof0, zC, zS, reduceCtorEq, Bool.not_true, Bool.not_false, zD, zE, zB, zF, zN, zO, ne_eq, zQ, zL, zR, beq_iff_eq] at h_s))
  | (refine hF ?_; intro _; clear hF)
  | (refine hF ?_; cbv; clear hF)
  | (refine ⟨fun _ => ?_, ?_⟩; (· ((try simp only [nc] at *); first | done | omega | exact ⟨by omega, rfl⟩ | (simp (disch := (first | omega | (simp only [lnS, zA, zM, zG, zP]; omega))) only [nc, nct, w64_of, zT, zZ, zM, rdS, at_agg, bofZ, bof1, bof0, zC, zS]; first | done | omega | rfl | exact ⟨by omega, rfl⟩ | (simp; done) | (simp; omega)) | (intros; trivial))); (try (simp only [nc] at *)); (try simp (disch := (first | omega | (simp only [lnS, zA, zM, zG, zP]; omega))) only [nc, nct, w64_of, zT, zZ, zM, rdS, at_agg, bofZ, bof1, bof0, zC, zS]); (try cbv))
  | fail
 )
 ·rw [wy i (by ((try simp only [nc] at *); omega)) h_s hp]; simp
 ·refine ⟨by ((try simp only [nc] at *); omega), fun j hj => ?_⟩
  rcases Nat.lt_or_ge j i with h1 | h1
  ·exact hp j h1
  ·obtain rfl : j = i := by omega
   first
    | exact h_s
    | omega
 ·push_cast; rfl
 ·have e : i = R.length := by ((try simp only [nc] at *); omega)
  subst e
  rw [wn hp]; simp
theorem rcheck16_ok (g : Gr) (hg : Rd g) (h : GOk g) (m : Int) (hm : m = 1 ∨ m = 2) : Pure Tryz.prog γ false 11 [.i fun _ => m, aGr g] (.tup [.b fun _ => !(whyP g (rulesM m)).2, .i fun _ => 0]) := by
 have kr := rrules_ok (γ := γ) m
 have kw := rwhy_ok (γ := γ) g hg h m hm
 have hl : (rulesM m).length ≤ 5 ∧ (rulesM m).length ≠ 0 := by
  rcases hm with rfl | rfl <;> simp [rulesM]
 generalize whyP g (rulesM m) = Y at *
 generalize rulesM m = R at *
 refine Pure.go (ty := ty) ty_eq mo Tryz.func11 rfl Tryz.ntmps11 Tryz.results11 Tryz.call11 (by simp) fun P C CQ D W F E hF => ?_
 cbv
 repeat' (first
  | (refine E.c (SCalls.of_le (kw) ?_ ?_); (· (cbv; (try simp only [nc] at *); first | done | (simp; done) | (simp (disch := (first | omega | (simp only [lnS, zA, zM, zG, zP]; omega))) only [nc, nct, w64_of, zT, zZ, zM, rdS, at_agg, bofZ, bof1, bof0, zC, zS, implies_true, and_true, true_and, forall_const]; first | done | omega | (refine ⟨?_, ?_⟩ <;> omega)) | (simp (disch := (first | omega | (simp only [lnS, zA, zM, zG, zP]; omega))) [nc, nct, w64_of, zT, zZ, zM, rdS, at_agg, bofZ, bof1, bof0, zC, zS]; done))); cbv)
  | (refine E.c (SCalls.of_le (kr) ?_ ?_); (· (cbv; (try simp only [nc] at *); first | done | (simp; done) | (simp (disch := (first | omega | (simp only [lnS, zA, zM, zG, zP]; omega))) only [nc, nct, w64_of, zT, zZ, zM, rdS, at_agg, bofZ, bof1, bof0, zC, zS, implies_true, and_true, true_and, forall_const]; first | done | omega | (refine ⟨?_, ?_⟩ <;> omega)) | (simp (disch := (first | omega | (simp only [lnS, zA, zM, zG, zP]; omega))) [nc, nct, w64_of, zT, zZ, zM, rdS, at_agg, bofZ, bof1, bof0, zC, zS]; done))); cbv)
  | (refine ⟨fun _ h_s => ?_, fun _ h_s => ?_⟩ <;> (cbv; (try simp only [nc] at *); try simp (disch := (first | omega | (simp only [lnS, zA, zM, zG, zP]; omega))) only [nc, nct, w64_of, zT, zZ, zM, rdS, at_agg, bofZ, bof1, bof0, zC, zS, reduceCtorEq, Bool.not_true, Bool.not_false, zD, zE, zB, zF, zN, zO, ne_eq, zQ, zL, zR, beq_iff_eq] at h_s))
  | (refine hF ?_; intro _; clear hF)
  | (refine hF ?_; cbv; clear hF)
  | (refine ⟨fun _ => ?_, ?_⟩; (· ((try simp only [nc] at *); first | done | omega | exact ⟨by omega, rfl⟩ | (simp (disch := (first | omega | (simp only [lnS, zA, zM, zG, zP]; omega))) only [nc, nct, w64_of, zT, zZ, zM, rdS, at_agg, bofZ, bof1, bof0, zC, zS]; first | done | omega | rfl | exact ⟨by omega, rfl⟩ | (simp; done) | (simp; omega)) | (intros; trivial))); (try (simp only [nc] at *)); (try simp (disch := (first | omega | (simp only [lnS, zA, zM, zG, zP]; omega))) only [nc, nct, w64_of, zT, zZ, zM, rdS, at_agg, bofZ, bof1, bof0, zC, zS]); (try cbv))
  | fail
 )
 all_goals first
  | (exfalso; ((try simp only [nc] at *); omega))
  | (simp; done)
end Go.AL.Rl

namespace Go.AL.Rl
open Go Go.AL Go.Proofs
set_option maxRecDepth 100000
set_option maxHeartbeats 3200000

theorem leans_mem {g : Gr} (hg : GOk g) (e d : EId) : d ∈ leansM g e ↔ ∃ j, g.init.length ≤ j ∧ j < nG g ∧ (growM (nG g) (backF (viewG g) (nG g)) (imageM (nG g) (backF (viewG g) (nG g)) (bitP (idsG g) g.init.length e))).getLsbD j = true ∧ (idsG g).getD j id0 = d := by
 have hn := (viewG_wf hg).small
 have hf := backF_fits (viewG g) hn
 unfold leansM tellM
 rw [if_pos hg]
 simp only [List.mem_map, List.mem_filter, List.mem_range, ev_bit, Bool.and_eq_true, decide_eq_true_eq]
 constructor
 ·rintro ⟨j, ⟨_, h2, h3⟩, h4⟩
  exact ⟨j, h2, grow_lt hf (fun j hj => image_lt hf hj) h3, h3, h4⟩
 ·rintro ⟨j, h1, h2, h3, h4⟩
  exact ⟨j, ⟨by omega, h1, h3⟩, h4⟩
theorem leans_nodup {g : Gr} (hg : GOk g) (e : EId) : (leansM g e).Nodup := by
 have hn := (viewG_wf hg).small
 have hf := backF_fits (viewG g) hn
 unfold leansM
 rw [if_pos hg]
 unfold tellM List.Nodup
 rw [List.pairwise_map]
 refine List.Pairwise.imp_of_mem ?_ (List.nodup_range.filter _)
 intro a b ha hb hab e
 simp only [List.mem_filter, List.mem_range, ev_bit, Bool.and_eq_true, decide_eq_true_eq] at ha hb
 have la : a < (idsG g).length := grow_lt hf (fun j hj => image_lt hf hj) ha.2.2
 have lb : b < (idsG g).length := grow_lt hf (fun j hj => image_lt hf hj) hb.2.2
 exact hab (getD_inj (idsG_nodup g) la lb e)
theorem leans_len (g : Gr) (e : EId) : (leansM g e).length ≤ 64 := by
 unfold leansM; split
 ·exact tell_len _ _
 ·simp
def backP (e a : EId) : Bool := decide (a.t = e.t) && decide (a.i < e.i)
theorem leans_cnt {g : Gr} (hg : GOk g) {e : EId} (he : evT g e) : ((leansM g e).countP (backP e) : Int) = e.i := by
 have hn := (viewG_wf hg).small
 have hf := backF_fits (viewG g) hn
 rw [List.countP_eq_length_filter]
 have hp : ((leansM g e).filter (backP e)).Perm (idsE (e.t - 1).toNat e.i.toNat) := by
  refine (List.perm_ext_iff_of_nodup ((leans_nodup hg e).filter _) (idsE_nodup _ _)).2 fun a => ?_
  obtain ⟨h1, h2, h3, h4⟩ := he
  rw [List.mem_filter, idsE_mem]
  unfold backP
  rw [Bool.and_eq_true, decide_eq_true_eq, decide_eq_true_eq]
  constructor
  ·rintro ⟨hm, q1, q2⟩
   obtain ⟨j, j1, j2, _, j4⟩ := (leans_mem hg e a).1 hm
   have := idx_hi j1 j2
   rw [j4] at this
   exact ⟨by omega, this.2.2.1, by omega⟩
  ·rintro ⟨q1, q2, q3⟩
   refine ⟨?_, by omega, by omega⟩
   have ha : evT g a := ⟨by omega, by omega, q2, by rw [show (a.t - 1).toNat = (e.t - 1).toNat by omega]; omega⟩
   obtain ⟨j, j1, j2, j3⟩ := idx_of ha
   obtain ⟨i, i1, i2, i3⟩ := idx_of (g := g) (d := e) ⟨h1, h2, h3, h4⟩
   refine (leans_mem hg e a).2 ⟨j, j1, j2, (grow_bit hf _ _).2 (.inl ((bit_image hf _ _).2 ⟨i, (bitP_iff hn e i).2 ⟨i1, i2, i3⟩, ?_⟩)), j3⟩
   refine (back_hi hg i1 j1 i2 j2).2 ?_
   rw [i3, j3]
   exact .inl ⟨by omega, by omega⟩
 rw [hp.length_eq, idsE_len]
 have := he.2.2.1
 omega
end Go.AL.Rl

namespace Go.AL.Rl
open Go Go.AL Go.Proofs
set_option maxRecDepth 100000
set_option maxHeartbeats 3200000
variable {γ : Nat → Option AV}

theorem pairs_in {rows : List (BitVec 64)} {a b : Nat} (h : bit rows a b = true) : ((a : Int), (b : Int)) ∈ pairsM rows := by
 have ha : a < rows.length := by
  rcases Nat.lt_or_ge a rows.length with h1 | h1
  ·exact h1
  ·rw [bit_out h1] at h; cases h
 have hb : b < 64 := by
  rcases Nat.lt_or_ge b 64 with h1 | h1
  ·exact h1
  ·unfold bit at h; rw [BitVec.getLsbD_of_ge _ b h1] at h; cases h
 unfold pairsM prows
 simp only [List.mem_flatMap, List.mem_range, prow, List.mem_map, List.mem_filter]
 exact ⟨a, ha, b, ⟨hb, h⟩, rfl⟩
theorem circ_lead {n : Nat} {rows : List (BitVec 64)} (h : rows.length = n) : (circF rows).br = (leadM (fun i => bit rows i i) n).isSome := by
 unfold circF
 rw [h]
 cases leadM (fun i => bit rows i i) n <;> rfl
theorem brk_flt {g : Gr} (h : GOk g) (k : Int) : 0 ≤ (brkP g k).1 ↔ (fltM (viewG g) (nG g) k).br = true := by
 have hn := (viewG_wf h).small
 have f1 := fits_poF (viewG g) hn
 have f2 := fits_rfF (viewG g) hn
 have f6 : Fits (nG g : Nat) (porfF (viewG g) (nG g)) := fits_plus (fits_or2 f1 f2)
 have f7 := hb_fits (viewG g) hn
 have f8 := fits_plus (fits_tog (viewG_wf h))
 have e6 : (porfF (viewG g) (nG g)).length = nG g := by have := f6.2.2.1; omega
 have e7 : (hbF (viewG g) (nG g)).length = nG g := by have := f7.2.2.1; omega
 have e8 : (plusM (nG g) (togF (viewG g) (nG g))).length = nG g := by have := f8.2.2.1; omega
 unfold brkP fltM
 by_cases h2 : k = 2
 ·rw [if_pos h2, if_pos h2, fstI_iff]
  unfold updF
  cases leadM (updB (viewG g)) (nG g) <;> simp [ftOf, ft0]
 rw [if_neg h2, if_neg h2]
 by_cases h3 : k = 3
 ·rw [if_pos h3, if_pos h3, fstI_iff, plus_porf _ hn, circ_lead e6]
 rw [if_neg h3, if_neg h3]
 by_cases h4 : k = 4
 ·rw [if_pos h4, if_pos h4, fstI_iff, plus_hb _ hn, circ_lead e7]
 rw [if_neg h4, if_neg h4]
 by_cases h6 : k = 6
 ·rw [if_pos h6, if_neg (by omega), if_pos h6, fstI_iff, circ_lead e8]
 rw [if_neg h6]
 by_cases h5 : k = 5
 ·rw [if_pos h5, if_pos h5, coh_br]
  have hand := fun i j => bit_and (a := hbF (viewG g) (nG g)) (b := turnM (ecoF (viewG g) (nG g))) f7 i j
  constructor
  ·intro hge
   cases e : (pairC g).find? fun p => decide (p.1 ≠ p.2) with
   | none => rw [e] at hge; simp at hge
   | some p =>
    have hm := List.mem_of_find?_eq_some e
    have hne := List.find?_some e
    simp only [decide_eq_true_eq] at hne
    obtain ⟨a, b, rfl, hb⟩ := pairs_mem hm
    obtain ⟨b1, b2⟩ := (hand a b).1 hb
    rw [bit_turn (eco_fits (viewG g) hn)] at b2
    refine ⟨a, (fits_bits f7 b1).1, b, (fits_bits (eco_fits (viewG g) hn) b2).1, ?_⟩
    unfold cohB
    have hab : a ≠ b := fun e => hne (by simp only; omega)
    simp [b1, b2, hab]
  ·rintro ⟨a, _, b, _, hc⟩
   unfold cohB at hc
   simp only [Bool.and_eq_true, decide_eq_true_eq] at hc
   have hin : ((a : Int), (b : Int)) ∈ pairC g := pairs_in ((hand a b).2 ⟨hc.1.2, (bit_turn (eco_fits (viewG g) hn) _ _).2 hc.2⟩)
   cases e : (pairC g).find? fun p => decide (p.1 ≠ p.2) with
   | none =>
    rw [List.find?_eq_none] at e
    have := e _ hin
    simp only [decide_eq_true_eq] at this
    exact absurd (fun e => hc.1.1 (by omega)) this
   | some p =>
    have hm := List.mem_of_find?_eq_some e
    obtain ⟨a, b, rfl, _⟩ := pairs_mem hm
    simp only [Option.getD_some]
    omega
 rw [if_neg h5, if_neg h5, if_neg h6]
 simp [ft0]
theorem why_any (g : Gr) (R : List Int) : (whyP g R).2 = true ↔ ∃ k ∈ R, 0 ≤ (brkP g k).1 := by
 unfold whyP
 cases e : R.find? fun k => decide (0 ≤ (brkP g k).1) with
 | none =>
  rw [List.find?_eq_none] at e
  constructor
  ·intro h; cases h
  ·rintro ⟨k, hk, h⟩
   have := e k hk
   simp only [decide_eq_true_eq] at this
   exact absurd h this
 | some k =>
  have h1 := List.mem_of_find?_eq_some e
  have h2 := List.find?_some e
  simp only [decide_eq_true_eq] at h2
  exact ⟨fun _ => ⟨k, h1, h2⟩, fun _ => rfl⟩
theorem why_keep {g : Gr} {l : List EId} (hg : GOk g) (hC : ClG g l) (R : List Int) (h : (whyP (keepM g l) R).2 = true) : (whyP g R).2 = true := by
 have hk := k_ok hg hC
 obtain ⟨k, h1, h2⟩ := (why_any _ _).1 h
 exact (why_any _ _).2 ⟨k, h1, (brk_flt hg k).2 (flt_emb (k_emb hg hC) (viewG_wf hk) (viewG_wf hg) k ((brk_flt hk k).1 h2))⟩
theorem countP_succ (L : List EId) (p : EId → Bool) (k : Nat) (hk : k < L.length) : (L.take (k + 1)).countP p = (L.take k).countP p + if p (L.getD k id0) = true then 1 else 0 := by
 rw [take_succ' L k id0 hk, List.countP_append]
 simp [List.countP_cons]
theorem prefixKeeps_ok (hγ : γ 0 = some tabAV) (g : Gr) (hg : Rd g) (l : List EId) (hl : (l.length : Int) ≤ 9223372036854775807) : Pure Tryz.prog γ false 3 [aGr g, .vs 2 fun _ => ids l] (.b fun _ => true) := by
 have kv := lives18_ok (γ := γ) hγ
 have ki := light_ok (γ := γ) g hg 60 (by omega) (by omega)
 have kc := check14_ok (γ := γ) g hg
 by_cases hgo : GOk g
 ·rw [gcheck0 hgo] at kc
  have k1 := pclose_ok (γ := γ) hγ g hg l hl
  have cC := close_cl hgo l
  have lc := close_len g l
  generalize closeM g l = c at *
  have hcl := (closedG_iff g c).2 ⟨hgo, cC⟩
  have k2 := pkeep_yes (γ := γ) hγ g hg c (by omega) hcl
  have k3 := pclosedG_ok (γ := γ) hγ g hg c (by omega)
  rw [hcl] at k3
  have hk := k_ok hgo cC
  have k4 := check14_ok (γ := γ) (keepM g c) (rd_ok hk)
  rw [gcheck0 hk] at k4
  have k5 := count_ok (γ := γ) (keepM g c) (rd_ok hk)
  have hNG : NG (keepM g c) = (g.init.length : Int) + c.length := by
   unfold NG
   rw [if_pos hk, k_nG hgo cC]
   push_cast; rfl
  rw [hNG] at k5
  have c1 := fun m hm => rcheck16_ok (γ := γ) g hg hgo m hm
  have c2 := fun m hm => rcheck16_ok (γ := γ) (keepM g c) (rd_ok hk) hk m hm
  have hw := fun m => why_keep hgo cC (rulesM m)
  have kl := fun d => pleans_ok (γ := γ) hγ g hg d
  have hcnt : ∀ i, i < c.length → ((leansM g (c.getD i id0)).countP (backP (c.getD i id0)) : Int) = (c.getD i id0).i := fun i hi => leans_cnt hgo (cC.2.1 _ (getD_mem hi))
  have hll := fun d => leans_len g d
  have hin := hgo.short.init
  generalize keepM g c = h at *
  obtain ⟨Y, hY⟩ : ∃ Y : Int → Bool, ∀ m, Y m = (whyP g (rulesM m)).2 := ⟨_, fun _ => rfl⟩
  obtain ⟨Z, hZ⟩ : ∃ Z : Int → Bool, ∀ m, Z m = (whyP h (rulesM m)).2 := ⟨_, fun _ => rfl⟩
  simp only [← hY, ← hZ] at c1 c2 hw
  obtain ⟨LN, hLN⟩ : ∃ LN : EId → List EId, ∀ d, LN d = leansM g d := ⟨_, fun _ => rfl⟩
  simp only [← hLN] at kl hcnt hll
  clear hY hZ hLN
  refine Pure.go (ty := ty) ty_eq mo Tryz.func3 rfl Tryz.ntmps3 Tryz.results3 Tryz.call3 (by simp) fun P C CQ D W F E hF => ?_
  cbv
  repeat' (first
   | (refine E.c (SCalls.of_le (k5) ?_ ?_); (· (cbv; (try simp only [nc] at *); first | done | (simp; done) | (simp (disch := (first | omega | (simp only [lnS, zA, zM, zG, zP]; omega))) only [nc, nct, w64_of, zT, zZ, zM, rdS, at_agg, bofZ, bof1, bof0, zC, zS, implies_true, and_true, true_and, forall_const]; first | done | omega | (refine ⟨?_, ?_⟩ <;> omega)) | (simp (disch := (first | omega | (simp only [lnS, zA, zM, zG, zP]; omega))) [nc, nct, w64_of, zT, zZ, zM, rdS, at_agg, bofZ, bof1, bof0, zC, zS]; done))); cbv)
   | (refine E.q (QCalls.of_le (k5) ?_ ?_); (· (cbv; (try simp only [nc] at *); first | done | (simp; done) | (simp (disch := (first | omega | (simp only [lnS, zA, zM, zG, zP]; omega))) only [nc, nct, w64_of, zT, zZ, zM, rdS, at_agg, bofZ, bof1, bof0, zC, zS, implies_true, and_true, true_and, forall_const]; first | done | omega | (refine ⟨?_, ?_⟩ <;> omega)) | (simp (disch := (first | omega | (simp only [lnS, zA, zM, zG, zP]; omega))) [nc, nct, w64_of, zT, zZ, zM, rdS, at_agg, bofZ, bof1, bof0, zC, zS]; done))); cbv)
   | (refine E.c (SCalls.of_le (k4) ?_ ?_); (· (cbv; (try simp only [nc] at *); first | done | (simp; done) | (simp (disch := (first | omega | (simp only [lnS, zA, zM, zG, zP]; omega))) only [nc, nct, w64_of, zT, zZ, zM, rdS, at_agg, bofZ, bof1, bof0, zC, zS, implies_true, and_true, true_and, forall_const]; first | done | omega | (refine ⟨?_, ?_⟩ <;> omega)) | (simp (disch := (first | omega | (simp only [lnS, zA, zM, zG, zP]; omega))) [nc, nct, w64_of, zT, zZ, zM, rdS, at_agg, bofZ, bof1, bof0, zC, zS]; done))); cbv)
   | (refine E.q (QCalls.of_le (k4) ?_ ?_); (· (cbv; (try simp only [nc] at *); first | done | (simp; done) | (simp (disch := (first | omega | (simp only [lnS, zA, zM, zG, zP]; omega))) only [nc, nct, w64_of, zT, zZ, zM, rdS, at_agg, bofZ, bof1, bof0, zC, zS, implies_true, and_true, true_and, forall_const]; first | done | omega | (refine ⟨?_, ?_⟩ <;> omega)) | (simp (disch := (first | omega | (simp only [lnS, zA, zM, zG, zP]; omega))) [nc, nct, w64_of, zT, zZ, zM, rdS, at_agg, bofZ, bof1, bof0, zC, zS]; done))); cbv)
   | (refine E.c (SCalls.of_le (k3) ?_ ?_); (· (cbv; (try simp only [nc] at *); first | done | (simp; done) | (simp (disch := (first | omega | (simp only [lnS, zA, zM, zG, zP]; omega))) only [nc, nct, w64_of, zT, zZ, zM, rdS, at_agg, bofZ, bof1, bof0, zC, zS, implies_true, and_true, true_and, forall_const]; first | done | omega | (refine ⟨?_, ?_⟩ <;> omega)) | (simp (disch := (first | omega | (simp only [lnS, zA, zM, zG, zP]; omega))) [nc, nct, w64_of, zT, zZ, zM, rdS, at_agg, bofZ, bof1, bof0, zC, zS]; done))); cbv)
   | (refine E.q (QCalls.of_le (k3) ?_ ?_); (· (cbv; (try simp only [nc] at *); first | done | (simp; done) | (simp (disch := (first | omega | (simp only [lnS, zA, zM, zG, zP]; omega))) only [nc, nct, w64_of, zT, zZ, zM, rdS, at_agg, bofZ, bof1, bof0, zC, zS, implies_true, and_true, true_and, forall_const]; first | done | omega | (refine ⟨?_, ?_⟩ <;> omega)) | (simp (disch := (first | omega | (simp only [lnS, zA, zM, zG, zP]; omega))) [nc, nct, w64_of, zT, zZ, zM, rdS, at_agg, bofZ, bof1, bof0, zC, zS]; done))); cbv)
   | (refine E.c (SCalls.of_le (k2) ?_ ?_); (· (cbv; simp [rls, ps, us, is, ids, evs, evss, idss, LV.of, setAll, AV.nrm]; done)); cbv)
   | (refine E.q (QCalls.of_le (k2) ?_ ?_); (· (cbv; simp [rls, ps, us, is, ids, evs, evss, idss, LV.of, setAll, AV.nrm]; done)); cbv)
   | (refine E.c (SCalls.of_le (k1) ?_ ?_); (· (cbv; (try simp only [nc] at *); first | done | (simp; done) | (simp (disch := (first | omega | (simp only [lnS, zA, zM, zG, zP]; omega))) only [nc, nct, w64_of, zT, zZ, zM, rdS, at_agg, bofZ, bof1, bof0, zC, zS, implies_true, and_true, true_and, forall_const]; first | done | omega | (refine ⟨?_, ?_⟩ <;> omega)) | (simp (disch := (first | omega | (simp only [lnS, zA, zM, zG, zP]; omega))) [nc, nct, w64_of, zT, zZ, zM, rdS, at_agg, bofZ, bof1, bof0, zC, zS]; done))); cbv)
   | (refine E.c (SCalls.of_le (kc) ?_ ?_); (· (cbv; (try simp only [nc] at *); first | done | (simp; done) | (simp (disch := (first | omega | (simp only [lnS, zA, zM, zG, zP]; omega))) only [nc, nct, w64_of, zT, zZ, zM, rdS, at_agg, bofZ, bof1, bof0, zC, zS, implies_true, and_true, true_and, forall_const]; first | done | omega | (refine ⟨?_, ?_⟩ <;> omega)) | (simp (disch := (first | omega | (simp only [lnS, zA, zM, zG, zP]; omega))) [nc, nct, w64_of, zT, zZ, zM, rdS, at_agg, bofZ, bof1, bof0, zC, zS]; done))); cbv)
   | (refine E.c (SCalls.of_le (ki) ?_ ?_); (· (cbv; (try simp only [nc] at *); first | done | (simp; done) | (simp (disch := (first | omega | (simp only [lnS, zA, zM, zG, zP]; omega))) only [nc, nct, w64_of, zT, zZ, zM, rdS, at_agg, bofZ, bof1, bof0, zC, zS, implies_true, and_true, true_and, forall_const]; first | done | omega | (refine ⟨?_, ?_⟩ <;> omega)) | (simp (disch := (first | omega | (simp only [lnS, zA, zM, zG, zP]; omega))) [nc, nct, w64_of, zT, zZ, zM, rdS, at_agg, bofZ, bof1, bof0, zC, zS]; done))); cbv)
   | (refine E.c (SCalls.of_le (kv) ?_ ?_); (· (cbv; (try simp only [nc] at *); first | done | (simp; done) | (simp (disch := (first | omega | (simp only [lnS, zA, zM, zG, zP]; omega))) only [nc, nct, w64_of, zT, zZ, zM, rdS, at_agg, bofZ, bof1, bof0, zC, zS, implies_true, and_true, true_and, forall_const]; first | done | omega | (refine ⟨?_, ?_⟩ <;> omega)) | (simp (disch := (first | omega | (simp only [lnS, zA, zM, zG, zP]; omega))) [nc, nct, w64_of, zT, zZ, zM, rdS, at_agg, bofZ, bof1, bof0, zC, zS]; done))); cbv)
   | (refine ⟨fun _ h_s => ?_, fun _ h_s => ?_⟩ <;> (cbv; (try simp only [nc] at *); try simp (disch := (first | omega | (simp only [lnS, zA, zM, zG, zP]; omega))) only [nc, nct, w64_of, zT, zZ, zM, rdS, at_agg, bofZ, bof1, bof0, zC, zS, reduceCtorEq, Bool.not_true, Bool.not_false, zD, zE, zB, zF, zN, zO, ne_eq, zQ, zL, zR, beq_iff_eq] at h_s))
   | (refine hF ?_; intro _; clear hF)
   | (refine hF ?_; cbv; clear hF)
   | (refine ⟨fun _ => ?_, ?_⟩; (· ((try simp only [nc] at *); first | done | omega | exact ⟨by omega, rfl⟩ | (simp (disch := (first | omega | (simp only [lnS, zA, zM, zG, zP]; omega))) only [nc, nct, w64_of, zT, zZ, zM, rdS, at_agg, bofZ, bof1, bof0, zC, zS]; first | done | omega | rfl | exact ⟨by omega, rfl⟩ | (simp; done) | (simp; omega)) | (intros; trivial))); (try (simp only [nc] at *)); (try simp (disch := (first | omega | (simp only [lnS, zA, zM, zG, zP]; omega))) only [nc, nct, w64_of, zT, zZ, zM, rdS, at_agg, bofZ, bof1, bof0, zC, zS]); (try cbv))
   | (refine E.d 5 (by decide +kernel) ?_; cbv; (fail_if_success guard_target =~ False))
   | (refine E.d 22 (by decide +kernel) ?_; cbv; (fail_if_success guard_target =~ False))
   | fail
  )
  ·rfl
  ·rfl
  ·rfl
  ·exact absurd h_s (by simp)
  ·exact absurd h_s (by simp)
  ·exact absurd h_s (by simp)
  clear kv ki kc k1 k2 k3 k4 k5
  refine E.loopS (ι := Nat) (fun j => j ≤ 2) (fun j => 2 - j) (fun j => [(8, .i fun _ => ((j : Nat) : Int) + 1)]) (fun j h => h) 0 (fun _ => by first | rfl | simp) (Nat.zero_le _) ?_ fun j hj I hI => ?_
  ·cbv; simp
  cbv
  have m1 := fun hm => c1 ((j : Int) + 1) hm
  have m2 := fun hm => c2 ((j : Int) + 1) hm
  have hwj := hw ((j : Int) + 1)
  clear c1 c2
  repeat' (first
   | (refine hI (j + 1) ?_ ?_ ?_; rotate_left 1; (· ((try simp only [nc] at *); omega)); (cbv; clear hI; (try clear hF); (try simp only [nc] at *); (try simp (disch := (first | omega | (simp only [lnS, zA, zM, zG, zP]; omega))) only [nc, nct, w64_of, zT, zZ, zM, rdS, at_agg, bofZ, bof1, bof0, zC, zS, implies_true, and_true, true_and, forall_const])); rotate_left 1; (try ((try simp only [nc] at *); omega)))
   | (refine E.c (SCalls.of_le (m2 (by ((try simp only [nc] at *); omega))) ?_ ?_); (· (cbv; (try simp only [nc] at *); first | done | (simp; done) | (simp (disch := (first | omega | (simp only [lnS, zA, zM, zG, zP]; omega))) only [nc, nct, w64_of, zT, zZ, zM, rdS, at_agg, bofZ, bof1, bof0, zC, zS, implies_true, and_true, true_and, forall_const]; first | done | omega | (refine ⟨?_, ?_⟩ <;> omega)) | (simp (disch := (first | omega | (simp only [lnS, zA, zM, zG, zP]; omega))) [nc, nct, w64_of, zT, zZ, zM, rdS, at_agg, bofZ, bof1, bof0, zC, zS]; done))); cbv)
   | (refine E.c (SCalls.of_le (m1 (by ((try simp only [nc] at *); omega))) ?_ ?_); (· (cbv; (try simp only [nc] at *); first | done | (simp; done) | (simp (disch := (first | omega | (simp only [lnS, zA, zM, zG, zP]; omega))) only [nc, nct, w64_of, zT, zZ, zM, rdS, at_agg, bofZ, bof1, bof0, zC, zS, implies_true, and_true, true_and, forall_const]; first | done | omega | (refine ⟨?_, ?_⟩ <;> omega)) | (simp (disch := (first | omega | (simp only [lnS, zA, zM, zG, zP]; omega))) [nc, nct, w64_of, zT, zZ, zM, rdS, at_agg, bofZ, bof1, bof0, zC, zS]; done))); cbv)
   | (refine ⟨fun _ h_s => ?_, fun _ h_s => ?_⟩ <;> (cbv; (try simp only [nc] at *); try simp (disch := (first | omega | (simp only [lnS, zA, zM, zG, zP]; omega))) only [nc, nct, w64_of, zT, zZ, zM, rdS, at_agg, bofZ, bof1, bof0, zC, zS, reduceCtorEq, Bool.not_true, Bool.not_false, zD, zE, zB, zF, zN, zO, ne_eq, zQ, zL, zR, beq_iff_eq] at h_s))
   | (refine hF ?_; intro _; clear hF)
   | (refine hF ?_; cbv; clear hF)
   | (refine ⟨fun _ => ?_, ?_⟩; (· ((try simp only [nc] at *); first | done | omega | exact ⟨by omega, rfl⟩ | (simp (disch := (first | omega | (simp only [lnS, zA, zM, zG, zP]; omega))) only [nc, nct, w64_of, zT, zZ, zM, rdS, at_agg, bofZ, bof1, bof0, zC, zS]; first | done | omega | rfl | exact ⟨by omega, rfl⟩ | (simp; done) | (simp; omega)) | (intros; trivial))); (try (simp only [nc] at *)); (try simp (disch := (first | omega | (simp only [lnS, zA, zM, zG, zP]; omega))) only [nc, nct, w64_of, zT, zZ, zM, rdS, at_agg, bofZ, bof1, bof0, zC, zS]); (try cbv))
   | (refine E.d 5 (by decide +kernel) ?_; cbv; (fail_if_success guard_target =~ False))
   | (refine E.d 22 (by decide +kernel) ?_; cbv; (fail_if_success guard_target =~ False))
   | fail
  )
  ·exfalso
   have a1 : Z ((j : Int) + 1) = true := by first | assumption | simp_all
   have a2 := hwj a1
   simp_all
  ·push_cast; rfl
  ·push_cast; rfl
  clear m1 m2 hw hwj hI Y Z
  obtain ⟨cn, hcn⟩ : ∃ cn : Nat → Nat → Nat, ∀ i k, cn i k = ((LN (c.getD i id0)).take k).countP (backP (c.getD i id0)) := ⟨_, fun _ _ => rfl⟩
  have cn0 : ∀ i, cn i 0 = 0 := fun i => by rw [hcn]; rfl
  have cnS : ∀ i k, k < (LN (c.getD i id0)).length → cn i (k + 1) = cn i k + if ((LN (c.getD i id0)).getD k id0).t = (c.getD i id0).t ∧ ((LN (c.getD i id0)).getD k id0).i < (c.getD i id0).i then 1 else 0 := fun i k hk => by
   rw [hcn, hcn, countP_succ _ _ _ hk]
   congr 1
   unfold backP
   by_cases h1 : ((LN (c.getD i id0)).getD k id0).t = (c.getD i id0).t ∧ ((LN (c.getD i id0)).getD k id0).i < (c.getD i id0).i
   ·rw [if_pos h1, decide_eq_true h1.1, decide_eq_true h1.2]; rfl
   ·rw [if_neg h1, if_neg]
    rw [Bool.and_eq_true, decide_eq_true_eq, decide_eq_true_eq]; exact h1
  have cnE : ∀ i, i < c.length → (cn i (LN (c.getD i id0)).length : Int) = (c.getD i id0).i := fun i hi => by
   rw [hcn, List.take_length]; exact hcnt i hi
  have cnL : ∀ i k, cn i k ≤ 64 := fun i k => by
   rw [hcn]
   have h1 := List.countP_le_length (p := backP (c.getD i id0)) (l := (LN (c.getD i id0)).take k)
   have h2 := hll (c.getD i id0)
   rw [List.length_take] at h1
   omega
  clear hcn hcnt
  refine E.loopS (ι := Nat) (fun i => i ≤ c.length) (fun i => c.length - i) (fun i => [(13, .i fun _ => ((i : Nat) : Int))]) (fun i h => h) 0 (fun _ => by first | rfl | simp) (Nat.zero_le _) ?_ fun i hi I2 hI2 => ?_
  ·cbv; simp
  cbv
  have kli := kl (c.getD i id0)
  have hlli := hll (c.getD i id0)
  have cE := cnE i
  have d0 := cn0 i
  have dS := cnS i
  have dL := cnL i
  repeat' (first
   | (refine hI2 (i + 1) ?_ ?_ ?_; rotate_left 1; (· ((try simp only [nc] at *); omega)); (cbv; clear hI2; (try clear hF); (try simp only [nc] at *); (try simp (disch := (first | omega | (simp only [lnS, zA, zM, zG, zP]; omega))) only [nc, nct, w64_of, zT, zZ, zM, rdS, at_agg, bofZ, bof1, bof0, zC, zS, implies_true, and_true, true_and, forall_const])); rotate_left 1; (try ((try simp only [nc] at *); omega)))
   | (refine E.c (SCalls.of_le (kli) ?_ ?_); (· (cbv; (try simp only [nc] at *); first | done | (simp; done) | (simp (disch := (first | omega | (simp only [lnS, zA, zM, zG, zP]; omega))) only [nc, nct, w64_of, zT, zZ, zM, rdS, at_agg, bofZ, bof1, bof0, zC, zS, implies_true, and_true, true_and, forall_const]; first | done | omega | (refine ⟨?_, ?_⟩ <;> omega)) | (simp (disch := (first | omega | (simp only [lnS, zA, zM, zG, zP]; omega))) [nc, nct, w64_of, zT, zZ, zM, rdS, at_agg, bofZ, bof1, bof0, zC, zS]; done))); cbv)
   | (refine E.q (QCalls.of_le (kli) ?_ ?_); (· (cbv; (try simp only [nc] at *); first | done | (simp; done) | (simp (disch := (first | omega | (simp only [lnS, zA, zM, zG, zP]; omega))) only [nc, nct, w64_of, zT, zZ, zM, rdS, at_agg, bofZ, bof1, bof0, zC, zS, implies_true, and_true, true_and, forall_const]; first | done | omega | (refine ⟨?_, ?_⟩ <;> omega)) | (simp (disch := (first | omega | (simp only [lnS, zA, zM, zG, zP]; omega))) [nc, nct, w64_of, zT, zZ, zM, rdS, at_agg, bofZ, bof1, bof0, zC, zS]; done))); cbv)
   | (refine ⟨fun _ h_s => ?_, fun _ h_s => ?_⟩ <;> (cbv; (try simp only [nc] at *); try simp (disch := (first | omega | (simp only [lnS, zA, zM, zG, zP]; omega))) only [nc, nct, w64_of, zT, zZ, zM, rdS, at_agg, bofZ, bof1, bof0, zC, zS, reduceCtorEq, Bool.not_true, Bool.not_false, zD, zE, zB, zF, zN, zO, ne_eq, zQ, zL, zR, beq_iff_eq] at h_s))
   | (refine hF ?_; intro _; clear hF)
   | (refine hF ?_; cbv; clear hF)
   | (refine ⟨fun _ => ?_, ?_⟩; (· ((try simp only [nc] at *); first | done | omega | exact ⟨by omega, rfl⟩ | (simp (disch := (first | omega | (simp only [lnS, zA, zM, zG, zP]; omega))) only [nc, nct, w64_of, zT, zZ, zM, rdS, at_agg, bofZ, bof1, bof0, zC, zS]; first | done | omega | rfl | exact ⟨by omega, rfl⟩ | (simp; done) | (simp; omega)) | (intros; trivial))); (try (simp only [nc] at *)); (try simp (disch := (first | omega | (simp only [lnS, zA, zM, zG, zP]; omega))) only [nc, nct, w64_of, zT, zZ, zM, rdS, at_agg, bofZ, bof1, bof0, zC, zS]); (try cbv))
   | (refine E.d 5 (by decide +kernel) ?_; cbv; (fail_if_success guard_target =~ False))
   | (refine E.d 22 (by decide +kernel) ?_; cbv; (fail_if_success guard_target =~ False))
   | fail
  )
  ·refine E.loopS (ι := Nat) (fun k => k ≤ (LN (c.getD i id0)).length) (fun k => (LN (c.getD i id0)).length - k) (fun k => [(16, .i fun _ => ((k : Nat) : Int)), (15, .i fun _ => ((cn i k : Nat) : Int))]) (fun k h => h) 0 (fun _ => by first | rfl | simp) (Nat.zero_le _) ?_ fun k hk I3 hI3 => ?_
   ·cbv; simp [d0]
   cbv
   have dk := dS k
   have dl := dL k
   repeat' (first
    | (refine hI2 (i + 1) ?_ ?_ ?_; rotate_left 1; (· ((try simp only [nc] at *); omega)); (cbv; clear hI2; (try clear hF); (try simp only [nc] at *); (try simp (disch := (first | omega | (simp only [lnS, zA, zM, zG, zP]; omega))) only [nc, nct, w64_of, zT, zZ, zM, rdS, at_agg, bofZ, bof1, bof0, zC, zS, implies_true, and_true, true_and, forall_const])); rotate_left 1; (try ((try simp only [nc] at *); omega)))
    | (refine hI3 (k + 1) ?_ ?_ ?_; rotate_left 1; (· ((try simp only [nc] at *); omega)); (cbv; clear hI3; (try clear hF); (try simp only [nc] at *); (try simp (disch := (first | omega | (simp only [lnS, zA, zM, zG, zP]; omega))) only [nc, nct, w64_of, zT, zZ, zM, rdS, at_agg, bofZ, bof1, bof0, zC, zS, implies_true, and_true, true_and, forall_const])); rotate_left 1; (try ((try simp only [nc] at *); omega)))
    | (refine ⟨fun _ h_s => ?_, fun _ h_s => ?_⟩ <;> (cbv; (try simp only [nc] at *); try simp (disch := (first | omega | (simp only [lnS, zA, zM, zG, zP]; omega))) only [nc, nct, w64_of, zT, zZ, zM, rdS, at_agg, bofZ, bof1, bof0, zC, zS, reduceCtorEq, Bool.not_true, Bool.not_false, zD, zE, zB, zF, zN, zO, ne_eq, zQ, zL, zR, beq_iff_eq] at h_s))
    | (refine hF ?_; intro _; clear hF)
    | (refine hF ?_; cbv; clear hF)
    | (refine ⟨fun _ => ?_, ?_⟩; (· ((try simp only [nc] at *); first | done | omega | exact ⟨by omega, rfl⟩ | (simp (disch := (first | omega | (simp only [lnS, zA, zM, zG, zP]; omega))) only [nc, nct, w64_of, zT, zZ, zM, rdS, at_agg, bofZ, bof1, bof0, zC, zS]; first | done | omega | rfl | exact ⟨by omega, rfl⟩ | (simp; done) | (simp; omega)) | (intros; trivial))); (try (simp only [nc] at *)); (try simp (disch := (first | omega | (simp only [lnS, zA, zM, zG, zP]; omega))) only [nc, nct, w64_of, zT, zZ, zM, rdS, at_agg, bofZ, bof1, bof0, zC, zS]); (try cbv))
    | (refine E.d 5 (by decide +kernel) ?_; cbv; (fail_if_success guard_target =~ False))
    | (refine E.d 22 (by decide +kernel) ?_; cbv; (fail_if_success guard_target =~ False))
    | fail
   )
   ·have z1 : ((LN (c.getD i id0)).getD k id0).t = (c.getD i id0).t := by assumption
    rw [dk (by ((try simp only [nc] at *); omega)), if_pos ⟨z1, h_s⟩]
    exact ⟨by push_cast; rfl, by push_cast; rfl⟩
   ·rw [dk (by ((try simp only [nc] at *); omega)), if_neg (fun x => by first | exact h_s x.1 | exact h_s x.2 | exact absurd x.2 (Int.not_lt.2 h_s))]
    exact ⟨by simp, by push_cast; rfl⟩
   ·rw [dk (by ((try simp only [nc] at *); omega)), if_neg (fun x => by first | exact h_s x.1 | exact h_s x.2 | exact absurd x.2 (Int.not_lt.2 h_s))]
    exact ⟨by simp, by push_cast; rfl⟩
   ·exfalso
    have e : k = (LN (c.getD i ⟨0, 0⟩)).length := by ((try simp only [nc] at *); omega)
    subst e
    exact h_s (cE (by ((try simp only [nc] at *); omega)))
   ·push_cast; rfl
  ·rfl
 ·have hc : gcheckM g ≠ 0 := by unfold gcheckM; split <;> simp [hgo]
  refine Pure.go (ty := ty) ty_eq mo Tryz.func3 rfl Tryz.ntmps3 Tryz.results3 Tryz.call3 (by simp) fun P C CQ D W F E hF => ?_
  cbv
  repeat' (first
   | (refine E.c (SCalls.of_le (kc) ?_ ?_); (· (cbv; (try simp only [nc] at *); first | done | (simp; done) | (simp (disch := (first | omega | (simp only [lnS, zA, zM, zG, zP]; omega))) only [nc, nct, w64_of, zT, zZ, zM, rdS, at_agg, bofZ, bof1, bof0, zC, zS, implies_true, and_true, true_and, forall_const]; first | done | omega | (refine ⟨?_, ?_⟩ <;> omega)) | (simp (disch := (first | omega | (simp only [lnS, zA, zM, zG, zP]; omega))) [nc, nct, w64_of, zT, zZ, zM, rdS, at_agg, bofZ, bof1, bof0, zC, zS]; done))); cbv)
   | (refine E.c (SCalls.of_le (ki) ?_ ?_); (· (cbv; (try simp only [nc] at *); first | done | (simp; done) | (simp (disch := (first | omega | (simp only [lnS, zA, zM, zG, zP]; omega))) only [nc, nct, w64_of, zT, zZ, zM, rdS, at_agg, bofZ, bof1, bof0, zC, zS, implies_true, and_true, true_and, forall_const]; first | done | omega | (refine ⟨?_, ?_⟩ <;> omega)) | (simp (disch := (first | omega | (simp only [lnS, zA, zM, zG, zP]; omega))) [nc, nct, w64_of, zT, zZ, zM, rdS, at_agg, bofZ, bof1, bof0, zC, zS]; done))); cbv)
   | (refine E.c (SCalls.of_le (kv) ?_ ?_); (· (cbv; (try simp only [nc] at *); first | done | (simp; done) | (simp (disch := (first | omega | (simp only [lnS, zA, zM, zG, zP]; omega))) only [nc, nct, w64_of, zT, zZ, zM, rdS, at_agg, bofZ, bof1, bof0, zC, zS, implies_true, and_true, true_and, forall_const]; first | done | omega | (refine ⟨?_, ?_⟩ <;> omega)) | (simp (disch := (first | omega | (simp only [lnS, zA, zM, zG, zP]; omega))) [nc, nct, w64_of, zT, zZ, zM, rdS, at_agg, bofZ, bof1, bof0, zC, zS]; done))); cbv)
   | (refine ⟨fun _ h_s => ?_, fun _ h_s => ?_⟩ <;> (cbv; (try simp only [nc] at *); try simp (disch := (first | omega | (simp only [lnS, zA, zM, zG, zP]; omega))) only [nc, nct, w64_of, zT, zZ, zM, rdS, at_agg, bofZ, bof1, bof0, zC, zS, reduceCtorEq, Bool.not_true, Bool.not_false, zD, zE, zB, zF, zN, zO, ne_eq, zQ, zL, zR, beq_iff_eq] at h_s))
   | (refine hF ?_; intro _; clear hF)
   | (refine hF ?_; cbv; clear hF)
   | (refine ⟨fun _ => ?_, ?_⟩; (· ((try simp only [nc] at *); first | done | omega | exact ⟨by omega, rfl⟩ | (simp (disch := (first | omega | (simp only [lnS, zA, zM, zG, zP]; omega))) only [nc, nct, w64_of, zT, zZ, zM, rdS, at_agg, bofZ, bof1, bof0, zC, zS]; first | done | omega | rfl | exact ⟨by omega, rfl⟩ | (simp; done) | (simp; omega)) | (intros; trivial))); (try (simp only [nc] at *)); (try simp (disch := (first | omega | (simp only [lnS, zA, zM, zG, zP]; omega))) only [nc, nct, w64_of, zT, zZ, zM, rdS, at_agg, bofZ, bof1, bof0, zC, zS]); (try cbv))
   | (refine E.d 5 (by decide +kernel) ?_; cbv; (fail_if_success guard_target =~ False))
   | (refine E.d 22 (by decide +kernel) ?_; cbv; (fail_if_success guard_target =~ False))
   | fail
  )
  all_goals first
   | rfl
   | (exfalso; ((try simp only [nc] at *); omega))
   | exact absurd h_s hc
end Go.AL.Rl

namespace Go.AL
open Go Go.RowKit Go.ChangeShapes Go.WideShapes

section
variable {H : Type} {enc : TypeId × Value → H} {P : Program} {w : World} {spare : Nat → Bool} {held : Bool}

abbrev Old (w : World) : Nat → Prop := fun k => k < w.heap.size

/-- Whatever reads by the type 't' is told by an 'a'. -/
def Dec (P : Program) (t : TypeId) (α : Type) (en : α → List AV) (ok : α → Prop) : Prop :=
 ∀ {H : Type} (enc : TypeId × Value → H) (w : World) (spare : Nat → Bool) (held : Bool) (fuel : Nat) (cs : List Value) (x : DataW H × List MemPlace),
  DataW.trod enc P w 0 spare held fuel t cs = some x → ∃ a, ok a ∧ Rs (Old w) w none (en a) cs

theorem Dec.int {t : TypeId} (ht : P.underlying t = some (.int .i64)) : Dec P t Int (fun n => [.i fun _ => n]) fun n => -9223372036854775808 ≤ n ∧ n ≤ 9223372036854775807 := by
 intro H enc w spare held fuel cs x h
 obtain ⟨n, rfl, _, h2⟩ := DataW.trod_int ht h
 exact ⟨n, bounds_i64 h2, _, _, rfl, rfl, rfl⟩
theorem Dec.u64 {t : TypeId} (ht : P.underlying t = some (.int .u64)) : Dec P t (BitVec 64) (fun n => [.u fun _ => n]) fun _ => True := by
 intro H enc w spare held fuel cs x h
 obtain ⟨n, rfl, _, h2⟩ := DataW.trod_int ht h
 have := bounds_u64 h2
 refine ⟨BitVec.ofInt 64 n, trivial, _, _, rfl, ?_, rfl⟩
 simp only [R]
 congr 1
 simp only [BitVec.toNat_ofInt]
 omega
theorem Dec.bool {t : TypeId} (ht : P.underlying t = some .bool) : Dec P t Bool (fun b => [.b fun _ => b]) fun _ => True := by
 intro H enc w spare held fuel cs x h
 obtain ⟨b, rfl, _⟩ := DataW.trod_bool ht h
 exact ⟨b, trivial, _, _, rfl, rfl, rfl⟩

theorem cells?_get {w : World} {a : Addr} {n : Nat} {cs : List Value} (h : w.cells? 0 a n = some cs) : cs.length = n ∧ ∀ (i : Nat) (c : Value), cs[i]? = some c → w.cell? (a.add i) = some c := by
 simp only [World.cells?, Nat.zero_le, if_true] at h
 have hl : cs.length = n := by have := mapM_some_length h; simpa using this
 refine ⟨hl, fun i c hc => ?_⟩
 have hi : i < n := by have := (List.getElem?_eq_some_iff.1 hc).1; omega
 rw [mapM_some_get h i i (by simp [hi])]; exact hc

theorem list_of_all {α β : Type} {R' : α → β → Prop} : ∀ (l : List β), (∀ b ∈ l, ∃ a, R' a b) → ∃ r : List α, r.length = l.length ∧ ∀ (i : Nat) (a : α) (b : β), r[i]? = some a → l[i]? = some b → R' a b
 | [], _ => ⟨[], rfl, fun i a b h => by simp at h⟩
 | b :: l, h => by
  obtain ⟨a, ha⟩ := h b (by simp)
  obtain ⟨r, h1, h2⟩ := list_of_all l fun b hb => h b (by simp [hb])
  refine ⟨a :: r, by simp [h1], fun i a' b' ha' hb' => ?_⟩
  cases i with
  | zero => simp at ha' hb'; subst ha'; subst hb'; exact ha
  | succ i => exact h2 i a' b' (by simpa using ha') (by simpa using hb')

/-- the elements' values: 'mk' is '.agg' or the one cell -/
structure Elem (mk : List AV → AV) (k : Nat) : Prop where
 val : ∀ {S : Nat → Prop} {w : World} {l : List AV} {cs : List Value}, cs.length = k → l.all AV.one = true → Rs S w none l cs → ∃ v, v.cells.toList = cs ∧ R S w none (mk l) v
theorem Elem.agg (k : Nat) : Elem .agg k := ⟨fun {S w l cs} _ _ h => ⟨.agg cs.toArray, by simp [Value.cells], cs, rfl, h⟩⟩
theorem Elem.one : Elem (fun l => l.headD .any) 1 := ⟨fun {S w l cs} hl h1 h => by
 match cs, hl with
 | [c], _ =>
  match l, h with
  | x :: _, ⟨v, _, e, hx, hr⟩ =>
   cases e
   simp only [List.all_cons, Bool.and_eq_true] at h1
   exact ⟨c, by rw [cells_of_one (R_one hx h1.1)], hx⟩⟩

theorem Dec.slice {t e : TypeId} (ht : P.underlying t = some (.slice e)) {k : Nat} (hk : P.cellsOf e = k) (hk0 : 0 < k) {α : Type} {en : α → List AV} {ok : α → Prop} {mk : List AV → AV} (he : Dec P e α en ok) (hone : ∀ a, (en a).all AV.one = true) (hm : Elem mk k) :
  Dec P t (List α) (fun l => [.vs k fun _ => LV.of (l.map fun a => mk (en a))]) fun l => l.length ≤ maxLen ∧ ∀ a ∈ l, ok a := by
 subst hk
 intro H enc w spare held fuel cs x h
 rcases DataW.trod_slice ht h with ⟨rfl, _⟩ | ⟨a, len, cap, elems, rest, n, rfl, rfl, rfl, _, h2, h3, h4, h5, _⟩
 ·exact ⟨[], ⟨by simp, by simp⟩, _, _, rfl, ⟨none, 0, [], rfl, Nat.le_refl _, rfl, .inl rfl⟩, rfl⟩
 ·have key : ∀ i : Nat, i < len → ∃ (c : List Value) (a' : α), w.cells? 0 (a.add (i * P.cellsOf e)) (P.cellsOf e) = some c ∧ ok a' ∧ Rs (Old w) w none (en a') c := by
   intro i hi
   have := h5 i hi
   rw [List.getElem?_eq_getElem (by omega)] at this
   simp only [Option.bind_eq_some_iff] at this
   obtain ⟨c, hc, hd⟩ := this
   obtain ⟨a', ha, hr⟩ := he _ _ _ _ _ _ _ hd
   exact ⟨c, a', hc, ha, hr⟩
  have hlist := list_of_all (R' := fun (q : α × Value) (i : Nat) => ok q.1 ∧ q.2.cells.size = P.cellsOf e ∧ (∀ (j : Nat) (c : Value), q.2.cells[j]? = some c → w.cell? ((a.add (i * P.cellsOf e)).add j) = some c) ∧ R (Old w) w none (mk (en q.1)) q.2) (List.range len) fun i hi => by
   obtain ⟨c, a', hc, ha, hr⟩ := key i (by simpa using hi)
   obtain ⟨hl, hg⟩ := cells?_get hc
   obtain ⟨v, hv, hr'⟩ := hm.val hl (hone a') hr
   refine ⟨(a', v), ha, by rw [← Array.length_toList, hv]; exact hl, fun j c' hj => hg j c' ?_, hr'⟩
   rw [← hv]; simpa using hj
  obtain ⟨qs, hq1, hq2⟩ := hlist
  rw [List.length_range] at hq1
  have hq : ∀ (i : Nat) (q : α × Value), qs[i]? = some q → ok q.1 ∧ q.2.cells.size = P.cellsOf e ∧ (∀ (j : Nat) (c : Value), q.2.cells[j]? = some c → w.cell? ((a.add (i * P.cellsOf e)).add j) = some c) ∧ R (Old w) w none (mk (en q.1)) q.2 := fun i q hi =>
   hq2 i q i hi (by
    have := (List.getElem?_eq_some_iff.1 hi).1
    rw [List.getElem?_range (by omega)])
  refine ⟨qs.map (·.1), ⟨by simp; omega, fun a' ha' => ?_⟩, _, _, rfl, ⟨some a, cap, qs.map (·.2), by simp [hq1], by simp; omega, ?_, ?_⟩, rfl⟩
  ·obtain ⟨q, hqm, rfl⟩ := List.mem_map.1 ha'
   obtain ⟨i, hi, rfl⟩ := List.mem_iff_getElem.1 hqm
   exact (hq i _ (List.getElem?_eq_getElem hi)).1
  ·rw [RL_iff, LV.l_of, Rs_iff]
   refine ⟨by simp, fun i c v hc hv => ?_⟩
   simp only [List.map_map, List.getElem?_map, Option.map_eq_some_iff] at hc hv
   obtain ⟨q, hq', rfl⟩ := hc
   obtain ⟨q', hq'', rfl⟩ := hv
   rw [hq'] at hq''; cases hq''
   exact (hq i q hq').2.2.2
  ·cases hqs : qs with
   | nil => exact .inl rfl
   | cons q0 qr =>
    right
    have hlen : 0 < len := by rw [← hq1, hqs]; simp
    obtain ⟨_, hsz, hcell, _⟩ := hq 0 q0 (by rw [hqs]; rfl)
    have hc0 : ∃ c, q0.2.cells[0]? = some c := ⟨_, Array.getElem?_eq_getElem (by omega)⟩
    obtain ⟨c, hc⟩ := hc0
    have hw := hcell 0 c hc
    have ha0 : a.spot = none ∧ a.block < w.heap.size := by
     simp only [Nat.zero_mul, Addr.add, if_true] at hw
     unfold World.cell? at hw
     split at hw
     ·rename_i hb
      split at hw
      ·cases hw
      ·rename_i hs
       exact ⟨by simpa using hs, (Array.getElem?_eq_some_iff.1 hb).1⟩
     ·cases hw
    refine ⟨a, rfl, ha0.1, ha0.2, fun i ev hi => ?_⟩
    rw [← hqs] at hi
    simp only [List.getElem?_map, Option.map_eq_some_iff] at hi
    obtain ⟨q, hq', rfl⟩ := hi
    obtain ⟨_, h1, h2, _⟩ := hq i q hq'
    refine ⟨h1, fun j c hj => ?_⟩
    have := h2 j c hj
    have ea : (a.add (i * P.cellsOf e)).add j = ⟨a.block, a.off + (i * P.cellsOf e + j), none⟩ := by
     obtain ⟨b, o, s⟩ := a
     simp only at ha0
     obtain ⟨rfl, _⟩ := ha0
     simp only [Addr.add]
     by_cases h0 : i * P.cellsOf e = 0 <;> by_cases h1 : j = 0 <;> simp [h0, h1] <;> omega
    rw [← ea]; exact this

/-- fields, one behind the other -/
theorem Dec.fields {t : TypeId} {fs : List Field} {a : Array Field} (ht : P.underlying t = some (.struct a)) (hfs : a.toList = fs) {α : Type} {en : α → List AV} {ok : α → Prop}
  (h : ∀ {H : Type} (enc : TypeId × Value → H) (w : World) (spare : Nat → Bool) (held : Bool) (n : Nat) (cs : List Value), cs.length = P.cellsOf t →
   (∀ f ∈ fs, ∃ x, DataW.trod enc P w 0 spare held n f.type ((cs.drop f.offset).take (P.cellsOf f.type)) = some x) → ∃ a, ok a ∧ Rs (Old w) w none (en a) cs) : Dec P t α en ok := by
 intro H enc w spare held fuel cs x hx
 obtain ⟨xs, n, rfl, rfl, h1, h2, h3⟩ := DataW.trod_struct ht hx
 refine h enc w spare held n cs h1 fun f hf => ?_
 rw [← hfs] at hf
 obtain ⟨i, hi, rfl⟩ := List.mem_iff_getElem.1 hf
 have hi' : i < a.size := by simpa using hi
 have := h3 i a[i] (Array.getElem?_eq_getElem hi')
 rw [List.getElem?_eq_getElem (by omega)] at this
 exact ⟨_, by simpa using this⟩
theorem cut3 (cs : List Value) (o s n : Nat) (h : cs.length = n) (ho : o + s = n) : cs = cs.take o ++ (cs.drop o).take s := by
 have : (cs.drop o).take s = cs.drop o := List.take_of_length_le (by simp; omega)
 rw [this, List.take_append_drop]

theorem Dec.struct2 {t : TypeId} {a : Array Field} (ht : P.underlying t = some (.struct a)) {t0 t1 : TypeId} {s0 s1 : Nat} (hfs : a.toList.map (fun f => (f.type, f.offset)) = [(t0, 0), (t1, s0)]) (h0 : P.cellsOf t0 = s0) (h1 : P.cellsOf t1 = s1) (hs : P.cellsOf t = s0 + s1)
  {α β : Type} {e0 : α → List AV} {e1 : β → List AV} {k0 : α → Prop} {k1 : β → Prop} (d0 : Dec P t0 α e0 k0) (d1 : Dec P t1 β e1 k1) : Dec P t (α × β) (fun p => e0 p.1 ++ e1 p.2) fun p => k0 p.1 ∧ k1 p.2 := by
 refine Dec.fields ht rfl fun {H} enc w spare held n cs hl hf => ?_
 have get : ∀ t o, (t, o) ∈ a.toList.map (fun f => (f.type, f.offset)) → ∃ x, DataW.trod enc P w 0 spare held n t ((cs.drop o).take (P.cellsOf t)) = some x := fun t o hm => by
  obtain ⟨f, hf1, hf2⟩ := List.mem_map.1 hm
  cases hf2
  exact hf f hf1
 rw [hfs] at get
 obtain ⟨x0, g0⟩ := get t0 0 (by simp)
 obtain ⟨x1, g1⟩ := get t1 s0 (by simp)
 obtain ⟨a0, o0, r0⟩ := d0 _ _ _ _ _ _ _ g0
 obtain ⟨a1, o1, r1⟩ := d1 _ _ _ _ _ _ _ g1
 refine ⟨(a0, a1), ⟨o0, o1⟩, ?_⟩
 rw [cut3 cs s0 s1 _ (hl.trans hs) rfl]
 rw [h0] at r0; rw [h1] at r1
 exact Rs_append (by simpa using r0) r1

theorem trodAll_len {W : World} {b : Nat} : ∀ {ts : List TypeId} {vs : List Value} {ds : List (DataW H)} {p : List MemPlace}, DataW.TrodAll enc P W b spare held ts vs ds p → ds.length = ts.length
 | [], [], [], _, _ => rfl
 | _ :: _, _ :: _, _ :: _, _, ⟨_, _, _, h, _⟩ => by simp [trodAll_len h]
 | [], [], _ :: _, _, h => h.elim
 | [], _ :: _, _, _, h => h.elim
 | _ :: _, [], _, _, h => h.elim
 | _ :: _, _ :: _, [], _, h => h.elim
theorem trodAll_carry {W W' : World} (hq : ∀ k, k < W.heap.size → W'.heap[k]? = W.heap[k]?) : ∀ {ts : List TypeId} {vs : List Value} {ds : List (DataW H)} {p : List MemPlace},
  DataW.TrodAll enc P W 0 spare held ts vs ds p → (∀ p' ∈ p, p'.block < W.heap.size) → DataW.TrodAll enc P W' 0 spare held ts vs ds p
 | [], [], [], _, h, _ => h
 | _ :: _, _ :: _, _ :: _, _, ⟨p0, q0, ⟨n, h1⟩, h2, e⟩, lt => by
  subst e
  refine ⟨p0, q0, ⟨n, DataW.trod_carry _ _ _ _ h1 fun pl hpl => ?_⟩, trodAll_carry hq h2 fun p' hp => lt p' (List.mem_append_right _ hp), rfl⟩
  have hlt := lt pl (List.mem_append_left _ hpl)
  cases pl with
  | cell b off => exact World.cell?_of_block (hq b hlt)
  | map b => exact hq b hlt
 | [], [], _ :: _, _, h, _ => h.elim
 | [], _ :: _, _, _, h, _ => h.elim
 | _ :: _, [], _, _, h, _ => h.elim
 | _ :: _, _ :: _, [], _, h, _ => h.elim
theorem post_true {H : Type} {enc : TypeId × Value → H} {f : Func} {s : ChangeSpec} {W W' : World} {args : Array Value} {ds gs : List (DataW H)} {before : List MemPlace} {tb : TypeId}
  (hW : DataW.Whole enc P f.params.toList s.vars false W args.toList ds gs before) (hv : s.vars = []) (hres : f.resultTypes = #[tb]) (htb : P.underlying tb = some .bool)
  (hs : ∀ ds' : List (DataW H), ds'.length = f.params.size → s.fn H ds' = { results := [.lit (.bool true)], args := ds' })
  (hl : laidOutB P = true) (hm : mapsRowed P = true) (hz : ((List.range P.types.size).all fun t => match P.underlying t with | some (.slice e) => decide (0 < P.cellsOf e) | _ => true) = true) (hT : ∀ t ∈ f.params.toList, t < P.types.size)
  (hq : ∀ k, k < W.heap.size → W'.heap[k]? = W.heap[k]?) (fr : Fr W W') : s.post enc P f false true false false W args (.bool true) W' := by
 have hW' := hW
 obtain ⟨p, q, hA, hV, rfl, hfz, hnd⟩ := hW
 rw [hv] at hV
 obtain ⟨rfl, rfl⟩ := trodVars_none hV
 have hlen : ds.length = f.params.size := by have := trodAll_len hA; simpa using this
 have hsd := hs (ds ++ []) (by simpa using hlen)
 have hall : ∀ (b : Nat) (sp : Nat → Bool) (hd : Bool), DataW.TrodAll enc P W' b sp hd [tb] [.bool true] [.lit (.bool true)] [] := fun b sp hd => ⟨[], [], ⟨1, by simp [DataW.trod, htb, Value.cells]⟩, rfl, rfl⟩
 refine post_of_same (pa := p) (pv := []) hW' (fun b sp hd => ?_) (fun sp hsp => ?_) (fun sp _ => ?_) (by simp) ?_ fr.frozen ?_
 ·rw [hsd, hres]; exact hall b sp hd
 ·rw [hsd]
  simp only [List.append_nil]
  have carry : DataW.TrodAll enc P W' 0 (fun _ => true) true f.params.toList args.toList ds p := trodAll_carry hq hA fun p' hp => hW'.lt p' (by simpa using hp)
  exact carry.respare (kids_rows hl hm) (fun t e ht hu => slices_full_of P hz t e ht hu) hT fun p' hp => hsp p' (by simpa using hp)
 ·rw [hsd, hv]; rfl
 ·refine ⟨fr.os, fr.output, fun i hi => ?_⟩
  rw [hq i hi]
  cases h : W.heap[i]? with
  | none => trivial
  | some o => cases o <;> simp
 ·exact ok_one hres rfl (okWide_bool_mk htb _)

def Arg (P : Program) (t : TypeId) (α : Type) (en : α → AV) (ok : α → Prop) : Prop :=
 ∀ {H : Type} (enc : TypeId × Value → H) (W : World) (base : Nat) (v : Value) (d : DataW H) (p : List MemPlace), Value.okWide P W .any base t v → DataW.Trod enc P W 0 (fun _ => true) true t v d p → ∃ a, ok a ∧ R (Old W) W none (en a) v
theorem Arg.agg {t : TypeId} {a : Array Field} (ht : P.underlying t = some (.struct a)) {α : Type} {en : α → List AV} {ok : α → Prop} (h : Dec P t α en ok) : Arg P t α (fun a => .agg (en a)) ok := by
 intro H enc W base v d p hok ⟨n, hn⟩
 simp only [Value.okWide, ht] at hok
 obtain ⟨cs, rfl, _⟩ := hok
 obtain ⟨x, h1, h2⟩ := h _ _ _ _ _ _ _ hn
 exact ⟨x, h1, cs.toList, by simp, by simpa [Value.cells] using h2⟩
theorem Arg.one {t : TypeId} {k : TypeDesc} (ht : P.underlying t = some k) (hk : match k with | .int _ | .bool | .slice _ => True | _ => False) {α : Type} {en : α → AV} {ok : α → Prop} (h : Dec P t α (fun a => [en a]) ok) : Arg P t α en ok := by
 intro H enc W base v d p hok ⟨n, hn⟩
 obtain ⟨x, h1, y, ys, h2, h3, h4⟩ := h _ _ _ _ _ _ _ hn
 have h4 : ys = [] := h4
 subst h4
 have hv : v = y := by
  cases v
  case agg cs => cases k <;> first | exact hk.elim | simp [Value.okWide, ht, Cell.okWide, Cell.ok] at hok
  all_goals (simp [Value.cells] at h2; exact h2)
 subst hv
 exact ⟨x, h1, h3⟩

/-- A LAW, from its contract. -/
theorem law_true {γ : Nat → Option AV} {f : FuncId} {fn : Func} {s : ChangeSpec} {W : World} {args : Array Value} {ds gs : List (DataW H)} {before : List MemPlace} {tb : TypeId} {avs : List AV} (hp : Pure P γ false f avs (.b fun _ => true)) (hr : Rs (Old W) W none avs args.toList)
  (hγ : ∀ g x, γ g = some x → R (Old W) W none (.vp (fun _ => x) 0) (.pointer (some ⟨g, 0, none⟩)))
  (hW : DataW.Whole enc P fn.params.toList s.vars false W args.toList ds gs before) (hv : s.vars = []) (hres : fn.resultTypes = #[tb]) (htb : P.underlying tb = some .bool)
  (hs : ∀ ds' : List (DataW H), ds'.length = fn.params.size → s.fn H ds' = { results := [.lit (.bool true)], args := ds' })
  (hl : laidOutB P = true) (hm : mapsRowed P = true) (hz : ((List.range P.types.size).all fun t => match P.underlying t with | some (.slice e) => decide (0 < P.cellsOf e) | _ => true) = true) (hT : ∀ t ∈ fn.params.toList, t < P.types.size) :
  Calls P f args W fun e W' => ∃ v, e = .returned v ∧ s.post enc P fn false true false false W args v W' := by
 have := hp.2 (Old W) W args.toList (fun k hk => hk) hγ hr
 refine (this.mono fun e w' ⟨v', S', h1, h2, h3⟩ => ?_)
 have h2 : v' = .bool true := h2
 subst h2
 exact ⟨_, h1, post_true hW hv hres htb hs hl hm hz hT h3.same h3.fr⟩
end
end Go.AL

namespace Go.AL
open Go Go.RowKit Go.ChangeShapes Go.WideShapes
section
variable {P : Program}
theorem Dec.imap {t : TypeId} {α β : Type} {en : α → List AV} {ok : α → Prop} {en' : β → List AV} {ok' : β → Prop} (d : Dec P t α en ok) (f : α → β) (he : ∀ a, en a = en' (f a)) (hk : ∀ a, ok a → ok' (f a)) : Dec P t β en' ok' := by
 intro H enc w spare held fuel cs x h
 obtain ⟨a, h1, h2⟩ := d _ _ _ _ _ _ _ h
 exact ⟨f a, hk a h1, by rw [← he]; exact h2⟩
theorem Dec.struct4 {t : TypeId} {a : Array Field} (ht : P.underlying t = some (.struct a)) {t0 t1 t2 t3 : TypeId} (hfs : a.toList.map (fun f => (f.type, f.offset)) = [(t0, 0), (t1, 1), (t2, 2), (t3, 3)])
  (h0 : P.cellsOf t0 = 1) (h1 : P.cellsOf t1 = 1) (h2 : P.cellsOf t2 = 1) (h3 : P.cellsOf t3 = 1) (hs : P.cellsOf t = 4)
  {A0 A1 A2 A3 : Type} {e0 : A0 → List AV} {e1 : A1 → List AV} {e2 : A2 → List AV} {e3 : A3 → List AV} {k0 : A0 → Prop} {k1 : A1 → Prop} {k2 : A2 → Prop} {k3 : A3 → Prop}
  (d0 : Dec P t0 A0 e0 k0) (d1 : Dec P t1 A1 e1 k1) (d2 : Dec P t2 A2 e2 k2) (d3 : Dec P t3 A3 e3 k3) :
  Dec P t (A0 × A1 × A2 × A3) (fun p => e0 p.1 ++ (e1 p.2.1 ++ (e2 p.2.2.1 ++ e3 p.2.2.2))) fun p => k0 p.1 ∧ k1 p.2.1 ∧ k2 p.2.2.1 ∧ k3 p.2.2.2 := by
 refine Dec.fields ht rfl fun {H} enc w spare held n cs hl hf => ?_
 have get : ∀ t o, (t, o) ∈ a.toList.map (fun f => (f.type, f.offset)) → ∃ x, DataW.trod enc P w 0 spare held n t ((cs.drop o).take (P.cellsOf t)) = some x := fun t o hm => by
  obtain ⟨f, hf1, hf2⟩ := List.mem_map.1 hm
  cases hf2
  exact hf f hf1
 rw [hfs] at get
 rw [hs] at hl
 match cs, hl with
 | [c0, c1, c2, c3], _ =>
  obtain ⟨x0, g0⟩ := get t0 0 (by simp)
  obtain ⟨x1, g1⟩ := get t1 1 (by simp)
  obtain ⟨x2, g2⟩ := get t2 2 (by simp)
  obtain ⟨x3, g3⟩ := get t3 3 (by simp)
  obtain ⟨a0, o0, r0⟩ := d0 _ _ _ _ _ _ _ g0
  obtain ⟨a1, o1, r1⟩ := d1 _ _ _ _ _ _ _ g1
  obtain ⟨a2, o2, r2⟩ := d2 _ _ _ _ _ _ _ g2
  obtain ⟨a3, o3, r3⟩ := d3 _ _ _ _ _ _ _ g3
  rw [h0] at r0; rw [h1] at r1; rw [h2] at r2; rw [h3] at r3
  exact ⟨(a0, a1, a2, a3), ⟨o0, o1, o2, o3⟩, Rs_append (vals := [c0]) r0 (Rs_append (vals := [c1]) r1 (Rs_append (vals := [c2]) r2 r3))⟩
theorem Dec.struct5 {t : TypeId} {a : Array Field} (ht : P.underlying t = some (.struct a)) {e f : TypeId} (hfs : a.toList.map (fun f => (f.type, f.offset)) = [(e, 0), (e, 1), (e, 2), (f, 3), (f, 4)])
  (h0 : P.cellsOf e = 1) (h1 : P.cellsOf f = 1) (hs : P.cellsOf t = 5) {A0 : Type} {e0 : A0 → List AV} {k0 : A0 → Prop} (d0 : Dec P e A0 e0 k0) (d1 : Dec P f A0 e0 k0) :
  Dec P t (A0 × A0 × A0 × A0 × A0) (fun p => e0 p.1 ++ (e0 p.2.1 ++ (e0 p.2.2.1 ++ (e0 p.2.2.2.1 ++ e0 p.2.2.2.2)))) fun p => k0 p.1 ∧ k0 p.2.1 ∧ k0 p.2.2.1 ∧ k0 p.2.2.2.1 ∧ k0 p.2.2.2.2 := by
 refine Dec.fields ht rfl fun {H} enc w spare held n cs hl hf => ?_
 have get : ∀ t o, (t, o) ∈ a.toList.map (fun f => (f.type, f.offset)) → ∃ x, DataW.trod enc P w 0 spare held n t ((cs.drop o).take (P.cellsOf t)) = some x := fun t o hm => by
  obtain ⟨f, hf1, hf2⟩ := List.mem_map.1 hm
  cases hf2
  exact hf f hf1
 rw [hfs] at get
 rw [hs] at hl
 match cs, hl with
 | [c0, c1, c2, c3, c4], _ =>
  obtain ⟨x0, g0⟩ := get e 0 (by simp)
  obtain ⟨x1, g1⟩ := get e 1 (by simp)
  obtain ⟨x2, g2⟩ := get e 2 (by simp)
  obtain ⟨x3, g3⟩ := get f 3 (by simp)
  obtain ⟨x4, g4⟩ := get f 4 (by simp)
  obtain ⟨a0, o0, r0⟩ := d0 _ _ _ _ _ _ _ g0
  obtain ⟨a1, o1, r1⟩ := d0 _ _ _ _ _ _ _ g1
  obtain ⟨a2, o2, r2⟩ := d0 _ _ _ _ _ _ _ g2
  obtain ⟨a3, o3, r3⟩ := d1 _ _ _ _ _ _ _ g3
  obtain ⟨a4, o4, r4⟩ := d1 _ _ _ _ _ _ _ g4
  rw [h0] at r0 r1 r2; rw [h1] at r3 r4
  exact ⟨(a0, a1, a2, a3, a4), ⟨o0, o1, o2, o3, o4⟩, Rs_append (vals := [c0]) r0 (Rs_append (vals := [c1]) r1 (Rs_append (vals := [c2]) r2 (Rs_append (vals := [c3]) r3 r4)))⟩
end
end Go.AL

namespace Go.AL.Rl
open Go Go.AL Go.Proofs Go.RowKit Go.ChangeShapes Go.WideShapes Go.ChangeAt Go.Proofs.YtefobdmgflipjaaGreatDoor
set_option maxRecDepth 100000

theorem laidOut : laidOutB Tryz.prog = true := by kernel_rfl
theorem mapsOk : mapsRowed Tryz.prog = true := by kernel_rfl
theorem slicesOk : ((List.range Tryz.prog.types.size).all fun t => match Tryz.prog.underlying t with | some (.slice e) => decide (0 < Tryz.prog.cellsOf e) | _ => true) = true := by kernel_rfl

theorem own : ownKnob Tryz.prog.godebug = none := by kernel_rfl
theorem gTab : Tryz.prog.globalNamed "math/bits.deBruijn64tab" = some 0 := by kernel_rfl
def γ0 : Nat → Option AV := fun g => if g = 0 then some tabAV else none
theorem table {W : World} {laid : List (String × DataW Unit)} (hl : laid = [("math/bits.deBruijn64tab", Rows.laid_math_bits_deBruijn64tab)]) (h : laidMet Tryz.prog laid W) : Lib.TabIs Tryz.prog W "math/bits.deBruijn64tab" .u8 (Lib.deBruijn64tab.map fun (n : Nat) => (n : Int)) := by
 subst hl
 exact Lib.tabIs_of_head (rest := []) gTab (t := 103) (by kernel_rfl) Tryz.underlying103 Tryz.underlying5 (by kernel_rfl) (by kernel_rfl) h
theorem gok0 {W : World} (h : Lib.TabIs Tryz.prog W "math/bits.deBruijn64tab" .u8 (Lib.deBruijn64tab.map fun (n : Nat) => (n : Int))) : ∀ g x, γ0 g = some x → R (Old W) W none (.vp (fun _ => x) 0) (.pointer (some ⟨g, 0, none⟩)) := by
 intro g x hg
 unfold γ0 at hg
 split at hg
 ·rename_i h0
  subst h0
  cases hg
  have hc := fun i hi => h.cell gTab i hi
  have hlen : Lib.deBruijn64tab.length = 64 := by decide
  have hcell : ∀ i : Nat, i < 64 → W.cell? ⟨0, i, none⟩ = some (.int .u8 (Lib.deBruijn64tab.getD i 0 : Nat)) := fun i hi => by
   have := hc i (by rw [List.length_map]; omega)
   rw [this]; congr 2
   simp [hlen, hi]
  have hlt : 0 < W.heap.size := by
   have := hcell 0 (by omega)
   unfold World.cell? at this
   split at this
   ·rename_i hb; exact (Array.getElem?_eq_some_iff.1 hb).1
   ·cases this
  refine ⟨⟨0, 0, none⟩, .agg (Lib.deBruijn64tab.map fun (n : Nat) => Value.int .u8 n).toArray, rfl, ⟨_, rfl, ?_⟩, hlt, fun j c hj => ?_⟩
  ·show Rs _ W none (Lib.deBruijn64tab.map fun (n : Nat) => .raw (.int .u8 n)) _
   generalize Lib.deBruijn64tab = l
   induction l with
   | nil => rfl
   | cons x l ih => exact ⟨_, _, rfl, rfl, ih⟩
  ·have hj' : (Lib.deBruijn64tab.map fun (n : Nat) => Value.int .u8 n)[j]? = some c := by simpa [Value.cells] using hj
   have hj2 : j < 64 := by have := (List.getElem?_eq_some_iff.1 hj').1; rw [List.length_map] at this; omega
   rw [Nat.zero_add, hcell j hj2, ← hj']
   simp [hlen, hj2]
 ·cases hg
theorem dInts : Dec Tryz.prog 22 (List Int) (fun l => [.vs 1 fun _ => is l]) fun l => l.length ≤ maxLen :=
 Dec.imap (Dec.slice Tryz.underlying22 (k := 1) (by kernel_rfl) (by omega) (Dec.int Tryz.underlying2) (fun _ => rfl) Elem.one) id (fun _ => rfl) fun _ h => h.1
theorem dEv : Dec Tryz.prog 47 Ev (fun e => [.i fun _ => e.kind, .i fun _ => e.loc, .i fun _ => e.order, .i fun _ => e.rd, .i fun _ => e.wr]) fun _ => True :=
 Dec.imap (Dec.struct5 Tryz.underlying47 (e := 3) (f := 2) (by kernel_rfl) (by kernel_rfl) (by kernel_rfl) (by kernel_rfl) (Dec.int Tryz.underlying3) (Dec.int Tryz.underlying2)) (fun p => ⟨p.1, p.2.1, p.2.2.1, p.2.2.2.1, p.2.2.2.2⟩) (fun _ => rfl) fun _ _ => trivial
theorem dId : Dec Tryz.prog 41 EId (fun e => [.i fun _ => e.t, .i fun _ => e.i]) fun _ => True :=
 Dec.imap (Dec.struct2 Tryz.underlying41 (t0 := 3) (t1 := 3) (s0 := 1) (s1 := 1) (by kernel_rfl) (by kernel_rfl) (by kernel_rfl) (by kernel_rfl) (Dec.int Tryz.underlying3) (Dec.int Tryz.underlying3)) (fun p => ⟨p.1, p.2⟩) (fun _ => rfl) fun _ _ => trivial
theorem dEvs : Dec Tryz.prog 44 (List Ev) (fun l => [.vs 5 fun _ => evs l]) fun l => l.length ≤ maxLen :=
 Dec.imap (Dec.slice Tryz.underlying44 (k := 5) (by kernel_rfl) (by omega) dEv (fun _ => rfl) (Elem.agg 5)) id (fun _ => rfl) fun _ h => h.1
theorem dIds : Dec Tryz.prog 27 (List EId) (fun l => [.vs 2 fun _ => ids l]) fun l => l.length ≤ maxLen :=
 Dec.imap (Dec.slice Tryz.underlying27 (k := 2) (by kernel_rfl) (by omega) dId (fun _ => rfl) (Elem.agg 2)) id (fun _ => rfl) fun _ h => h.1
theorem dEvss : Dec Tryz.prog 23 (List (List Ev)) (fun l => [.vs 1 fun _ => evss l]) fun l => l.length ≤ maxLen ∧ ∀ a ∈ l, a.length ≤ maxLen :=
 Dec.imap (Dec.slice Tryz.underlying23 (k := 1) (by kernel_rfl) (by omega) dEvs (fun _ => rfl) Elem.one) id (fun _ => rfl) fun _ h => h
theorem dIdss : Dec Tryz.prog 24 (List (List EId)) (fun l => [.vs 1 fun _ => idss l]) fun l => l.length ≤ maxLen ∧ ∀ a ∈ l, a.length ≤ maxLen :=
 Dec.imap (Dec.slice Tryz.underlying24 (k := 1) (by kernel_rfl) (by omega) dIds (fun _ => rfl) Elem.one) id (fun _ => rfl) fun _ h => h
theorem dGr : Dec Tryz.prog 26 Gr (fun g => [.vs 1 fun _ => is g.init, .vs 1 fun _ => evss g.th, .vs 1 fun _ => idss g.fr, .vs 1 fun _ => idss g.ord]) Rd :=
 Dec.imap (Dec.struct4 Tryz.underlying26 (t0 := 22) (t1 := 23) (t2 := 24) (t3 := 24) (by kernel_rfl) (by kernel_rfl) (by kernel_rfl) (by kernel_rfl) (by kernel_rfl) (by kernel_rfl) dInts dEvss dIdss dIdss)
  (fun p => ⟨p.1, p.2.1, p.2.2.1, p.2.2.2⟩) (fun _ => rfl) fun p h => by
   have e : maxLen = 9223372036854775807 := by decide +kernel
   obtain ⟨h0, ⟨h1, h1'⟩, ⟨h2, h2'⟩, h3, h3'⟩ := h
   rw [e] at *
   exact ⟨by dsimp only; omega, by dsimp only; omega, by dsimp only; omega, by dsimp only; omega, fun l hl => by have := h1' l hl; omega, fun l hl => by have := h2' l hl; omega, fun l hl => by have := h3' l hl; omega⟩
theorem aGraph : Arg Tryz.prog 26 Gr aGr Rd := Arg.agg Tryz.underlying26 dGr
/-- A world for the witness: the settled one, the table holding what its initialiser lays. -/
noncomputable def laidWorld (os : Os) : World :=
 { World.holding Tryz.prog os ⟨#[], #[], []⟩ with heap := (World.holding Tryz.prog os ⟨#[], #[], []⟩).heap.modify 0 fun
   | .cells _ t frozen => .cells (Lib.deBruijn64tab.map fun (n : Nat) => Value.int .u8 n).toArray t frozen
   | o => o }

end Go.AL.Rl

namespace Go.AL.Rl
open Go Go.AL Go.Proofs Go.RowKit Go.ChangeShapes Go.WideShapes Go.ChangeAt Go.Proofs.YtefobdmgflipjaaGreatDoor
set_option maxRecDepth 100000
theorem aIds : Arg Tryz.prog 27 (List EId) (fun l => .vs 2 fun _ => ids l) (fun l => (l.length : Int) ≤ 9223372036854775807) := Arg.one Tryz.underlying27 trivial (Dec.imap dIds id (fun _ => rfl) fun l h => by
 have e : maxLen = 9223372036854775807 := by decide +kernel
 rw [e] at h
 show (l.length : Int) ≤ _
 omega)
namespace PrefixKeeps
theorem contract (H : Type) (enc : TypeId × Value → H) (W : World) (base : Nat) (args : Array Value) (ds gs : List (DataW H)) (before : List MemPlace)
  (hval : ∀ (j : Nat) t v, Tryz.f3.params[j]? = some t → args[j]? = some v → Value.okWide Tryz.prog W .any base t v)
  (hW : DataW.Whole enc Tryz.prog Tryz.f3.params.toList Rows.prefixKeepsSpec.vars false W args.toList ds gs before) (hL : laidMet Tryz.prog Rows.prefixKeepsRow.laid W) :
  Calls Tryz.prog 3 args W fun e W' => ∃ v, e = .returned v ∧ Rows.prefixKeepsSpec.post enc Tryz.prog Tryz.f3 false true false false W args v W' := by
 have hW' := hW
 obtain ⟨p, q, hA, hV, rfl, hfz, hnd⟩ := hW
 rw [Tryz.params3] at hA hval
 obtain ⟨v0, vs0, d0, ds0, p0, q0, hargs, rfl, rfl, h0, r0⟩ := trodAll_cons hA
 obtain ⟨v1, vs1, d1, ds1, p1, q1, rfl, rfl, rfl, h1, r1⟩ := trodAll_cons r0
 obtain ⟨rfl, rfl, rfl⟩ := trodAll_nil r1
 obtain rfl : args = #[v0, v1] := by cases args; simp_all
 obtain ⟨x0, k0, a0⟩ := aGraph enc W base v0 d0 p0 (hval 0 _ v0 rfl rfl) h0
 obtain ⟨x1, k1, a1⟩ := aIds enc W base v1 d1 p1 (hval 1 _ v1 rfl rfl) h1
 exact law_true (prefixKeeps_ok (γ := γ0) rfl x0 k0 x1 k1) ⟨_, _, rfl, a0, _, _, rfl, a1, rfl⟩ (gok0 (table rfl hL)) hW' rfl (tb := 4) (by kernel_rfl) Tryz.underlying4
  (fun ds' h => by match ds', h with | [a, b], _ => rfl) laidOut mapsOk slicesOk (by rw [Tryz.params3]; decide +kernel)
theorem laid_met (os : Os) : laidMet Tryz.prog Rows.prefixKeepsRow.laid ((laidWorld os).forCall (fun _ _ => 0) ⟨#[], #[.agg #[.slice none 0 0, .slice none 0 0, .slice none 0 0, .slice none 0 0], .slice none 0 0], []⟩).memory :=
 laidMet_of_run' 8 (by kernel_rfl) (by kernel_rfl)
theorem reads (os : Os) {H : Type} (enc : TypeId × Value → H) : ∃ places, DataW.whole enc Tryz.prog ((laidWorld os).forCall (fun _ _ => 0) ⟨#[], #[.agg #[.slice none 0 0, .slice none 0 0, .slice none 0 0, .slice none 0 0], .slice none 0 0], []⟩).memory Tryz.f3.params.toList Rows.prefixKeepsSpec.vars false (#[.agg #[.slice none 0 0, .slice none 0 0, .slice none 0 0, .slice none 0 0], .slice none 0 0] : Array Value).toList 8 = some ([.agg [.nil, .nil, .nil, .nil], .nil], [], places) :=
 ⟨[], by kernel_rfl⟩
theorem lifted (os : Os) (started : os.Started) (H : Type) (enc : TypeId × Value → H) (F : Stop.Interp) :
  ReturnsInHanded {} Tryz.checked os 3 .any ((OpenSpec.ofChange Rows.prefixKeepsSpec).preRow enc Tryz.prog Tryz.f3 Rows.prefixKeepsRow.domain false Rows.prefixKeepsRow.laid) (((OpenSpec.ofChange Rows.prefixKeepsSpec).at F).post enc Tryz.prog Tryz.f3 false true false false) := by
 obtain ⟨places, hx⟩ := reads os enc
 refine returnsInHanded_of_row (C := Tryz.checked) (s := OpenSpec.ofChange Rows.prefixKeepsSpec) own started (by kernel_rfl) Tryz.func3
  (witness_row_at (enc := enc) (C := Tryz.checked) false (laidWorld os) #[.agg #[.slice none 0 0, .slice none 0 0, .slice none 0 0, .slice none 0 0], .slice none 0 0] rfl (by kernel_rfl) (by kernel_rfl) (by kernel_rfl)
   (OpenSpec.preRow_of_cond 8 hx (by kernel_rfl) (fun k hk => by cases hk) (by kernel_rfl) (laid_met os))) ?_
 intro W base args ds gs before hval hW _ _ _ hL _ _
 exact contract H enc W base args ds gs before hval hW hL
theorem said : Rows.PrefixKeepsSaid :=
 OpenClaim.holds_of_cond 3 Tryz.f3 rfl rfl rfl rfl rfl rfl rfl ⟨rfl, rfl, rfl, rfl, rfl⟩ rfl rfl rfl rfl rfl (by kernel_rfl) Tryz.func3 (by kernel_rfl)
  (of_decide_eq_true (by kernel_rfl)) (by unfold Func.isWrapper; first | (rw [if_pos (by decide +kernel)]; kernel_rfl) | (rw [if_neg (by decide +kernel)]; exact ⟨rfl, rfl⟩))
  (fun os started H enc _ F => by rw [OpenClaim.pre_eq_preRow]; exact lifted os started H enc F)
theorem plain (f : FuncId) (fn : Func) (hf : Tryz.pinned.checked.prog.funcNamed "cantilever/cantileverlaw18.PrefixKeeps" = some f) (hfn : Tryz.pinned.checked.prog.funcs[f]? = some fn) :
  false = Tryz.pinned.checked.prog.looks [] ∧ ∀ (j : Nat) t, fn.params[j]? = some t → Tryz.pinned.checked.prog.wantsStandIn t = false := by
 obtain rfl : f = 3 := Option.some.inj ((show Tryz.prog.funcNamed "cantilever/cantileverlaw18.PrefixKeeps" = some 3 by kernel_rfl).symm.trans hf) |>.symm
 obtain rfl : fn = Tryz.f3 := (Option.some.inj (Tryz.func3.symm.trans hfn)).symm
 refine ⟨by kernel_rfl, fun j t ht => ?_⟩
 have key : ∀ t ∈ (Tryz.f3.params).toList, Tryz.prog.wantsStandIn t = false := by
  rw [Tryz.params3]; decide +kernel
 exact key t (Array.mem_toList_iff.2 (Array.mem_of_getElem? ht))
theorem card : Rows.PrefixKeepsCardSaid :=
 Claim7.holds_tied_plain_at .later [] _ _ _ _ said (fun _ h => by cases h) (by kernel_rfl) (fun _ h => by cases h) prefixKeeps_row_tie rfl ⟨rfl, rfl⟩ (by kernel_rfl) rfl plain (by kernel_rfl)
end PrefixKeeps
end Go.AL.Rl
