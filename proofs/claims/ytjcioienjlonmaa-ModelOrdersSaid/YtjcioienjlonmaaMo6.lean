import Derived.Test.YtjcioienjlonmaaMo5
set_option linter.unusedVariables false
set_option linter.unusedSimpArgs false
namespace Go.AL
open Go Go.RowKit
section
variable {P : Program} {γ : Nat → Option AV}

theorem AWPr.step {n : Nat} {c : Code} {Q : Exit → St → Prop} {A A' : St} (hs : Step γ A A') (h : AWPr P γ n c Q A') : AWPr P γ n c Q A := fun B S ρ a w h0 => by
 obtain ⟨S', ρ', h1, h2⟩ := hs B S ρ a w h0
 exact wp_mono (h B S' ρ' a w h1) fun e a' w' ⟨S'', ρ'', A'', q1, q2, q3⟩ => ⟨S'', ρ'', A'', q1, q2, h2.takeL.transR q3⟩
theorem AWPl.step {n : Nat} {l : List Code} {Q : Exit → St → Prop} {A A' : St} (hs : Step γ A A') (hl : l.isEmpty = false) (h : AWPl P γ n l Q A') : AWPl P γ n l Q A := by
 cases l with
 | nil => cases hl
 | cons c r => exact AWPr.step hs h
section
variable {C : EC} {CQ : List Blk → QC} {T : Nat → TI} {D : Array Oper → (St → Prop) → St → Prop} {W : Code → (Exit → St → Prop) → St → Prop}
/-- to stop behind the first 'k' items -/
theorem Env.at (E : Env P γ C CQ T D W) {n : Nat} {l : List Code} {Q : Exit → St → Prop} {A : St} (k : Nat)
  (h : ∀ I : St → Prop, (∀ {A'}, AWPl P γ n (l.drop k) Q A' → I A') → vcl T γ C D W (l.take k) (thenE I Q) A) : AWPl P γ n l Q A := by
 rw [← List.take_append_drop k l]
 exact AWPl.app ((E.bl (h (fun A' => AWPl P γ n (l.drop k) Q A') fun hl => hl)).mono fun e A' h => by cases e <;> exact h)
end

theorem Step.heap {A : St} {h' : List Blk} (hr : ∀ B S ρ w, HeapR B S γ ρ A.h w → ∃ S' ρ', HeapR B S' γ ρ' h' w ∧ Ext B S ρ w S' ρ' w) : Step γ A ⟨A.n, A.s, h'⟩ := fun B S ρ a w hs => by
 obtain ⟨S', ρ', h1, h2⟩ := hr B S ρ w hs.heap
 exact ⟨S', ρ', hs.ext h2 h1, h2⟩

theorem HeapR.adopt {B : Nat} {S : Nat → Prop} {ρ : List Loc} {h : List Blk} {w : World} (hh : HeapR B S γ ρ h w) (loc : Loc) (blk : Blk) (hsub : loc.sub = [])
  (hk : ∀ K, loc.k = some K → ¬ S K ∧ K < w.heap.size ∧ B ≤ K ∧ ∀ (b : Nat) (l : Loc), ρ[b]? = some l → ¬ l.has K) (hb : BlkR S w (ρ ++ [loc]) loc blk) :
  HeapR B S γ (ρ ++ [loc]) (h ++ [blk]) w ∧ Ext B S ρ w S (ρ ++ [loc]) w := by
 have hup := LocsUp.append ρ [loc]
 have key : ∀ (b : Nat) (lc : Loc), (ρ ++ [loc])[b]? = some lc → (b < ρ.length ∧ ρ[b]? = some lc) ∨ (b = ρ.length ∧ lc = loc) := by
  intro b lc h1
  by_cases hlt : b < ρ.length
  ·rw [List.getElem?_append_left hlt] at h1; exact .inl ⟨hlt, h1⟩
  ·rw [List.getElem?_append_right (by omega)] at h1
   have e1 : b - ρ.length = 0 := by
    have := (List.getElem?_eq_some_iff.1 h1).1; simp at this; omega
   rw [e1] at h1; simp at h1; exact .inr ⟨by omega, h1.symm⟩
 refine ⟨⟨by simp [hh.len], fun b bk lc h1 h2 => ?_, fun b lc K h1 h2 => ?_, fun b b' lc lc' K h1 h2 h3 h4 => ?_, hh.sle, hh.gok, hh.bsz, fun b lc h1 => ?_⟩, Fr.refl w, fun _ _ => rfl, fun _ h => h, fun _ _ => rfl, hup, fun _ h => .inl h⟩
 ·rcases key b lc h2 with ⟨a1, a2⟩ | ⟨a1, rfl⟩
  ·rw [List.getElem?_append_left (by rw [← hh.len]; exact a1)] at h1
   exact (hh.blk b bk lc h1 a2).mono (fun _ h => h) (fun _ _ => rfl) hup fun _ _ => rfl
  ·rw [a1, hh.len] at h1
   simp at h1; subst h1; exact hb
 ·rcases key b lc h1 with ⟨a1, a2⟩ | ⟨a1, rfl⟩
  ·exact hh.own b lc K a2 h2
  ·obtain ⟨k1, k2, k3, _⟩ := hk K (Loc.has_nil hsub h2)
   exact ⟨k1, k2, k3⟩
 ·rcases key b lc h1 with ⟨a1, a2⟩ | ⟨a1, rfl⟩
  ·rcases key b' lc' h2 with ⟨c1, c2⟩ | ⟨c1, rfl⟩
   ·exact hh.inj b b' lc lc' K a2 c2 h3 h4
   ·exact absurd h3 ((hk K (Loc.has_nil hsub h4)).2.2.2 b lc a2)
  ·rcases key b' lc' h2 with ⟨c1, c2⟩ | ⟨c1, rfl⟩
   ·exact absurd h4 ((hk K (Loc.has_nil hsub h3)).2.2.2 b' lc' c2)
   ·omega
 ·rcases key b lc h1 with ⟨a1, a2⟩ | ⟨a1, rfl⟩
  ·exact hh.sok b lc a2
  ·exact .nil hsub
/-- what was one block's is the other's -/
theorem HeapR.move {B : Nat} {S : Nat → Prop} {ρ : List Loc} {h : List Blk} {w : World} (hh : HeapR B S γ ρ h w) {b b2 : Nat} {loc loc2 loc' loc2' : Loc} {blk' : Blk} (hne : b ≠ b2) (hb : ρ[b]? = some loc) (hb2 : ρ[b2]? = some loc2)
  (hup : loc.up loc') (hup2 : loc2.up loc2') (hk : ∀ K, loc'.has K → loc.has K ∨ loc2.has K) (hk2 : ∀ K, ¬ loc2'.has K) (hsok : loc'.SubOk) (hsub2 : loc2'.sub = [])
  (hblk : BlkR S w ((ρ.set b loc').set b2 loc2') loc' blk') : HeapR B S γ ((ρ.set b loc').set b2 loc2') ((h.set b blk').set b2 .any) w ∧ Ext B S ρ w S ((ρ.set b loc').set b2 loc2') w := by
 have hblt : b < ρ.length := (List.getElem?_eq_some_iff.1 hb).1
 have hblt2 : b2 < ρ.length := (List.getElem?_eq_some_iff.1 hb2).1
 have key : ∀ (i : Nat) (l : Loc), ((ρ.set b loc').set b2 loc2')[i]? = some l → (i = b ∧ l = loc') ∨ (i = b2 ∧ l = loc2') ∨ (i ≠ b ∧ i ≠ b2 ∧ ρ[i]? = some l) := by
  intro i l hl
  by_cases e2 : b2 = i
  ·subst e2; simp [hblt2] at hl; exact .inr (.inl ⟨rfl, hl.symm⟩)
  ·rw [List.getElem?_set_ne e2] at hl
   by_cases e : b = i
   ·subst e; simp [hblt] at hl; exact .inl ⟨rfl, hl.symm⟩
   ·rw [List.getElem?_set_ne e] at hl; exact .inr (.inr ⟨fun h => e h.symm, fun h => e2 h.symm, hl⟩)
 have hlocs : LocsUp ρ ((ρ.set b loc').set b2 loc2') := by
  intro i l hl
  by_cases e2 : b2 = i
  ·subst e2; rw [hb2] at hl; cases hl
   exact ⟨loc2', by simp [hblt2], hup2⟩
  ·by_cases e : b = i
   ·subst e; rw [hb] at hl; cases hl
    exact ⟨loc', by rw [List.getElem?_set_ne e2]; simp [hblt], hup⟩
   ·exact ⟨l, by rw [List.getElem?_set_ne e2, List.getElem?_set_ne e]; exact hl, l.up_refl⟩
 refine ⟨⟨by simp [hh.len], fun i bk l h1 h2 => ?_, fun i l K h1 h2 => ?_, fun i j l l' K h1 h2 h3 h4 => ?_, hh.sle, hh.gok, hh.bsz, fun i l h1 => ?_⟩, Fr.refl w, fun _ _ => rfl, fun _ h => h, fun _ _ => rfl, hlocs, fun _ h => .inl h⟩
 ·rcases key i l h2 with ⟨rfl, rfl⟩ | ⟨rfl, rfl⟩ | ⟨n1, n2, h2⟩
  ·rw [List.getElem?_set_ne (fun e => hne e.symm)] at h1
   have : i < h.length := by rw [← hh.len]; exact hblt
   simp [this] at h1; subst h1; exact hblk
  ·have : i < (h.set b blk').length := by rw [List.length_set, ← hh.len]; exact hblt2
   rw [List.getElem?_set_self this] at h1; cases h1; trivial
  ·rw [List.getElem?_set_ne (fun e => n2 e.symm), List.getElem?_set_ne (fun e => n1 e.symm)] at h1
   exact (hh.blk i bk l h1 h2).mono (fun _ h => h) (fun _ _ => rfl) hlocs fun _ _ => rfl
 ·rcases key i l h1 with ⟨rfl, rfl⟩ | ⟨rfl, rfl⟩ | ⟨n1, n2, h1⟩
  ·rcases hk K h2 with e | e
   ·exact hh.own i loc K hb e
   ·exact hh.own b2 loc2 K hb2 e
  ·exact absurd h2 (hk2 K)
  ·exact hh.own i l K h1 h2
 ·have none2 : ∀ (i : Nat) (l : Loc), i ≠ b → i ≠ b2 → ρ[i]? = some l → l.has K → ¬ loc'.has K := fun i l n1 n2 g1 g2 g3 => by
   rcases hk K g3 with e | e
   ·exact n1 (hh.inj i b l loc K g1 hb g2 e)
   ·exact n2 (hh.inj i b2 l loc2 K g1 hb2 g2 e)
  rcases key i l h1 with ⟨rfl, rfl⟩ | ⟨rfl, rfl⟩ | ⟨n1, n2, g1⟩
  ·rcases key j l' h2 with ⟨rfl, rfl⟩ | ⟨rfl, rfl⟩ | ⟨m1, m2, g2⟩
   ·rfl
   ·exact absurd h4 (hk2 K)
   ·exact absurd h3 (none2 j l' m1 m2 g2 h4)
  ·exact absurd h3 (hk2 K)
  ·rcases key j l' h2 with ⟨rfl, rfl⟩ | ⟨rfl, rfl⟩ | ⟨m1, m2, g2⟩
   ·exact absurd h4 (none2 i l n1 n2 g1 h3)
   ·exact absurd h4 (hk2 K)
   ·exact hh.inj i j l l' K g1 g2 h3 h4
 ·rcases key i l h1 with ⟨rfl, rfl⟩ | ⟨rfl, rfl⟩ | ⟨_, _, g1⟩
  ·exact hsok
  ·exact .nil hsub2
  ·exact hh.sok i l g1
theorem Loc.SubOk.set {l l' : Loc} (h : l.SubOk) {i : Nat} (hs : l'.sub = l.sub.set i none) (hk : l'.k = l.k) : l'.SubOk where
 out := fun K hK => by
  rw [hs] at hK
  rw [hk]
  rcases List.mem_or_eq_of_mem_set hK with hK | hK
  ·exact h.out K hK
  ·cases hK
 one := fun a c K ha hc => by
  have key : ∀ a, l'.sub[a]? = some (some K) → l.sub[a]? = some (some K) := fun a ha => by
   rw [hs, List.getElem?_set] at ha
   split at ha
   ·split at ha <;> cases ha
   ·exact ha
  exact h.one a c K (key a ha) (key c hc)
theorem Loc.has_set {l l' : Loc} {i K : Nat} (hs : l'.sub = l.sub.set i none) (hk : l'.k = l.k) (h : l'.has K) : l.has K := by
 rcases h with h | h
 ·exact .inl (by rw [← hk]; exact h)
 ·rw [hs] at h
  rcases List.mem_or_eq_of_mem_set h with h | h
  ·exact .inr h
  ·cases h
theorem HeapR.drop {B : Nat} {S : Nat → Prop} {ρ : List Loc} {h : List Blk} {w : World} (hh : HeapR B S γ ρ h w) {b g q : Nat} {ess : Unit → List LV} (hb : h[b]? = some (.nest g q ess none)) (i : Unit → Nat) {loc : Loc} (hl : ρ[b]? = some loc) :
  HeapR B S γ (ρ.set b { loc with sub := loc.sub.set (i ()) none }) (h.set b (.nest g q ess (some (i, .any)))) w ∧ Ext B S ρ w S (ρ.set b { loc with sub := loc.sub.set (i ()) none }) w := by
 obtain ⟨d1, d2, d3, evs, d4, d5, d6, d7⟩ := hh.blk b _ loc hb hl
 refine hh.updS (loc' := { loc with sub := loc.sub.set (i ()) none }) hl (.inl ⟨_, rfl⟩) (fun K hK => .inl (Loc.has_set (l := loc) (l' := { loc with sub := loc.sub.set (i ()) none }) rfl rfl hK)) (Fr.refl w) (fun _ _ _ => rfl) ⟨d1, d2, d3, evs, d4, d5, by simp [d6], fun p es v s g1 g2 g3 => ?_⟩ ((hh.sok b loc hl).set rfl rfl)
 have hpl : p < loc.sub.length := by have := (List.getElem?_eq_some_iff.1 g2).1; omega
 have hold : InR S w q es v loc.sub[p] := d7 p es v _ g1 g2 (List.getElem?_eq_getElem hpl)
 have g3 : (loc.sub.set (i ()) none)[p]? = some s := g3
 rw [List.getElem?_set] at g3
 split at g3
 ·rename_i e
  rw [if_pos (by omega)] at g3
  cases g3
  obtain ⟨a, cap, ievs, rfl, _⟩ := hold
  exact .inl ⟨e.symm, rfl, trivial, rfl⟩
 ·rename_i e
  rw [List.getElem?_eq_getElem hpl] at g3
  cases g3
  exact .inr ⟨fun h => e h.symm, hold⟩
theorem Step.drop {A : St} (b : Nat) {g q : Nat} {ess : Unit → List LV} (hb : A.h[b]? = some (.nest g q ess none)) (i : Unit → Nat) : Step γ A ⟨A.n, A.s, A.h.set b (.nest g q ess (some (i, .any)))⟩ :=
 Step.heap fun B S ρ w hh => by
  have hlt : b < ρ.length := by rw [hh.len]; exact (List.getElem?_eq_some_iff.1 hb).1
  have := hh.drop hb i (List.getElem?_eq_getElem hlt)
  exact ⟨_, _, this.1, this.2⟩
theorem Step.take {A : St} (b : Nat) {g q : Nat} {ess : Unit → List LV} (hb : A.h[b]? = some (.nest g q ess none)) (i : Unit → Nat) (hi : ∀ _ : Unit, i () < (ess ()).length) :
  Step γ A ⟨A.n, A.s, (A.h.set b (.nest g q ess (some (i, .sl A.h.length 0 q (fun _ => 0) fun _ => ((ess ()).getD (i ()) .nil).l.length)))) ++ [.run 0 q fun _ => (ess ()).getD (i ()) .nil]⟩ :=
 Step.heap fun B S ρ w hh => by
  have hlt : b < ρ.length := by rw [hh.len]; exact (List.getElem?_eq_some_iff.1 hb).1
  obtain ⟨loc, hl⟩ : ∃ loc, ρ[b]? = some loc := ⟨_, List.getElem?_eq_getElem hlt⟩
  obtain ⟨d1, d2, d3, evs, d4, d5, d6, d7⟩ := hh.blk b _ loc hb hl
  have hi := hi ()
  obtain ⟨p1, p2⟩ := hh.drop hb i hl
  have hie : (ess ())[i ()]? = some ((ess ()).getD (i ()) .nil) := by rw [List.getD_eq_getElem?_getD, List.getElem?_eq_getElem hi]; rfl
  have hve : evs[i ()]? = some evs[i ()] := List.getElem?_eq_getElem (by omega)
  have hse : loc.sub[i ()]? = some loc.sub[i ()] := List.getElem?_eq_getElem (by omega)
  have hin : InR S w q ((ess ()).getD (i ()) .nil) evs[i ()] loc.sub[i ()] := d7 _ _ _ _ hie hve hse
  generalize hes : (ess ()).getD (i ()) .nil = es at hin hie
  generalize hv : evs[i ()]'(by omega) = v at hin hve
  generalize hs : loc.sub[i ()]'(by omega) = s at hin hse
  obtain ⟨a, cap, ievs, rfl, c2, c3, c4, c5, c6⟩ := hin
  have hil : ievs.length = es.l.length := Rs_len ((RL_iff _ _ _ _).1 c4)
  -- the run that comes
  obtain ⟨l2, hl2, hbl, hr⟩ : ∃ l2 : Loc, (l2.sub = [] ∧ l2.k = s ∧ l2.box = false ∧ l2.g = 0 ∧ l2.e = q) ∧ (∀ ρ2, BlkR S w ρ2 l2 (.run 0 q fun _ => es)) ∧
    (∀ ρ2 : List Loc, R S w (some (ρ2 ++ [l2])) (.sl ρ2.length 0 q (fun _ => 0) fun _ => es.l.length) (.slice a ievs.length cap)) := by
   rcases c6 with ⟨rfl, c6⟩ | ⟨K, c, ty, rfl, r2, r3, r4, r5⟩
   ·have : ievs = [] := List.eq_nil_of_length_eq_zero (by omega)
    subst this
    exact ⟨⟨false, 0, none, q, 0, []⟩, ⟨rfl, rfl, rfl, rfl, rfl⟩, fun ρ2 => ⟨rfl, rfl, rfl, [], c4, fun e he => (by cases he), .inl ⟨rfl, rfl⟩⟩,
     fun ρ2 => ⟨_, _, a, cap, rfl, getElem?_concat _ _, rfl, rfl, Nat.le_refl _, by rw [← hil], by rw [← hil]; exact c2, c3, fun _ => .inl ⟨rfl, c6, rfl⟩⟩⟩
   ·exact ⟨⟨false, 0, some K, q, c.size, []⟩, ⟨rfl, rfl, rfl, rfl, rfl⟩, fun ρ2 => ⟨rfl, rfl, rfl, ievs, c4, c5, .inr ⟨K, c, ty, rfl, r4, rfl, Nat.le_trans (Nat.mul_le_mul_right _ c2) r3, r5⟩⟩,
     fun ρ2 => ⟨_, _, a, cap, rfl, getElem?_concat _ _, rfl, rfl, Nat.le_refl _, by rw [← hil], by rw [← hil]; exact c2, c3, fun _ => .inr ⟨K, rfl, by simpa using r2, by simpa using r3⟩⟩⟩
  obtain ⟨m1, m2, m3, m4, m5⟩ := hl2
  obtain ⟨q1, q2⟩ := p1.adopt l2 (.run 0 q fun _ => es) m1 (fun K hK => by
   rw [m2] at hK
   obtain ⟨k1, k2, k3⟩ := hh.own b loc K hl (.inr (by rw [← hK, ← hs]; exact List.getElem_mem _))
   refine ⟨k1, k2, k3, fun b' l' hb' hK' => ?_⟩
   by_cases e : b = b'
   ·subst e
    rw [List.getElem?_set_self hlt] at hb'; cases hb'
    rcases hK' with hK' | hK'
    ·exact (hh.sok b loc hl).out K (by rw [← hK]; exact List.mem_of_getElem? hse) hK'
    ·obtain ⟨j, hj, hj2⟩ := List.getElem_of_mem hK'
     have hj3 : (loc.sub.set (i ()) none)[j]? = some (some K) := by rw [← hj2]; exact List.getElem?_eq_getElem hj
     rw [List.getElem?_set] at hj3
     split at hj3
     ·split at hj3 <;> cases hj3
     ·rename_i ne
      exact ne ((hh.sok b loc hl).one j (i ()) K hj3 (by rw [hse, hK])).symm
   ·rw [List.getElem?_set_ne e] at hb'
    exact e (hh.inj b b' loc l' K hl hb' (.inr (by rw [← hK]; exact List.mem_of_getElem? hse)) hK')) (hbl _)
  have hρ : (ρ.set b { loc with sub := loc.sub.set (i ()) none }).length = A.h.length := by rw [List.length_set, hh.len]
  have hT := q1.retell b (.nest g q ess (some (i, .sl A.h.length 0 q (fun _ => 0) fun _ => ((ess ()).getD (i ()) .nil).l.length))) fun loc3 h3 => by
   rw [List.getElem?_append_left (by rw [List.length_set]; exact hlt), List.getElem?_set_self hlt] at h3
   cases h3
   refine ⟨d1, d2, d3, evs, d4, d5, by simp [d6], fun p es' v' s' g1 g2 g3 => ?_⟩
   have hpl : p < loc.sub.length := by have := (List.getElem?_eq_some_iff.1 g2).1; omega
   have hold : InR S w q es' v' loc.sub[p] := d7 p es' v' _ g1 g2 (List.getElem?_eq_getElem hpl)
   have g3 : (loc.sub.set (i ()) none)[p]? = some s' := g3
   rw [List.getElem?_set] at g3
   split at g3
   ·rename_i e
    rw [if_pos (by omega)] at g3
    cases g3
    rw [← e, hve] at g2
    cases g2
    refine .inl ⟨e.symm, rfl, ?_, rfl⟩
    have := hr (ρ.set b { loc with sub := loc.sub.set (i ()) none })
    rw [hρ] at this
    simp only [hes]
    exact this
   ·rename_i e
    rw [List.getElem?_eq_getElem hpl] at g3
    cases g3
    exact .inr ⟨fun h => e h.symm, hold⟩
  refine ⟨S, _, ?_, p2.trans q2⟩
  rw [List.set_append_left _ _ (by rw [List.length_set]; exact (List.getElem?_eq_some_iff.1 hb).1), List.set_set] at hT
  simp only [hes] at hT
  exact hT
end
end Go.AL

namespace Go.AL
open Go Go.RowKit
section
variable {P : Program} {γ : Nat → Option AV}

theorem Step.put {A : St} (b b2 : Nat) {g q g2 g3 : Nat} {ess : Unit → List LV} {i off len : Unit → Nat} {es : Unit → LV} (hb : A.h[b]? = some (.nest g q ess (some (i, .sl b2 g2 q off len)))) (hb2 : A.h[b2]? = some (.run g3 q es))
  (hc : ∀ _ : Unit, g3 = g2 ∧ off () = 0 ∧ len () = (es ()).l.length) :
  Step γ A ⟨A.n, A.s, (A.h.set b (.nest g q (fun _ => (ess ()).set (i ()) (es ())) none)).set b2 .any⟩ :=
 Step.heap fun B S ρ w hh => by
  obtain ⟨rfl, c0, c1⟩ := hc ()
  have hne : b ≠ b2 := fun e => by subst e; rw [hb] at hb2; cases hb2
  have hlt : b < ρ.length := by rw [hh.len]; exact (List.getElem?_eq_some_iff.1 hb).1
  have hlt2 : b2 < ρ.length := by rw [hh.len]; exact (List.getElem?_eq_some_iff.1 hb2).1
  obtain ⟨loc, hl⟩ : ∃ loc, ρ[b]? = some loc := ⟨_, List.getElem?_eq_getElem hlt⟩
  obtain ⟨loc2, hl2⟩ : ∃ loc, ρ[b2]? = some loc := ⟨_, List.getElem?_eq_getElem hlt2⟩
  obtain ⟨d1, d2, d3, evs, d4, d5, d6, d7⟩ := hh.blk b _ loc hb hl
  obtain ⟨f1, f2, f3, ievs, f4, f5, f6⟩ := hh.blk b2 _ loc2 hb2 hl2
  have hil : ievs.length = (es ()).l.length := Rs_len ((RL_iff _ _ _ _).1 f4)
  have hk2 : ∀ K, some K ∈ (loc.sub.set (i ()) loc2.k) → some K ∈ loc.sub ∨ loc2.k = some K := fun K hK => by
   rcases List.mem_or_eq_of_mem_set hK with hK | hK
   ·exact .inl hK
   ·exact .inr hK.symm
  have hsi : ∀ s, loc.sub[i ()]? = some s → s = none := fun s hs => by
   have hil' : i () < loc.sub.length := (List.getElem?_eq_some_iff.1 hs).1
   rcases d7 (i ()) _ _ s (List.getElem?_eq_getElem (by omega)) (List.getElem?_eq_getElem (by omega)) hs with ⟨_, h, _⟩ | ⟨h, _⟩
   ·exact h
   ·exact absurd rfl h
  have hsub : ∀ K, loc2.k = some K → ¬ some K ∈ loc.sub ∧ loc.k ≠ some K := fun K hK => ⟨fun h => hne (hh.inj b b2 loc loc2 K hl hl2 (.inr h) (.inl hK)), fun h => hne (hh.inj b b2 loc loc2 K hl hl2 (.inl h) (.inl hK))⟩
  have hm := hh.move (loc' := { loc with sub := loc.sub.set (i ()) loc2.k }) (loc2' := { loc2 with g := g3 + 1, k := none, size := 0, sub := [] }) (blk' := .nest g q (fun _ => (ess ()).set (i ()) (es ())) none) hne hl hl2 (.inl ⟨_, rfl⟩)
   (.inr (.inl ⟨f1, f1, by show loc2.g < g3 + 1; omega, rfl⟩))
   (fun K hK => by
    rcases hK with hK | hK
    ·exact .inl (.inl hK)
    ·rcases hk2 K hK with h | h
     ·exact .inl (.inr h)
     ·exact .inr (.inl h))
   (fun K hK => by rcases hK with hK | hK <;> first | (cases hK; done) | exact absurd hK (by simp))
   ⟨fun K hK hk => by
    rcases hk2 K hK with h | h
    ·exact (hh.sok b loc hl).out K h hk
    ·exact (hsub K h).2 hk, fun x y K hx hy => by
    have key : ∀ x, (loc.sub.set (i ()) loc2.k)[x]? = some (some K) → (x = i () ∧ loc2.k = some K) ∨ (x ≠ i () ∧ loc.sub[x]? = some (some K)) := fun x hx => by
     rw [List.getElem?_set] at hx
     split at hx
     ·rename_i e
      split at hx
      ·left; exact ⟨e.symm, by simpa using hx⟩
      ·cases hx
     ·rename_i e; exact .inr ⟨fun h => e h.symm, hx⟩
    rcases key x hx with ⟨x1, x2⟩ | ⟨x1, x2⟩ <;> rcases key y hy with ⟨y1, y2⟩ | ⟨y1, y2⟩
    ·omega
    ·exact absurd (List.mem_of_getElem? y2) (hsub K x2).1
    ·exact absurd (List.mem_of_getElem? x2) (hsub K y2).1
    ·exact (hh.sok b loc hl).one x y K x2 y2⟩ rfl
   ⟨d1, d2, d3, evs, d4, by simp [d5], by simp [d6], fun p es' v s g1 g2 g4 => by
    have hpl : p < evs.length := (List.getElem?_eq_some_iff.1 g2).1
    by_cases hp : p = i ()
    ·subst hp
     have g1 : ((ess ()).set (i ()) (es ()))[i ()]? = some es' := g1
     rw [List.getElem?_set_self (by omega)] at g1
     cases g1
     have g4 : (loc.sub.set (i ()) loc2.k)[i ()]? = some s := g4
     rw [List.getElem?_set_self (by omega)] at g4
     cases g4
     rcases d7 (i ()) _ _ _ (List.getElem?_eq_getElem (by omega)) g2 (List.getElem?_eq_getElem (by omega)) with ⟨_, _, hr, _⟩ | ⟨h, _⟩
     ·obtain ⟨l, lc, a, cap, e0, q1, q2, q3, q4, rfl, q6, q7, q8⟩ := hr
      cases e0
      rw [hl2] at q1; cases q1
      refine ⟨a, cap, ievs, by rw [c1, hil], by omega, q7, f4, f5, ?_⟩
      rcases q8 f2 with ⟨r1, r2, _⟩ | ⟨K, r1, r2, r3⟩
      ·exact .inl ⟨r1, r2⟩
      ·rcases f6 with ⟨e1, _⟩ | ⟨K', c, ty, e1, e2, e3, e4, e5⟩
       ·rw [r1] at e1; cases e1
       ·rw [r1] at e1; cases e1
        rw [c0, Nat.zero_mul] at r2
        rw [c0, Nat.zero_add, f3] at r3
        rw [f3] at e5
        exact .inr ⟨K, c, ty, r1, r2, by omega, e2, e5⟩
     ·exact absurd rfl h
    ·have g1 : ((ess ()).set (i ()) (es ()))[p]? = some es' := g1
     rw [List.getElem?_set_ne (fun e => hp e.symm)] at g1
     have g4 : (loc.sub.set (i ()) loc2.k)[p]? = some s := g4
     rw [List.getElem?_set_ne (fun e => hp e.symm)] at g4
     rcases d7 p es' v s g1 g2 g4 with ⟨h, _⟩ | ⟨_, h⟩
     ·exact absurd h hp
     ·exact h⟩
  exact ⟨S, _, hm.1, hm.2⟩

theorem Step.takeE {A : St} (b : Nat) {g q : Nat} {ess : Unit → List LV} (hb : A.h[b]? = some (.nest g q ess none)) (i : Unit → Nat) (es : Unit → LV) (len : Unit → Nat) (hi : ∀ _ : Unit, i () < (ess ()).length)
  (he : ∀ _ : Unit, (ess ()).getD (i ()) .nil = es () ∧ (es ()).l.length = len ()) : Step γ A ⟨A.n, A.s, (A.h.set b (.nest g q ess (some (i, .sl A.h.length 0 q (fun _ => 0) len)))) ++ [.run 0 q es]⟩ := by
 have h := Step.take (γ := γ) b hb i hi
 have e1 : (fun _ : Unit => (ess ()).getD (i ()) .nil) = es := funext fun _ => (he ()).1
 have e2 : (fun _ : Unit => ((ess ()).getD (i ()) .nil).l.length) = len := funext fun _ => by rw [(he ()).1]; exact (he ()).2
 rw [e1, e2] at h
 exact h
theorem Step.putE {A : St} (b b2 : Nat) {g q g2 g3 : Nat} {ess : Unit → List LV} {i off len : Unit → Nat} {es : Unit → LV} (ess' : Unit → List LV) (hb : A.h[b]? = some (.nest g q ess (some (i, .sl b2 g2 q off len)))) (hb2 : A.h[b2]? = some (.run g3 q es))
  (hc : ∀ _ : Unit, (g3 = g2 ∧ off () = 0 ∧ len () = (es ()).l.length) ∧ (ess ()).set (i ()) (es ()) = ess' ()) :
  Step γ A ⟨A.n, A.s, (A.h.set b (.nest g q ess' none)).set b2 .any⟩ := by
 have h := Step.put (γ := γ) b b2 hb hb2 fun _ => (hc ()).1
 have e1 : (fun _ : Unit => (ess ()).set (i ()) (es ())) = ess' := funext fun _ => (hc ()).2
 rw [e1] at h
 exact h

/-- an own run of which nothing is told: a nest that is filled from its front on -/
theorem Step.unrun {A : St} (b q : Nat) {g : Nat} {es : Unit → LV} (hb : A.h[b]? = some (.run g 1 es)) : Step γ A ⟨A.n, A.s, A.h.set b (.nest g q (fun _ => []) none)⟩ :=
 Step.heap fun B S ρ w hh => by
  have hlt : b < ρ.length := by rw [hh.len]; exact (List.getElem?_eq_some_iff.1 hb).1
  obtain ⟨loc, hl⟩ : ∃ loc, ρ[b]? = some loc := ⟨_, List.getElem?_eq_getElem hlt⟩
  obtain ⟨f1, f2, f3, ievs, f4, f5, f6⟩ := hh.blk b _ loc hb hl
  have := hh.updS (loc' := { loc with sub := [] }) (blk' := .nest g q (fun _ => []) none) (w' := w) hl (.inl ⟨_, rfl⟩) (fun K hK => .inl (.inl (Loc.has_nil (l := { loc with sub := [] }) rfl hK))) (Fr.refl w) (fun _ _ _ => rfl)
   ⟨f1, f2, f3, [], by
    rcases f6 with ⟨e1, _⟩ | ⟨K', c, ty, e1, e2, e3, e4, e5⟩
    ·exact .inl ⟨e1, rfl⟩
    ·exact .inr ⟨K', c, ty, e1, e2, e3, Nat.zero_le _, fun i e h => by simp at h⟩, rfl, rfl, fun p es v s g1 => by simp at g1⟩ (.nil rfl)
  exact ⟨S, _, this.1, this.2⟩

end
end Go.AL

namespace Go.AL.Rl
open Go Go.AL Go.Proofs
set_option maxRecDepth 100000
set_option maxHeartbeats 3200000
variable {γ : Nat → Option AV}

def evL (l : List (List Ev)) : List LV := l.map evs
def idL (l : List (List EId)) : List LV := l.map ids
theorem evss_L (l : List (List Ev)) : (evss l).l = (evL l).map fun x => .vs 5 fun _ => x := by simp [evss, evL]
theorem idss_L (l : List (List EId)) : (idss l).l = (idL l).map fun x => .vs 2 fun _ => x := by simp [idss, idL]
theorem evL_len (l : List (List Ev)) : (evL l).length = l.length := by simp [evL]
theorem idL_len (l : List (List EId)) : (idL l).length = l.length := by simp [idL]
theorem evs_flat (l : List Ev) : ∀ v ∈ (evs l).l, v.flat = true := by
 intro v hv
 simp only [evs, LV.l_of, List.mem_map] at hv
 obtain ⟨x, _, rfl⟩ := hv
 rfl
theorem id_flat (l : List EId) : ∀ v ∈ (ids l).l, v.flat = true := by
 intro v hv
 simp only [ids, LV.l_of, List.mem_map] at hv
 obtain ⟨x, _, rfl⟩ := hv
 rfl
theorem set_last {α : Type} (l : List α) (a b : α) : (l ++ [a]).set l.length b = l ++ [b] := by simp
/-- a copied graph: where its lists lie -/
abbrev cpV (g : Gr) (n1 n2 n3 a b c d : Nat) : AV := .agg [.sl a 0 1 (fun _ => 0) fun _ => g.init.length, .sl b n1 1 (fun _ => 0) fun _ => g.th.length, .sl c n2 1 (fun _ => 0) fun _ => g.fr.length, .sl d n3 1 (fun _ => 0) fun _ => g.ord.length]
theorem rcopy_own0 (g : Gr) (hb : RdB g) (hR : Rd g) : Owns Try.prog γ 8 [aGr g] (cpV g g.th.length g.fr.length g.ord.length 2 4 5 6)
  [.any, .any, .run 0 1 fun _ => is g.init, .any, .nest g.th.length 5 (fun _ => evL g.th) none, .nest g.fr.length 2 (fun _ => idL g.fr) none, .nest g.ord.length 2 (fun _ => idL g.ord) none] := by
 have b0 := hb.init
 have b1 := hb.th
 have b2 := hb.fr
 have b3 := hb.ord
 have c1 : ∀ t, (g.th.getD t []).length * 40 ≤ 140737488351232 := fun t => by
  rcases Nat.lt_or_ge t g.th.length with h1 | h1
  ·exact hb.ths _ (getD_mem h1)
  ·simp [List.getElem?_eq_none h1]
 have c2 : ∀ t, (g.fr.getD t []).length * 16 ≤ 140737488351232 := fun t => by
  rcases Nat.lt_or_ge t g.fr.length with h1 | h1
  ·exact hb.frs _ (getD_mem h1)
  ·simp [List.getElem?_eq_none h1]
 have c3 : ∀ t, (g.ord.getD t []).length * 16 ≤ 140737488351232 := fun t => by
  rcases Nat.lt_or_ge t g.ord.length with h1 | h1
  ·exact hb.ords _ (getD_mem h1)
  ·simp [List.getElem?_eq_none h1]
 obtain ⟨TH, hTH⟩ : ∃ TH : Nat → List LV, ∀ i, TH i = evL (g.th.take i) := ⟨_, fun _ => rfl⟩
 obtain ⟨FR, hFR⟩ : ∃ FR : Nat → List LV, ∀ i, FR i = idL (g.fr.take i) := ⟨_, fun _ => rfl⟩
 obtain ⟨OR, hOR⟩ : ∃ OR : Nat → List LV, ∀ i, OR i = idL (g.ord.take i) := ⟨_, fun _ => rfl⟩
 have t0 : TH 0 = [] := by rw [hTH]; rfl
 have f0 : FR 0 = [] := by rw [hFR]; rfl
 have o0 : OR 0 = [] := by rw [hOR]; rfl
 have tS : ∀ i, i < g.th.length → TH (i + 1) = TH i ++ [evs (g.th.getD i [])] := fun i hi => by rw [hTH, hTH, take_succ' _ i [] hi]; simp [evL]
 have fS : ∀ i, i < g.fr.length → FR (i + 1) = FR i ++ [ids (g.fr.getD i [])] := fun i hi => by rw [hFR, hFR, take_succ' _ i [] hi]; simp [idL]
 have oS : ∀ i, i < g.ord.length → OR (i + 1) = OR i ++ [ids (g.ord.getD i [])] := fun i hi => by rw [hOR, hOR, take_succ' _ i [] hi]; simp [idL]
 have tl : ∀ i, i ≤ g.th.length → (TH i).length = i := fun i hi => by rw [hTH, evL_len]; simp; omega
 have fl : ∀ i, i ≤ g.fr.length → (FR i).length = i := fun i hi => by rw [hFR, idL_len]; simp; omega
 have ol : ∀ i, i ≤ g.ord.length → (OR i).length = i := fun i hi => by rw [hOR, idL_len]; simp; omega
 have te : TH g.th.length = evL g.th := by rw [hTH, List.take_length]
 have fe : FR g.fr.length = idL g.fr := by rw [hFR, List.take_length]
 have oe : OR g.ord.length = idL g.ord := by rw [hOR, List.take_length]
 clear hTH hFR hOR
 obtain ⟨G, hG⟩ : ∃ G : Nat → Nat, ∀ x, G x = x := ⟨_, fun _ => rfl⟩
 have hG0 : G 0 = 0 := hG 0
 refine Owns.go (ty := ty) ty_eq mo Try.func8 rfl Try.ntmps8 Try.results8 Try.call8 (by simp) fun P C CQ D W F E hF => ?_
 cbv
 skip
 repeat' (first
  |(refine ⟨fun _ h_s=>?_,fun _ h_s=>?_⟩<;>(cbv;(try simp only [nc] at *);try simp (disch:=(first|omega|(simp only [lnS];omega))) only [rdT,rdS,reduceCtorEq,trT] at h_s))
  |(refine hF ?_;intro _;clear hF)
  |(refine hF ?_;cbv;clear hF)
  |(refine ⟨fun _=>?_,?_⟩;(· ((try simp only [nc] at *);first|done|omega|exact ⟨by omega,rfl⟩|(simp (disch:=(first|omega|(simp only [lnS];omega))) only [rdT,rdS];first|done|omega|rfl|exact ⟨by omega,rfl⟩|(simp;done)|(simp;omega))|(intros;trivial)|(refine ⟨by simp;omega,by simp;omega,fun v hv=>?_⟩;simp only [is,evs,ids,LV.l_of,List.mem_map] at hv;obtain ⟨_,_,rfl⟩:=hv;rfl)));(try (simp only [nc] at *));(try simp (disch:=(first|omega|(simp only [lnS];omega))) only [rdT,rdS]);(try cbv))
  | fail
 )
 skip
 skip
 refine E.w (AWP.ghostField 3 1 1 rfl rfl ?_)
 refine AWP.step (Step.unrun 4 5 rfl) ?_
 refine E.loopSA (ι:=Nat) (fun i=>i≤g.th.length) (fun i=>g.th.length - i) (fun i=>[(4,.i fun _=>((i : Nat) : Int))]) (fun i h=>(h.set 3 (.box (.agg [.sl 2 0 1 (fun _=>0) fun _=>g.init.length,.sl 4 (G i) 1 (fun _=>0) fun _=>i,.nils,.nils]))).set 4 (.nest (G i) 5 (fun _=>TH i) none)) 0 (fun _=>by first|rfl|simp) (Nat.zero_le _) ?_ fun i hi I hI=>?_
 ·cbv; simp [t0, hG0]
 cbv
 have e1 := tS i
 have e2 := tl i hi
 have e3 := c1 i
 repeat' (first
  |(refine hI (i + 1) ?_ ?_ ?_;rotate_left 1;(· ((try simp only [nc] at *);omega));(cbv;clear hI;(try clear hF);(try simp only [nc] at *);(try simp (disch:=(first|omega|(simp only [lnS];omega))) only [rdT,rdS,anT]));rotate_left 1;(try ((try simp only [nc] at *);omega)))
  | (refine hJ (Step.put 4 5 rfl rfl fun _ => ⟨rfl, rfl, ?_⟩) ?_)
  |(refine E.st fun J hJ=>?_;refine E.de 10 [] [some 5] (by decide +kernel) ?_;cbv;(fail_if_success guard_target =~ False))
  |(refine ⟨fun _ h_s=>?_,fun _ h_s=>?_⟩<;>(cbv;(try simp only [nc] at *);try simp (disch:=(first|omega|(simp only [lnS];omega))) only [rdT,rdS,reduceCtorEq,trT] at h_s))
  |(refine hF ?_;intro _;clear hF)
  |(refine hF ?_;cbv;clear hF)
  |(refine ⟨fun _=>?_,?_⟩;(· ((try simp only [nc] at *);first|done|omega|exact ⟨by omega,rfl⟩|(simp (disch:=(first|omega|(simp only [lnS];omega))) only [rdT,rdS];first|done|omega|rfl|exact ⟨by omega,rfl⟩|(simp;done)|(simp;omega))|(intros;trivial)|(refine ⟨by simp;omega,by simp;omega,fun v hv=>?_⟩;simp only [is,evs,ids,LV.l_of,List.mem_map] at hv;obtain ⟨_,_,rfl⟩:=hv;rfl)|exact ⟨by first|trivial|rfl,by first|trivial|rfl,by first|trivial|rfl|(simp [LV.l];done),by first|omega|(simp;omega),by first|omega|(simp;omega),by first|exact evs_flat _|exact id_flat _⟩|exact ⟨by first|trivial|rfl,by first|trivial|rfl,by first|omega|(simp [e2];done),by omega,by omega⟩));(try (simp only [nc] at *));(try simp (disch:=(first|omega|(simp only [lnS];omega))) only [rdT,rdS]);(try cbv))
  | fail
 )
 ·rw [LV.l_of]; simp [LV.l]
 ·rw [e1 (by omega), set_last]
  simp [hG, LV.l]
 obtain rfl : i = g.th.length := by ((try simp only [nc] at *); omega)
 clear e1 e2 e3
 refine E.w (AWP.ghostField 3 2 1 rfl rfl ?_)
 refine AWP.step (Step.unrun 5 2 rfl) ?_
 refine E.loopSA (ι:=Nat) (fun i=>i≤g.fr.length) (fun i=>g.fr.length - i) (fun i=>[(5,.i fun _=>((i : Nat) : Int))]) (fun i h=>(h.set 3 (.box (.agg [.sl 2 0 1 (fun _=>0) fun _=>g.init.length,.sl 4 (G g.th.length) 1 (fun _=>0) fun _=>g.th.length,.sl 5 (G i) 1 (fun _=>0) fun _=>i,.nils]))).set 5 (.nest (G i) 2 (fun _=>FR i) none)) 0 (fun _=>by first|rfl|simp) (Nat.zero_le _) ?_ fun i hi I hI=>?_
 ·cbv; simp [f0, hG0]
 cbv
 have e1 := fS i
 have e2 := fl i hi
 have e3 := c2 i
 repeat' (first
  |(refine hI (i + 1) ?_ ?_ ?_;rotate_left 1;(· ((try simp only [nc] at *);omega));(cbv;clear hI;(try clear hF);(try simp only [nc] at *);(try simp (disch:=(first|omega|(simp only [lnS];omega))) only [rdT,rdS,anT]));rotate_left 1;(try ((try simp only [nc] at *);omega)))
  | (refine hJ (Step.put 5 6 rfl rfl fun _ => ⟨rfl, rfl, ?_⟩) ?_)
  |(refine E.st fun J hJ=>?_;refine E.de 10 [] [some 2] (by decide +kernel) ?_;cbv;(fail_if_success guard_target =~ False))
  |(refine ⟨fun _ h_s=>?_,fun _ h_s=>?_⟩<;>(cbv;(try simp only [nc] at *);try simp (disch:=(first|omega|(simp only [lnS];omega))) only [rdT,rdS,reduceCtorEq,trT] at h_s))
  |(refine hF ?_;intro _;clear hF)
  |(refine hF ?_;cbv;clear hF)
  |(refine ⟨fun _=>?_,?_⟩;(· ((try simp only [nc] at *);first|done|omega|exact ⟨by omega,rfl⟩|(simp (disch:=(first|omega|(simp only [lnS];omega))) only [rdT,rdS];first|done|omega|rfl|exact ⟨by omega,rfl⟩|(simp;done)|(simp;omega))|(intros;trivial)|(refine ⟨by simp;omega,by simp;omega,fun v hv=>?_⟩;simp only [is,evs,ids,LV.l_of,List.mem_map] at hv;obtain ⟨_,_,rfl⟩:=hv;rfl)|exact ⟨by first|trivial|rfl,by first|trivial|rfl,by first|trivial|rfl|(simp [LV.l];done),by first|omega|(simp;omega),by first|omega|(simp;omega),by first|exact evs_flat _|exact id_flat _⟩|exact ⟨by first|trivial|rfl,by first|trivial|rfl,by first|omega|(simp [e2];done),by omega,by omega⟩));(try (simp only [nc] at *));(try simp (disch:=(first|omega|(simp only [lnS];omega))) only [rdT,rdS]);(try cbv))
  | fail
 )
 ·rw [LV.l_of]; simp [LV.l]
 ·rw [e1 (by omega), set_last]
  simp [hG, LV.l]
 obtain rfl : i = g.fr.length := by ((try simp only [nc] at *); omega)
 clear e1 e2 e3
 refine E.w (AWP.ghostField 3 3 1 rfl rfl ?_)
 refine AWP.step (Step.unrun 6 2 rfl) ?_
 refine E.loopSA (ι:=Nat) (fun i=>i≤g.ord.length) (fun i=>g.ord.length - i) (fun i=>[(6,.i fun _=>((i : Nat) : Int))]) (fun i h=>(h.set 3 (.box (.agg [.sl 2 0 1 (fun _=>0) fun _=>g.init.length,.sl 4 (G g.th.length) 1 (fun _=>0) fun _=>g.th.length,.sl 5 (G g.fr.length) 1 (fun _=>0) fun _=>g.fr.length,.sl 6 (G i) 1 (fun _=>0) fun _=>i]))).set 6 (.nest (G i) 2 (fun _=>OR i) none)) 0 (fun _=>by first|rfl|simp) (Nat.zero_le _) ?_ fun i hi I hI=>?_
 ·cbv; simp [o0, hG0]
 cbv
 have e1 := oS i
 have e2 := ol i hi
 have e3 := c3 i
 repeat' (first
  |(refine hI (i + 1) ?_ ?_ ?_;rotate_left 1;(· ((try simp only [nc] at *);omega));(cbv;clear hI;(try clear hF);(try simp only [nc] at *);(try simp (disch:=(first|omega|(simp only [lnS];omega))) only [rdT,rdS,anT]));rotate_left 1;(try ((try simp only [nc] at *);omega)))
  | (refine hJ (Step.put 6 7 rfl rfl fun _ => ⟨rfl, rfl, ?_⟩) ?_)
  |(refine E.st fun J hJ=>?_;refine E.de 10 [] [some 2] (by decide +kernel) ?_;cbv;(fail_if_success guard_target =~ False))
  |(refine ⟨fun _ h_s=>?_,fun _ h_s=>?_⟩<;>(cbv;(try simp only [nc] at *);try simp (disch:=(first|omega|(simp only [lnS];omega))) only [rdT,rdS,reduceCtorEq,trT] at h_s))
  |(refine hF ?_;intro _;clear hF)
  |(refine hF ?_;cbv;clear hF)
  |(refine ⟨fun _=>?_,?_⟩;(· ((try simp only [nc] at *);first|done|omega|exact ⟨by omega,rfl⟩|(simp (disch:=(first|omega|(simp only [lnS];omega))) only [rdT,rdS];first|done|omega|rfl|exact ⟨by omega,rfl⟩|(simp;done)|(simp;omega))|(intros;trivial)|(refine ⟨by simp;omega,by simp;omega,fun v hv=>?_⟩;simp only [is,evs,ids,LV.l_of,List.mem_map] at hv;obtain ⟨_,_,rfl⟩:=hv;rfl)|exact ⟨by first|trivial|rfl,by first|trivial|rfl,by first|trivial|rfl|(simp [LV.l];done),by first|omega|(simp;omega),by first|omega|(simp;omega),by first|exact evs_flat _|exact id_flat _⟩|exact ⟨by first|trivial|rfl,by first|trivial|rfl,by first|omega|(simp [e2];done),by omega,by omega⟩));(try (simp only [nc] at *));(try simp (disch:=(first|omega|(simp only [lnS];omega))) only [rdT,rdS]);(try cbv))
  | fail
 )
 ·rw [LV.l_of]; simp [LV.l]
 ·rw [e1 (by omega), set_last]
  simp [hG, LV.l]
 obtain rfl : i = g.ord.length := by ((try simp only [nc] at *); omega)
 clear e1 e2 e3
 refine hF ?_ ?_
 all_goals simp [leV, leVs, leH, leB, vresult, AV.cells, hG, te, fe, oe]
theorem rcopy_own (g : Gr) (hb : RdB g) (hR : Rd g) : ∃ n1 n2 n3, Owns Try.prog γ 8 [aGr g] (cpV g n1 n2 n3 2 4 5 6)
  [.any, .any, .run 0 1 fun _ => is g.init, .any, .nest n1 5 (fun _ => evL g.th) none, .nest n2 2 (fun _ => idL g.fr) none, .nest n3 2 (fun _ => idL g.ord) none] := ⟨_, _, _, rcopy_own0 g hb hR⟩
end Go.AL.Rl

namespace Go.AL.Rl
open Go Go.AL Go.Proofs
set_option maxRecDepth 100000
set_option maxHeartbeats 3200000
variable {γ : Nat → Option AV}

/-- an event behind a thread's others, from where it reads -/
def addS (g : Gr) (t : Nat) (e : Ev) (d : EId) : Gr := ⟨g.init, g.th.set t (g.th.getD t [] ++ [e]), g.fr.set t (g.fr.getD t [] ++ [d]), g.ord⟩
/-- where it stands among the writes -/
def addO (g : Gr) (t : Nat) (e : Ev) (p : Int) : List EId := (g.ord.getD e.loc.toNat []).take (p - 1).toNat ++ [⟨(t : Int) + 1, ((g.th.getD t []).length : Int)⟩] ++ (g.ord.getD e.loc.toNat []).drop (p - 1).toNat
def addG (g : Gr) (t : Nat) (e : Ev) (d : EId) (p : Int) : Gr := ⟨g.init, (addS g t e d).th, (addS g t e d).fr, if writesM e = true then g.ord.set e.loc.toNat (addO g t e p) else g.ord⟩
def addC (g : Gr) (t : Nat) (e : Ev) (d : EId) (p : Int) : Prop := fineM g.init.length e = true ∧ (if writesM e = true then 1 ≤ p ∧ p ≤ ((g.ord.getD e.loc.toNat []).length : Nat) + 1 else p = 0) ∧ GOk (addG g t e d p)
instance (g : Gr) (t : Nat) (e : Ev) (d : EId) (p : Int) : Decidable (addC g t e d p) := inferInstanceAs (Decidable (_ ∧ _))
theorem rdb_ok {g : Gr} (h : GOk g) : RdB g := by
 have hs := h.short
 have h1 := hs.th
 have h2 := hs.init
 have h3 := h.lfr
 have h4 := h.lord
 have e2 : ∀ l ∈ g.fr, l.length ≤ 14 := fun l hl => by
  obtain ⟨t, ht, rfl⟩ := List.getElem_of_mem hl
  have := (h.events t (by omega)).1
  have h5 := hs.at t
  rw [show g.fr.getD t [] = g.fr[t] by simp [ht]] at this
  omega
 have e3 : ∀ l ∈ g.ord, l.length ≤ 56 := fun l hl => by
  obtain ⟨x, hx, rfl⟩ := List.getElem_of_mem hl
  have := h.orders x (by omega)
  unfold orderedM at this
  have hc : cntT x g.th ≤ 56 := by have := cntT_take hs x g.th.length; rw [List.take_length] at this; omega
  rw [show g.ord.getD x [] = g.ord[x] by simp [hx]] at this
  simp only [Bool.and_eq_true, decide_eq_true_eq] at this
  omega
 exact ⟨by omega, by omega, by omega, by omega, fun l hl => by have := hs.ths l hl; omega, fun l hl => by have := e2 l hl; omega, fun l hl => by have := e3 l hl; omega⟩
theorem rd_short {g : Gr} (h : GOk g) : Rd g := by
 have hb := rdb_ok h
 exact ⟨by have := hb.init; omega, by have := hb.th; omega, by have := hb.fr; omega, by have := hb.ord; omega, fun l hl => by have := hb.ths l hl; omega, fun l hl => by have := hb.frs l hl; omega, fun l hl => by have := hb.ords l hl; omega⟩
end Go.AL.Rl

namespace Go.AL.Rl
open Go Go.AL Go.Proofs
set_option maxRecDepth 100000
set_option maxHeartbeats 3200000
variable {γ : Nat → Option AV}

theorem evL_set (l : List (List Ev)) (t : Nat) (x : List Ev) : (evL l).set t (evs x) = evL (l.set t x) := by simp [evL, List.map_set]
theorem evL_get (l : List (List Ev)) (t : Nat) : (evL l).getD t .nil = evs (l.getD t []) := by
 unfold evL
 rcases Nat.lt_or_ge t l.length with h | h
 ·simp [h]
 ·simp [List.getElem?_eq_none h, evs, LV.of]
end Go.AL.Rl

namespace Go.AL.Rl
open Go Go.AL Go.Proofs
set_option maxRecDepth 100000
set_option maxHeartbeats 3200000

section
variable {g : Gr} {l : List EId} (hg : GOk g) (hC : ClG g l)
include hg hC
end
end Go.AL.Rl

namespace Go.AL.Rl
open Go Go.AL Go.Proofs
set_option maxRecDepth 100000
set_option maxHeartbeats 1600000

structure Tail (V U : Vw) (n m : Nat) (f : Nat → Nat) (N : Nat) : Prop where
 cov : ∀ a < m, (∃ i < n, a = f i) ∨ a = N
 nim : ∀ i < n, f i ≠ N
 po : ∀ b < m, poM U N b = false
 rf : ∀ b < m, U.fr.getD b 0 ≠ (N : Nat)
 frn : ∀ i < n, V.fr.getD i 0 < 0 → U.fr.getD (f i) 0 < 0
 pln : ∀ i < n, 0 ≤ U.pl.getD (f i) 0 → 0 ≤ V.pl.getD i 0
 plu : ∀ i < n, ∀ j < n, nearM V i j = true → 0 ≤ V.pl.getD i 0 → V.pl.getD i 0 = V.pl.getD j 0 → i = j
 plh : ∀ i < n, ∀ j < n, nearM V i j = true → 0 ≤ V.pl.getD i 0 → 0 ≤ U.pl.getD (f j) 0 → 0 ≤ V.pl.getD j 0
section
variable {V U : Vw} {n m : Nat} {f : Nat → Nat} {N : Nat} (E : Emb V U n m f) (Y : Tail V U n m f N) (hV : Wf V n) (hU : Wf U m)
include E Y
include hV
include hU
end
end Go.AL.Rl

namespace Go.AL.Rl
open Go Go.AL Go.Proofs
set_option maxRecDepth 100000
set_option maxHeartbeats 1600000

theorem getD_set' {α : Type} (l : List α) (i j : Nat) (x d : α) (hi : i < l.length) : (l.set i x).getD j d = if j = i then x else l.getD j d := by
 rw [List.getD_eq_getElem?_getD, List.getElem?_set, List.getD_eq_getElem?_getD]
 by_cases e : i = j
 ·subst e; simp [hi]
 ·rw [if_neg e, if_neg fun h => e h.symm]
theorem gD' {α : Type} {l : List α} {i : Nat} {d : α} (h : i < l.length) : l.getD i d = l[i] := by simp [h]
section
variable {g : Gr} {t : Nat} {e : Ev} {d : EId} {p : Int} (hg : GOk g) (ht : t < g.th.length) (hh : GOk (addG g t e d p))
include ht
include hg
include hh
end
end Go.AL.Rl

namespace Go.AL.Rl
open Go Go.AL Go.Proofs
set_option maxRecDepth 100000
set_option maxHeartbeats 3200000
variable {γ : Nat → Option AV}

end Go.AL.Rl

namespace Go.AL.Rl
open Go Go.AL Go.Proofs
set_option maxRecDepth 100000
set_option maxHeartbeats 3200000
variable {γ : Nat → Option AV}

section
variable {g : Gr} {t : Nat} {e : Ev} {d : EId} {p : Int} (hg : GOk g) (ht : t < g.th.length) (hh : GOk (addG g t e d p)) {x y : Nat} (hx : x < nG g) (hy : y < nG g)
include hg ht hh hx hy
end
end Go.AL.Rl

namespace Go.AL.Rl
open Go Go.AL Go.Proofs
set_option maxRecDepth 100000
set_option maxHeartbeats 1600000

structure Wke (a b : Ev) : Prop where
 kind : b.kind = a.kind
 loc : b.loc = a.loc
 rd : b.rd = a.rd
 wr : b.wr = a.wr
 ord : 1 ≤ a.order → a.order ≤ 6 → 1 ≤ b.order ∧ b.order ≤ 6
 acq : acqM b = true → acqM a = true
 rel : relM b = true → relM a = true
 na : b.order ≠ 1 → a.order ≠ 1
theorem Wke.refl (a : Ev) : Wke a a := ⟨rfl, rfl, rfl, rfl, fun h k => ⟨h, k⟩, id, id, id⟩
theorem Wke.reads {a b : Ev} (h : Wke a b) : readsM b = readsM a := by unfold readsM; rw [h.kind]
theorem Wke.writes {a b : Ev} (h : Wke a b) : writesM b = writesM a := by unfold writesM; rw [h.kind]
theorem Wke.fence {a b : Ev} (h : Wke a b) : fenceM b = fenceM a := by unfold fenceM; rw [h.kind]
structure Wk (g h : Gr) : Prop where
 init : h.init = g.init
 fr : h.fr = g.fr
 ord : h.ord = g.ord
 len : h.th.length = g.th.length
 lens : ∀ t, (h.th.getD t []).length = (g.th.getD t []).length
 evs : ∀ t i, Wke ((g.th.getD t []).getD i ev0) ((h.th.getD t []).getD i ev0)
section
variable {g h : Gr} (W : Wk g h)
include W
theorem wk_event (d : EId) : (eventM h d).isSome = (eventM g d).isSome ∧ Wke ((eventM g d).getD ev0) ((eventM h d).getD ev0) := by
 unfold eventM
 rw [W.init, W.len, W.lens]
 split
 ·exact ⟨rfl, Wke.refl _⟩
 ·split
  ·exact ⟨rfl, W.evs _ _⟩
  ·exact ⟨rfl, Wke.refl _⟩
theorem wk_some {d : EId} {e : Ev} (he : eventM g d = some e) : ∃ e', eventM h d = some e' ∧ Wke e e' := by
 obtain ⟨h1, h2⟩ := wk_event W d
 rw [he] at h1 h2
 obtain ⟨e', h3⟩ := Option.isSome_iff_exists.1 h1
 rw [h3] at h2
 exact ⟨e', h3, h2⟩
theorem wk_idsT (t : Nat) : idsT h t = idsT g t := by
 unfold idsT
 simp only [W.lens]
theorem wk_ids : idsG h = idsG g := by unfold idsG; rw [W.init, W.len, wk_idsT W]
theorem wk_src (d : EId) : srcOf h d = srcOf g d := by unfold srcOf; rw [W.fr]
theorem wk_fr (d : EId) : frOf h d = frOf g d := by
 unfold frOf
 rw [(wk_event W d).2.reads, wk_ids W, wk_src W]
theorem wk_pl (d : EId) : plOf h d = plOf g d := by
 unfold plOf
 rw [(wk_event W d).2.loc, W.ord]
theorem wk_n : nG h = nG g := by unfold nG; rw [wk_ids W]
theorem wk_ev {k : Nat} (hk : k < nG g) : Wke ((viewG g).ev.getD k ev0) ((viewG h).ev.getD k ev0) := by
 have h1 := evsG_get g k hk
 have h2 := evsG_get h k (by rw [wk_ids W]; exact hk)
 have h3 := (wk_event W ((idsG g).getD k id0)).2
 rw [wk_ids W] at h2
 rw [h1, h2] at h3
 exact h3
theorem wk_isW (x : Int) (d : EId) : isW h x d = isW g x d := by
 unfold isW
 cases he : eventM g d with
 | none =>
  have := (wk_event W d).1
  rw [he] at this
  have : eventM h d = none := by simpa using this
  rw [this]
 | some e =>
  obtain ⟨e', h1, h2⟩ := wk_some W he
  rw [h1]
  simp only [h2.writes, h2.loc]
theorem wk_cnt (x : Int) : cntT x h.th = cntT x g.th := by
 unfold cntT
 congr 1
 refine List.ext_getElem (by simp [W.len]) fun t h1 h2 => ?_
 rw [List.getElem_map, List.getElem_map]
 have ht : t < g.th.length := by simpa using h2
 have ht' : t < h.th.length := by rw [W.len]; exact ht
 have e1 := W.lens t
 rw [gD' ht, gD' ht'] at e1
 have key : ∀ k, k ≤ (g.th[t]).length → cntE x ((h.th[t]).take k) = cntE x ((g.th[t]).take k) := fun k => by
  induction k with
  | zero => intro _; rfl
  | succ k ih =>
   intro hk
   rw [cntE_succ x _ k (by omega), cntE_succ x _ k (by omega), ih (by omega)]
   have := W.evs t k
   rw [gD' ht, gD' ht'] at this
   rw [this.writes, this.loc]
 have := key _ (Nat.le_refl _)
 rwa [List.take_of_length_le (by omega), List.take_of_length_le (Nat.le_refl _)] at this
theorem wk_ok (hg : GOk g) : GOk h where
 short := by
  refine ⟨by rw [W.len]; exact hg.short.th, by rw [W.init]; exact hg.short.init, fun l hl => ?_⟩
  obtain ⟨t, ht, rfl⟩ := List.getElem_of_mem hl
  have := W.lens t
  rw [gD' ht] at this
  rw [this]; exact hg.short.at t
 lfr := by rw [W.fr, W.len]; exact hg.lfr
 lord := by rw [W.ord, W.init]; exact hg.lord
 events := fun t ht => by
  rw [W.len] at ht
  obtain ⟨h1, h2⟩ := hg.events t ht
  refine ⟨by rw [W.fr, W.lens]; exact h1, fun i hi => ?_⟩
  rw [W.lens] at hi
  have h3 := h2 i hi
  have h4 := W.evs t i
  unfold fineM at h3 ⊢
  rw [h4.reads, h4.writes, h4.kind, h4.loc, h4.rd, h4.wr, W.init]
  simp only [Bool.and_eq_true, decide_eq_true_eq] at h3 ⊢
  obtain ⟨⟨⟨⟨c1, c2, c3, c4⟩, c5⟩, c6⟩, c7⟩ := h3
  exact ⟨⟨⟨⟨c1, c2, h4.ord c3 c4⟩, c5⟩, c6⟩, c7⟩
 sources := fun t ht i hi => by
  rw [W.len] at ht
  rw [W.lens] at hi
  have h1 := hg.sources t ht i hi
  rw [W.fr]
  unfold sourceM at h1 ⊢
  have h2 := (wk_event W ⟨t + 1, i⟩).2
  rw [h2.reads, h2.loc, h2.rd]
  split at h1
  ·rename_i hr
   rw [if_pos hr]
   cases he : eventM g ((g.fr.getD t []).getD i id0) with
   | none => rw [he] at h1; cases h1
   | some e =>
    rw [he] at h1
    obtain ⟨e', h3, h4⟩ := wk_some W he
    rw [h3]
    simp only [h4.writes, h4.loc, h4.wr]
    exact h1
  ·rename_i hr
   rw [if_neg hr]; exact h1
 orders := fun x hx => by
  rw [W.init] at hx
  have h1 := (ordered_iff g x).1 (hg.orders x hx)
  refine (ordered_iff h x).2 ⟨by rw [W.ord]; exact h1.1, fun d hd => ?_, by rw [W.ord, wk_cnt W]; exact h1.2.2⟩
  rw [W.ord] at hd
  rw [wk_isW W]; exact h1.2.1 d hd
theorem wk_po (a b : Nat) : poM (viewG h) a b = poM (viewG g) a b := by
 unfold poM
 show _ = _
 have e : (viewG h).ids = (viewG g).ids := wk_ids W
 rw [e]
theorem wk_vfr : (viewG h).fr = (viewG g).fr := by
 show tabI (nG h) _ = tabI (nG g) _
 rw [wk_n W, wk_ids W]
 exact tabI_congr fun i _ => wk_fr W _
theorem wk_vpl : (viewG h).pl = (viewG g).pl := by
 show tabI (nG h) _ = tabI (nG g) _
 rw [wk_n W, wk_ids W]
 exact tabI_congr fun i _ => wk_pl W _
theorem wk_seq {w i : Nat} (hi : InSeq (viewG h) (nG g) w i) : InSeq (viewG g) (nG g) w i := by
 induction hi with
 | base => exact .base
 | step h1 h2 _ ih =>
  rw [wk_vfr W] at ih
  exact .step h1 (by rw [← (wk_ev W h1).kind]; exact h2) ih
theorem wk_sw (hg : GOk g) {r a : Nat} (hb : bit (swF (viewG h) (nG g)) r a = true) : bit (swF (viewG g) (nG g)) r a = true := by
 have hs := (viewG_wf hg).small
 rw [sw_iffE hs] at hb ⊢
 obtain ⟨hr, ha, w, hw, h1, b, hbn, h2, h3⟩ := hb
 refine ⟨hr, ha, w, hw, ?_, b, hbn, ?_, ?_⟩
 ·unfold swR at h1 ⊢
  have ew := wk_ev W hw
  have er := wk_ev W hr
  rw [ew.writes, er.fence, wk_po W] at h1
  simp only [Bool.and_eq_true, decide_eq_true_eq] at h1 ⊢
  exact ⟨⟨⟨h1.1.1.1, ew.na h1.1.1.2⟩, er.rel h1.1.2⟩, h1.2⟩
 ·unfold rdrM at h2 ⊢
  have eb := wk_ev W hbn
  rw [eb.reads, wk_vfr W] at h2
  simp only [Bool.and_eq_true, decide_eq_true_eq] at h2 ⊢
  refine ⟨⟨h2.1.1, eb.na h2.1.2⟩, ?_⟩
  rw [seq_bit (by omega) hw] at h2 ⊢
  exact wk_seq W h2.2
 ·unfold caM at h3 ⊢
  have ea := wk_ev W ha
  rw [ea.fence, wk_po W] at h3
  simp only [Bool.and_eq_true] at h3 ⊢
  exact ⟨ea.acq h3.1, h3.2⟩
theorem wk_hb (hg : GOk g) {i j : Nat} (hb : bit (hbF (viewG h) (nG h)) i j = true) : bit (hbF (viewG g) (nG g)) i j = true := by
 have hs := (viewG_wf hg).small
 rw [wk_n W] at hb
 have hn : nG h = nG g := wk_n W
 have hsh : nG h ≤ 62 := by rw [hn]; exact hs
 have f1 := fits_poF (viewG g) hs
 have f2 := fits_swF (viewG g) hs
 have f3 : Fits (nG g) (poF (viewG h) (nG g)) := fits_poF (viewG h) hs
 have f4 : Fits (nG g) (swF (viewG h) (nG g)) := fits_swF (viewG h) hs
 unfold hbF at hb ⊢
 refine plus_least (fun i j => bit (plusM (nG g) (orM (nG g) [((nG g : Int), poF (viewG g) (nG g)), ((nG g : Int), swF (viewG g) (nG g))])) i j = true) (fun i j h1 => plus_edge ?_) (fun i k j h1 h2 => plus_trans (fits_or2 f1 f2) h1 h2) hb
 rw [bit_or2 f3 f4] at h1
 rw [bit_or2 f1 f2]
 refine h1.imp (fun h => ?_) fun h => wk_sw W hg h
 unfold poF at h ⊢
 rw [bit_relI hs] at h ⊢
 rw [wk_po W] at h
 exact h
end
end Go.AL.Rl

namespace Go.AL.Rl
open Go Go.AL Go.Proofs
set_option maxRecDepth 100000
set_option maxHeartbeats 1600000
variable {γ : Nat → Option AV}

abbrev aFc (g : Gr) (n : Int) (po rf co fr eco porf loc sw hb : List (BitVec 64)) : AV :=
 .agg [.vs 1 fun _ => is g.init, .vs 1 fun _ => evss g.th, .vs 1 fun _ => idss g.fr, .vs 1 fun _ => idss g.ord, .i fun _ => n, .vs 1 fun _ => us po, .i fun _ => n, .vs 1 fun _ => us rf, .i fun _ => n, .vs 1 fun _ => us co, .i fun _ => n, .vs 1 fun _ => us fr, .i fun _ => n, .vs 1 fun _ => us eco, .i fun _ => n, .vs 1 fun _ => us porf, .i fun _ => n, .vs 1 fun _ => us loc, .i fun _ => n, .vs 1 fun _ => us sw, .i fun _ => n, .vs 1 fun _ => us hb]
theorem known_ok (m : Int) : Pure Try.prog γ false 23 [.i fun _ => m] (.b fun _ => decide (m = 1 ∨ m = 2)) := by
 refine Pure.go (ty := ty) ty_eq mo Try.func23 rfl Try.ntmps23 Try.results23 Try.call23 (by simp) fun P C CQ D W F E hF => ?_
 cbv
 repeat' (first
  |(refine ⟨fun _ h_s=>?_,fun _ h_s=>?_⟩<;>(cbv;(try simp only [nc] at *);try simp (disch:=(first|omega|(simp only [lnS];omega))) only [rdT,rdS,reduceCtorEq,trT] at h_s))
  |(refine hF ?_;intro _;clear hF)
  |(refine hF ?_;cbv;clear hF)
  |(refine ⟨fun _=>?_,?_⟩;(· ((try simp only [nc] at *);first|done|omega|exact ⟨by omega,rfl⟩|(simp (disch:=(first|omega|(simp only [lnS];omega))) only [rdT,rdS];first|done|omega|rfl|exact ⟨by omega,rfl⟩|(simp;done)|(simp;omega))|(intros;trivial)));(try (simp only [nc] at *));(try simp (disch:=(first|omega|(simp only [lnS];omega))) only [rdT,rdS]);(try cbv))
  | fail
 )
 all_goals simp_all
theorem rules_yes1 : Pure Try.prog γ false 32 [.i fun _ => 1] (.vs 1 fun _ => is [1, 2, 6]) := by
 refine Pure.go (ty := ty) ty_eq mo Try.func32 rfl Try.ntmps32 Try.results32 Try.call32 (by simp) fun P C CQ D W F E hF => ?_
 cbv
 repeat' (first
  |(refine ⟨fun _ h_s=>?_,fun _ h_s=>?_⟩<;>(cbv;(try simp only [nc] at *);try simp (disch:=(first|omega|(simp only [lnS];omega))) only [rdT,rdS,reduceCtorEq,trT] at h_s))
  |(refine hF ?_;intro _;clear hF)
  |(refine hF ?_;cbv;clear hF)
  |(refine ⟨fun _=>?_,?_⟩;(· ((try simp only [nc] at *);first|done|omega|exact ⟨by omega,rfl⟩|(simp (disch:=(first|omega|(simp only [lnS];omega))) only [rdT,rdS];first|done|omega|rfl|exact ⟨by omega,rfl⟩|(simp;done)|(simp;omega))|(intros;trivial)));(try (simp only [nc] at *));(try simp (disch:=(first|omega|(simp only [lnS];omega))) only [rdT,rdS]);(try cbv))
  | fail
 )
 all_goals simp_all [is, setAll, LV.of, AV.nrm]
theorem rules_yes2 : Pure Try.prog γ false 32 [.i fun _ => 2] (.vs 1 fun _ => is [1, 2, 3, 4, 5]) := by
 refine Pure.go (ty := ty) ty_eq mo Try.func32 rfl Try.ntmps32 Try.results32 Try.call32 (by simp) fun P C CQ D W F E hF => ?_
 cbv
 repeat' (first
  |(refine ⟨fun _ h_s=>?_,fun _ h_s=>?_⟩<;>(cbv;(try simp only [nc] at *);try simp (disch:=(first|omega|(simp only [lnS];omega))) only [rdT,rdS,reduceCtorEq,trT] at h_s))
  |(refine hF ?_;intro _;clear hF)
  |(refine hF ?_;cbv;clear hF)
  |(refine ⟨fun _=>?_,?_⟩;(· ((try simp only [nc] at *);first|done|omega|exact ⟨by omega,rfl⟩|(simp (disch:=(first|omega|(simp only [lnS];omega))) only [rdT,rdS];first|done|omega|rfl|exact ⟨by omega,rfl⟩|(simp;done)|(simp;omega))|(intros;trivial)));(try (simp only [nc] at *));(try simp (disch:=(first|omega|(simp only [lnS];omega))) only [rdT,rdS]);(try cbv))
  | fail
 )
 all_goals simp_all [is, setAll, LV.of, AV.nrm]
def gB : Gr := ⟨[0, 0], [[⟨2, 0, 5, 0, 1⟩, ⟨1, 1, 5, 0, 0⟩], [⟨2, 1, 5, 0, 1⟩, ⟨1, 0, 5, 0, 0⟩]], [[⟨0, 0⟩, ⟨0, 1⟩], [⟨0, 0⟩, ⟨0, 0⟩]], [[⟨1, 0⟩], [⟨2, 0⟩]]⟩
theorem ar_ok (k l w : Int) : Pure Try.prog γ false 29 [.i fun _ => k, .i fun _ => l, .i fun _ => w] (aEv ⟨k, l, 5, 0, w⟩) := by
 refine Pure.go (ty := ty) ty_eq mo Try.func29 rfl Try.ntmps29 Try.results29 Try.call29 (by simp) fun P C CQ D W F E hF => ?_
 cbv
 repeat' (first
  |(refine ⟨fun _ h_s=>?_,fun _ h_s=>?_⟩<;>(cbv;(try simp only [nc] at *);try simp (disch:=(first|omega|(simp only [lnS];omega))) only [rdT,rdS,reduceCtorEq,trT] at h_s))
  |(refine hF ?_;intro _;clear hF)
  |(refine hF ?_;cbv;clear hF)
  |(refine ⟨fun _=>?_,?_⟩;(· ((try simp only [nc] at *);first|done|omega|exact ⟨by omega,rfl⟩|(simp (disch:=(first|omega|(simp only [lnS];omega))) only [rdT,rdS];first|done|omega|rfl|exact ⟨by omega,rfl⟩|(simp;done)|(simp;omega))|(intros;trivial)));(try (simp only [nc] at *));(try simp (disch:=(first|omega|(simp only [lnS];omega))) only [rdT,rdS]);(try cbv))
  | fail
 )
 all_goals (try simp only [nc] at *)
 all_goals (try simp (disch:=(first|omega|(simp only [lnS];omega))) only [rdT,rdS])
theorem buffers_ok : Pure Try.prog γ false 17 [] (aGr gB) := by
 refine Pure.go (ty := ty) ty_eq mo Try.func17 rfl Try.ntmps17 Try.results17 Try.call17 (by simp) fun P C CQ D W F E hF => ?_
 cbv
 repeat' (first
  |(refine E.c (SCalls.of_le (ar_ok 1 0 0) ?_ ?_);(· (cbv;(try simp only [nc] at *);first|done|(simp;done)|(simp (disch:=(first|omega|(simp only [lnS];omega))) only [rdT,rdS,anT];first|done|omega|(refine ⟨?_,?_⟩<;>omega))|(simp (disch:=(first|omega|(simp only [lnS];omega))) [rdT,rdS];done)));cbv)
  |(refine E.c (SCalls.of_le (ar_ok 2 1 1) ?_ ?_);(· (cbv;(try simp only [nc] at *);first|done|(simp;done)|(simp (disch:=(first|omega|(simp only [lnS];omega))) only [rdT,rdS,anT];first|done|omega|(refine ⟨?_,?_⟩<;>omega))|(simp (disch:=(first|omega|(simp only [lnS];omega))) [rdT,rdS];done)));cbv)
  |(refine E.c (SCalls.of_le (ar_ok 1 1 0) ?_ ?_);(· (cbv;(try simp only [nc] at *);first|done|(simp;done)|(simp (disch:=(first|omega|(simp only [lnS];omega))) only [rdT,rdS,anT];first|done|omega|(refine ⟨?_,?_⟩<;>omega))|(simp (disch:=(first|omega|(simp only [lnS];omega))) [rdT,rdS];done)));cbv)
  |(refine E.c (SCalls.of_le (ar_ok 2 0 1) ?_ ?_);(· (cbv;(try simp only [nc] at *);first|done|(simp;done)|(simp (disch:=(first|omega|(simp only [lnS];omega))) only [rdT,rdS,anT];first|done|omega|(refine ⟨?_,?_⟩<;>omega))|(simp (disch:=(first|omega|(simp only [lnS];omega))) [rdT,rdS];done)));cbv)
  |(refine ⟨fun _ h_s=>?_,fun _ h_s=>?_⟩<;>(cbv;(try simp only [nc] at *);try simp (disch:=(first|omega|(simp only [lnS];omega))) only [rdT,rdS,reduceCtorEq,trT] at h_s))
  |(refine hF ?_;intro _;clear hF)
  |(refine hF ?_;cbv;clear hF)
  |(refine ⟨fun _=>?_,?_⟩;(· ((try simp only [nc] at *);first|done|omega|exact ⟨by omega,rfl⟩|(simp (disch:=(first|omega|(simp only [lnS];omega))) only [rdT,rdS];first|done|omega|rfl|exact ⟨by omega,rfl⟩|(simp;done)|(simp;omega))|(intros;trivial)));(try (simp only [nc] at *));(try simp (disch:=(first|omega|(simp only [lnS];omega))) only [rdT,rdS]);(try cbv))
  | fail
 )
theorem circle_ok (n : Int) (rows : List (BitVec 64)) (hl : rows.length ≤ 64) : Pure Try.prog γ false 42 [encRel n rows] (aFt (circF rows)) := by
 refine Pure.go (ty := ty) ty_eq mo Try.func42 rfl Try.ntmps42 Try.results42 Try.call42 (by simp) fun P C CQ D W F E hF => ?_
 cbv
 repeat' (first
  |(refine ⟨fun _ h_s=>?_,fun _ h_s=>?_⟩<;>(cbv;(try simp only [nc] at *);try simp (disch:=(first|omega|(simp only [lnS];omega))) only [rdT,rdS,reduceCtorEq,trT] at h_s))
  |(refine hF ?_;intro _;clear hF)
  |(refine hF ?_;cbv;clear hF)
  |(refine ⟨fun _=>?_,?_⟩;(· ((try simp only [nc] at *);first|done|omega|exact ⟨by omega,rfl⟩|(simp (disch:=(first|omega|(simp only [lnS];omega))) only [rdT,rdS];first|done|omega|rfl|exact ⟨by omega,rfl⟩|(simp;done)|(simp;omega))|(intros;trivial)));(try (simp only [nc] at *));(try simp (disch:=(first|omega|(simp only [lnS];omega))) only [rdT,rdS]);(try cbv))
  | fail
 )
 refine E.loopS (ι:=Nat) (fun i=>i≤rows.length∧(∀ k < i,bit rows k k = false)) (fun i=>rows.length - i) (fun i=>[(8,.i fun _=>((i : Nat) : Int))]) (fun i h=>h) 0 (fun _=>by first|rfl|simp) ⟨Nat.zero_le _,?_⟩ ?_ fun i hi I hI=>?_
 ·intro k hk; omega
 ·cbv; simp
 cbv
 obtain ⟨hi, hp⟩ := hi
 have hb : bit rows i i = (!decide ((rows.getD i 0 >>> i) &&& 1#64 = 0#64)) := (getLsb_and1 _ _).symm
 have hbi := bofInt (k := i) (by omega)
 repeat' (first
  |(refine hI (i + 1) ?_ ?_ ?_;rotate_left 1;(· ((try simp only [nc] at *);omega));(cbv;clear hI;(try clear hF);(try simp only [nc] at *);(try simp (disch:=(first|omega|(simp only [lnS];omega))) only [rdT,rdS,anT]));rotate_left 1;(try ((try simp only [nc] at *);omega)))
  |(refine ⟨fun _ h_s=>?_,fun _ h_s=>?_⟩<;>(cbv;(try simp only [nc] at *);try simp (disch:=(first|omega|(simp only [lnS];omega))) only [rdT,rdS,reduceCtorEq,trT] at h_s))
  |(refine hF ?_;intro _;clear hF)
  |(refine hF ?_;cbv;clear hF)
  |(refine ⟨fun _=>?_,?_⟩;(· ((try simp only [nc] at *);first|done|omega|exact ⟨by omega,rfl⟩|(simp (disch:=(first|omega|(simp only [lnS];omega))) only [rdT,rdS];first|done|omega|rfl|exact ⟨by omega,rfl⟩|(simp;done)|(simp;omega))|(intros;trivial)));(try (simp only [nc] at *));(try simp (disch:=(first|omega|(simp only [lnS];omega))) only [rdT,rdS]);(try cbv))
  | fail
 )
 ·have hbt : bit rows i i = true := by rw [hb]; simpa using h_s
  rw [circF_at (by ((try simp only [nc] at *); omega)) hbt hp]
  exact ⟨fun _ => rfl, fun _ => rfl, fun _ => rfl, trivial⟩
 ·refine ⟨by ((try simp only [nc] at *); omega), fun k hk => ?_⟩
  rcases Nat.lt_or_ge k i with h1 | h1
  ·exact hp k h1
  ·obtain rfl : k = i := by omega
   rw [hb]; simpa using h_s
 ·push_cast; rfl
 ·have e : i = rows.length := by ((try simp only [nc] at *); omega)
  subst e
  rw [circF_no hp]
  exact ⟨fun _ => rfl, fun _ => rfl, fun _ => rfl, trivial⟩
theorem index_at (l : List EId) (d : EId) (hl : (l.length : Int) ≤ 9223372036854775807) (k0 : Nat) (hk0 : k0 < l.length) (hd : l.getD k0 id0 = d) (hb : ∀ k < k0, l.getD k id0 ≠ d) : Pure Try.prog γ false 92 [.vs 2 fun _ => ids l, aId d] (.i fun _ => (k0 : Int)) := by
 refine Pure.go (ty := ty) ty_eq mo Try.func92 rfl Try.ntmps92 Try.results92 Try.call92 (by simp) fun P C CQ D W F E hF => ?_
 cbv
 repeat' (first
  |(refine ⟨fun _ h_s=>?_,fun _ h_s=>?_⟩<;>(cbv;(try simp only [nc] at *);try simp (disch:=(first|omega|(simp only [lnS];omega))) only [rdT,rdS,reduceCtorEq,trT] at h_s))
  |(refine hF ?_;intro _;clear hF)
  |(refine hF ?_;cbv;clear hF)
  |(refine ⟨fun _=>?_,?_⟩;(· ((try simp only [nc] at *);first|done|omega|exact ⟨by omega,rfl⟩|(simp (disch:=(first|omega|(simp only [lnS];omega))) only [rdT,rdS];first|done|omega|rfl|exact ⟨by omega,rfl⟩|(simp;done)|(simp;omega))|(intros;trivial)));(try (simp only [nc] at *));(try simp (disch:=(first|omega|(simp only [lnS];omega))) only [rdT,rdS]);(try cbv))
  |(refine E.d 5 (by decide +kernel) ?_;cbv;(fail_if_success guard_target =~ False))
  | fail
 )
 refine E.loopS (ι:=Nat) (fun i=>i≤l.length∧(i≤k0)) (fun i=>l.length - i) (fun i=>[(8,.i fun _=>((i : Nat) : Int))]) (fun i h=>h) 0 (fun _=>by first|rfl|simp) ⟨Nat.zero_le _,?_⟩ ?_ fun i hi I hI=>?_
 ·omega
 ·cbv; simp
 cbv
 obtain ⟨hi, hp⟩ := hi
 repeat' (first
  |(refine hI (i + 1) ?_ ?_ ?_;rotate_left 1;(· ((try simp only [nc] at *);omega));(cbv;clear hI;(try clear hF);(try simp only [nc] at *);(try simp (disch:=(first|omega|(simp only [lnS];omega))) only [rdT,rdS,anT]));rotate_left 1;(try ((try simp only [nc] at *);omega)))
  |(refine ⟨fun _ h_s=>?_,fun _ h_s=>?_⟩<;>(cbv;(try simp only [nc] at *);try simp (disch:=(first|omega|(simp only [lnS];omega))) only [rdT,rdS,reduceCtorEq,trT] at h_s))
  |(refine hF ?_;intro _;clear hF)
  |(refine hF ?_;cbv;clear hF)
  |(refine ⟨fun _=>?_,?_⟩;(· ((try simp only [nc] at *);first|done|omega|exact ⟨by omega,rfl⟩|(simp (disch:=(first|omega|(simp only [lnS];omega))) only [rdT,rdS];first|done|omega|rfl|exact ⟨by omega,rfl⟩|(simp;done)|(simp;omega))|(intros;trivial)));(try (simp only [nc] at *));(try simp (disch:=(first|omega|(simp only [lnS];omega))) only [rdT,rdS]);(try cbv))
  |(refine E.d 5 (by decide +kernel) ?_;cbv;(fail_if_success guard_target =~ False))
  | fail
 )
 ·simp only [Bool.and_true, Bool.and_eq_true, decide_eq_true_eq] at h_s
  have he : l.getD i id0 = d := (EId.ext' h_s.1 h_s.2).symm
  have e : i = k0 := by
   rcases Nat.lt_or_ge i k0 with h1 | h1
   ·exact absurd he (hb i h1)
   ·omega
  subst e; rfl
 ·refine ⟨by ((try simp only [nc] at *); omega), ?_⟩
  rcases Nat.lt_or_ge i k0 with h1 | h1
  ·omega
  ·exfalso
   obtain rfl : i = k0 := by omega
   rw [hd] at h_s
   simp at h_s
 ·push_cast; rfl
 ·exfalso; ((try simp only [nc] at *); omega)
end Go.AL.Rl

namespace Go.AL.Rl
open Go Go.AL Go.Proofs
set_option maxRecDepth 100000
set_option maxHeartbeats 3200000
variable {γ : Nat → Option AV}

theorem place_at (g : Gr) (hg : Rd g) (loc : Int) (d : EId) (p : Int)
  (hp : (d.t = 0 ∧ p = 0) ∨ (d.t ≠ 0 ∧ 0 ≤ loc ∧ loc < g.ord.length ∧ ∃ k0 : Nat, p = k0 + 1 ∧ k0 < (g.ord.getD loc.toNat []).length ∧ (g.ord.getD loc.toNat []).getD k0 id0 = d ∧ ∀ k < k0, (g.ord.getD loc.toNat []).getD k id0 ≠ d)) :
  Pure Try.prog γ false 64 [aGr g, .i fun _ => loc, aId d] (.i fun _ => p) := by
 have hor := hg.ord
 have hord := ordsAt hg loc.toNat
 rcases hp with ⟨h0, hp⟩ | ⟨h0, h1, h2, k0, h3, h4, h5, h6⟩
 ·subst hp
  refine Pure.go (ty := ty) ty_eq mo Try.func64 rfl Try.ntmps64 Try.results64 Try.call64 (by simp) fun P C CQ D W F E hF => ?_
  cbv
  repeat' (first
   |(refine ⟨fun _ h_s=>?_,fun _ h_s=>?_⟩<;>(cbv;(try simp only [nc] at *);try simp (disch:=(first|omega|(simp only [lnS];omega))) only [rdT,rdS,reduceCtorEq,trT] at h_s))
   |(refine hF ?_;intro _;clear hF)
   |(refine hF ?_;cbv;clear hF)
   |(refine ⟨fun _=>?_,?_⟩;(· ((try simp only [nc] at *);first|done|omega|exact ⟨by omega,rfl⟩|(simp (disch:=(first|omega|(simp only [lnS];omega))) only [rdT,rdS];first|done|omega|rfl|exact ⟨by omega,rfl⟩|(simp;done)|(simp;omega))|(intros;trivial)));(try (simp only [nc] at *));(try simp (disch:=(first|omega|(simp only [lnS];omega))) only [rdT,rdS]);(try cbv))
   |(refine E.d 6 (by decide +kernel) ?_;cbv;(fail_if_success guard_target =~ False))
   | fail
  )
  all_goals simp_all
 ·have kx := index_at (γ := γ) (g.ord.getD loc.toNat []) d hord k0 h4 h5 h6
  obtain ⟨l, hl⟩ : ∃ l, l = g.ord.getD loc.toNat [] := ⟨_, rfl⟩
  rw [← hl] at kx h4 hord
  clear h5 h6
  refine Pure.go (ty := ty) ty_eq mo Try.func64 rfl Try.ntmps64 Try.results64 Try.call64 (by simp) fun P C CQ D W F E hF => ?_
  cbv
  skip
  repeat' (first
   |((first|refine E.c (SCalls.of_le (kx) ?_ ?_)|refine E.q (QCalls.of_le (kx) ?_ ?_));(· (cbv;(try simp only [nc] at *);first|done|(simp;done)|(simp (disch:=(first|omega|(simp only [lnS];omega))) only [rdT,rdS,← hl,anT];first|done|omega|(refine ⟨?_,?_⟩<;>omega))|(simp (disch:=(first|omega|(simp only [lnS];omega))) [rdT,rdS,← hl];done)));cbv)
   |(refine ⟨fun _ h_s=>?_,fun _ h_s=>?_⟩<;>(cbv;(try simp only [nc] at *);try simp (disch:=(first|omega|(simp only [lnS];omega))) only [rdT,rdS,← hl,reduceCtorEq,trT] at h_s))
   |(refine hF ?_;intro _;clear hF)
   |(refine hF ?_;cbv;clear hF)
   |(refine ⟨fun _=>?_,?_⟩;(· ((try simp only [nc] at *);first|done|omega|exact ⟨by omega,rfl⟩|(simp (disch:=(first|omega|(simp only [lnS];omega))) only [rdT,rdS,← hl];first|done|omega|rfl|exact ⟨by omega,rfl⟩|(simp;done)|(simp;omega))|(intros;trivial)));(try (simp only [nc] at *));(try simp (disch:=(first|omega|(simp only [lnS];omega))) only [rdT,rdS,← hl]);(try cbv))
   |(refine E.d 6 (by decide +kernel) ?_;cbv;(fail_if_success guard_target =~ False))
   | fail
  )
  ·exact absurd (by assumption) h0
  ·rw [h3]
   simp only
   (try simp only [nc] at *)
   rw [w64_of (by ((try simp only [nc] at *); omega)) (by ((try simp only [nc] at *); omega))]
/-- the number of an event of a thread -/
def kN (g : Gr) (t i : Nat) : Nat := g.init.length + (evsT g t).length + i
theorem idsT_at (g : Gr) (t i : Nat) (hi : i < (g.th.getD t []).length) : ∀ T, t < T → (evsT g t).length + i < (idsT g T).length ∧ (idsT g T).getD ((evsT g t).length + i) id0 = ⟨(t : Int) + 1, (i : Int)⟩
 | 0, h => absurd h (Nat.not_lt_zero _)
 | T + 1, h => by
  rw [idsT_succ]
  by_cases e : t = T
  ·subst e
   have hl := idsT_len g t
   have hE := idsE_len t (g.th.getD t []).length
   refine ⟨by rw [List.length_append, hE]; omega, ?_⟩
   rw [List.getD_eq_getElem?_getD, List.getElem?_append_right (by omega)]
   rw [show (evsT g t).length + i - (idsT g t).length = i by omega]
   have hi' : i < (g.th[t]?.getD []).length := by simpa using hi
   simp [idsE, hi']
  ·obtain ⟨h1, h2⟩ := idsT_at g t i hi T (by omega)
   refine ⟨by rw [List.length_append]; omega, ?_⟩
   rw [List.getD_eq_getElem?_getD, List.getElem?_append_left h1, ← List.getD_eq_getElem?_getD, h2]
theorem kN_ids {g : Gr} {t i : Nat} (ht : t < g.th.length) (hi : i < (g.th.getD t []).length) : kN g t i < nG g ∧ (idsG g).getD (kN g t i) id0 = ⟨(t : Int) + 1, (i : Int)⟩ := by
 obtain ⟨h1, h2⟩ := idsT_at g t i hi g.th.length ht
 have hI := idsI_len g.init.length
 refine ⟨by unfold nG idsG kN; rw [List.length_append, hI]; omega, ?_⟩
 unfold idsG kN
 rw [List.getD_eq_getElem?_getD, List.getElem?_append_right (by omega), hI, show g.init.length + (evsT g t).length + i - g.init.length = (evsT g t).length + i by omega, ← List.getD_eq_getElem?_getD, h2]
theorem kN_ev {g : Gr} {t i : Nat} (ht : t < g.th.length) (hi : i < (g.th.getD t []).length) (hs : g.th.length ≤ 4) : (viewG g).ev.getD (kN g t i) ev0 = (g.th.getD t []).getD i ev0 := by
 obtain ⟨h1, h2⟩ := kN_ids ht hi
 have := evsG_get g (kN g t i) h1
 rw [h2] at this
 unfold eventM at this
 have hi' : i < (g.th[t]?.getD []).length := by simpa using hi
 rw [if_neg (by simp; omega), if_pos (by simp; omega)] at this
 have e := (Option.some.inj this).symm
 show (evsG g).getD _ _ = _
 rw [e]
 simp
theorem place_num (g : Gr) (hg : Rd g) (h : GOk g) (k : Nat) (hk : k < nG g) (hw : writesM ((viewG g).ev.getD k ev0) = true) (loc : Int) (hloc : loc = ((viewG g).ev.getD k ev0).loc) (d : EId) (hd : (idsG g).getD k id0 = d) :
  Pure Try.prog γ false 64 [aGr g, .i fun _ => loc, aId d] (.i fun _ => (viewG g).pl.getD k 0) := by
 subst hloc
 subst hd
 have hev := vev h k hk
 rw [vpl h k hk]
 refine place_at g hg _ _ _ ?_
 rcases pl_write h hev hw with h1 | ⟨h0, k0, h1, h2, h3⟩
 ·exact .inl h1
 ·have hl := fine_loc (event_fine h hev h0) (notFence_w hw)
  have hnd : (g.ord.getD ((viewG g).ev.getD k ev0).loc.toNat []).Nodup := ((ordered_iff g _).1 (h.orders _ (by omega))).1
  refine .inr ⟨h0, hl.1, by rw [h.lord]; exact hl.2, k0, h1, h2, h3, fun j hj he => ?_⟩
  have : j = k0 := getD_inj hnd (by omega) h2 (he.trans h3.symm)
  omega
end Go.AL.Rl

namespace Go.AL.Rl
open Go Go.AL Go.Proofs
set_option maxRecDepth 100000
set_option maxHeartbeats 3200000
variable {γ : Nat → Option AV}

theorem kN_next (g : Gr) (t : Nat) : kN g t (g.th.getD t []).length = kN g (t + 1) 0 := by
 unfold kN; rw [evsT_succ, List.length_append]; omega
theorem kN_end (g : Gr) : kN g g.th.length 0 = nG g := by
 unfold kN nG idsG; rw [List.length_append, idsI_len, idsT_len]; omega
theorem upd_init {g : Gr} (h : GOk g) (k : Nat) (hk : k < kN g 0 0) : updB (viewG g) k = false := by
 have hk' : k < g.init.length := by simpa [kN, evsT] using hk
 have hn : k < nG g := by unfold nG idsG; rw [List.length_append, idsI_len]; omega
 have he := vev h k hn
 have h0 : ((idsG g).getD k id0).t = 0 := by
  unfold idsG
  rw [List.getD_eq_getElem?_getD, List.getElem?_append_left (by rw [idsI_len]; exact hk')]
  simp [idsI, hk']
 have := (event_init he h0).1
 unfold updB
 rw [this]; rfl
theorem upd_src {g : Gr} (h : GOk g) {t i : Nat} (ht : t < g.th.length) (hi : i < (g.th.getD t []).length) (hr : readsM ((viewG g).ev.getD (kN g t i) ev0) = true) :
  ∃ w : Nat, (viewG g).fr.getD (kN g t i) 0 = w ∧ w < nG g ∧ writesM ((viewG g).ev.getD w ev0) = true ∧ ((viewG g).ev.getD w ev0).loc = ((viewG g).ev.getD (kN g t i) ev0).loc ∧ (idsG g).getD w id0 = (g.fr.getD t []).getD i id0 := by
 obtain ⟨hk, hd⟩ := kN_ids ht hi
 obtain ⟨w, h1, h2, h3, h4, h5⟩ := src_of h (kN g t i) hk hr
 refine ⟨w, h1, h2, h4, h5, ?_⟩
 have e := vfr h _ hk
 rw [hd] at e
 have hev := vev h _ hk
 rw [hd] at hev
 unfold frOf at e
 rw [if_neg (by simp; omega), hev] at e
 simp only [Option.getD_some] at e
 rw [if_pos hr, h1] at e
 have hw : w = numOf (idsG g) (srcOf g ⟨(t : Int) + 1, (i : Int)⟩) := Int.ofNat_inj.1 e
 have hm : srcOf g ⟨(t : Int) + 1, (i : Int)⟩ ∈ idsG g := by
  obtain ⟨wv, k1, _⟩ := source_mem (src_ok h (d := ⟨(t : Int) + 1, (i : Int)⟩) (by rw [← hd]; exact List.getElem_eq_getD (h := hk) id0 ▸ List.getElem_mem _) (by simp; omega)) (by rw [hev]; exact hr)
  exact idsG_mem.2 (by rw [k1]; rfl)
 rw [hw, numOf_get hm]
 unfold srcOf
 simp
theorem ord_small {g : Gr} (h : GOk g) {x : Nat} (hx : x < g.init.length) : (g.ord.getD x []).length ≤ 56 := by
 have h1 := h.orders x hx
 unfold orderedM at h1
 rw [Bool.and_eq_true, decide_eq_true_eq, decide_eq_true_eq] at h1
 have h2 := cntT_le (ts := g.th) (x : Int) h.short.ths
 have h3 := h.short.th
 omega
theorem pl_small {g : Gr} (h : GOk g) {k : Nat} (hk : k < nG g) (hw : writesM ((viewG g).ev.getD k ev0) = true) : 0 ≤ (viewG g).pl.getD k 0 ∧ (viewG g).pl.getD k 0 ≤ 60 := by
 have hev := vev h k hk
 rw [vpl h k hk]
 rcases pl_write h hev hw with h1 | ⟨h0, k0, h1, h2, h3⟩
 ·omega
 ·have hl := fine_loc (event_fine h hev h0) (notFence_w hw)
  have := ord_small h (x := ((viewG g).ev.getD k ev0).loc.toNat) (by omega)
  omega
theorem update_ok (g : Gr) (hg : Rd g) (h : GOk g) (n : Int) (po rf co fr eco porf loc sw hb : List (BitVec 64)) : Pure Try.prog γ false 40 [aFc g n po rf co fr eco porf loc sw hb] (aFt (updF (viewG g) (nG g))) := by
 have hth := h.short.th
 have hin := h.short.init
 have hle : ∀ t, (g.th.getD t []).length ≤ 14 := h.short.at
 have hk0 : kN g 0 0 = g.init.length := by simp [kN, evsT]
 have hkb : ∀ t i, t ≤ g.th.length → i ≤ (g.th.getD t []).length → kN g t i ≤ 100 := fun t i h1 h2 => by
  have := evsT_len h.short t
  have := hle t
  unfold kN; omega
 have hU : ∀ k, k < nG g → updB (viewG g) k = true → (∀ j < k, updB (viewG g) j = false) → updF (viewG g) (nG g) = ⟨k, -1, true⟩ := fun k h1 h2 h3 => updF_at h1 h2 h3
 have hU0 : (∀ j < nG g, updB (viewG g) j = false) → updF (viewG g) (nG g) = ⟨0, 0, false⟩ := updF_no
 have hui := upd_init h
 generalize updF (viewG g) (nG g) = FT at *
 refine Pure.go (ty := ty) ty_eq mo Try.func40 rfl Try.ntmps40 Try.results40 Try.call40 (by simp) fun P C CQ D W F E hF => ?_
 cbv
 repeat' (first
  |(refine ⟨fun _ h_s=>?_,fun _ h_s=>?_⟩<;>(cbv;(try simp only [nc] at *);try simp (disch:=(first|omega|(simp only [lnS];omega))) only [rdT,rdS,reduceCtorEq,trT] at h_s))
  |(refine hF ?_;intro _;clear hF)
  |(refine hF ?_;cbv;clear hF)
  |(refine ⟨fun _=>?_,?_⟩;(· ((try simp only [nc] at *);first|done|omega|exact ⟨by omega,rfl⟩|(simp (disch:=(first|omega|(simp only [lnS];omega))) only [rdT,rdS];first|done|omega|rfl|exact ⟨by omega,rfl⟩|(simp;done)|(simp;omega))|(intros;trivial)));(try (simp only [nc] at *));(try simp (disch:=(first|omega|(simp only [lnS];omega))) only [rdT,rdS]);(try cbv))
  |(refine E.d 16 (by decide +kernel) ?_;cbv;(fail_if_success guard_target =~ False))
  | fail
 )
 refine E.loopS (ι:=Nat) (fun t=>t≤g.th.length∧(∀ k < kN g t 0,updB (viewG g) k = false)) (fun t=>g.th.length - t) (fun t=>[(17,.i fun _=>((t : Nat) : Int)),(3,.i fun _=>((kN g t 0 : Nat) : Int))]) (fun t h=>h) 0 (fun _=>by first|rfl|simp) ⟨Nat.zero_le _,?_⟩ ?_ fun t ht I hI=>?_
 ·exact hui
 ·cbv; simp [hk0]
 cbv
 obtain ⟨ht, hp⟩ := ht
 repeat' (first
  |(refine ⟨fun _ h_s=>?_,fun _ h_s=>?_⟩<;>(cbv;(try simp only [nc] at *);try simp (disch:=(first|omega|(simp only [lnS];omega))) only [rdT,rdS,reduceCtorEq,trT] at h_s))
  |(refine hF ?_;intro _;clear hF)
  |(refine hF ?_;cbv;clear hF)
  |(refine ⟨fun _=>?_,?_⟩;(· ((try simp only [nc] at *);first|done|omega|exact ⟨by omega,rfl⟩|(simp (disch:=(first|omega|(simp only [lnS];omega))) only [rdT,rdS];first|done|omega|rfl|exact ⟨by omega,rfl⟩|(simp;done)|(simp;omega))|(intros;trivial)));(try (simp only [nc] at *));(try simp (disch:=(first|omega|(simp only [lnS];omega))) only [rdT,rdS]);(try cbv))
  |(refine E.d 16 (by decide +kernel) ?_;cbv;(fail_if_success guard_target =~ False))
  | fail
 )
 ·refine E.loopS (ι:=Nat) (fun i=>i≤(g.th.getD t []).length∧(∀ k < kN g t i,updB (viewG g) k = false)) (fun i=>(g.th.getD t []).length - i) (fun i=>[(24,.i fun _=>((i : Nat) : Int)),(3,.i fun _=>((kN g t i : Nat) : Int))]) (fun i h=>h) 0 (fun _=>by first|rfl|simp) ⟨Nat.zero_le _,?_⟩ ?_ fun i hi I2 hI2=>?_
  ·exact hp
  ·cbv; simp
  cbv
  obtain ⟨hi, hp2⟩ := hi
  have hb := hkb t i ht hi
  have hb1 := hle t
  repeat' (first
   |(refine hI (t + 1) ?_ ?_ ?_;rotate_left 1;(· ((try simp only [nc] at *);omega));(cbv;clear hI;(try clear hF);(try simp only [nc] at *);(try simp (disch:=(first|omega|(simp only [lnS];omega))) only [rdT,rdS,anT]));rotate_left 1;(try ((try simp only [nc] at *);omega)))
   |(refine hI2 (i + 1) ?_ ?_ ?_;rotate_left 1;(· ((try simp only [nc] at *);omega));(cbv;clear hI2;(try clear hF);(try simp only [nc] at *);(try simp (disch:=(first|omega|(simp only [lnS];omega))) only [rdT,rdS,anT]));rotate_left 1;(try ((try simp only [nc] at *);omega)))
   |(refine ⟨fun _ h_s=>?_,fun _ h_s=>?_⟩<;>(cbv;(try simp only [nc] at *);try simp (disch:=(first|omega|(simp only [lnS];omega))) only [rdT,rdS,reduceCtorEq,trT] at h_s))
   |(refine hF ?_;intro _;clear hF)
   |(refine hF ?_;cbv;clear hF)
   |(refine ⟨fun _=>?_,?_⟩;(· ((try simp only [nc] at *);first|done|omega|exact ⟨by omega,rfl⟩|(simp (disch:=(first|omega|(simp only [lnS];omega))) only [rdT,rdS];first|done|omega|rfl|exact ⟨by omega,rfl⟩|(simp;done)|(simp;omega))|(intros;trivial)));(try (simp only [nc] at *));(try simp (disch:=(first|omega|(simp only [lnS];omega))) only [rdT,rdS]);(try cbv))
   |(refine E.d 16 (by decide +kernel) ?_;cbv;(fail_if_success guard_target =~ False))
   | fail
  )
  ·have ht' : t < g.th.length := by ((try simp only [nc] at *); omega)
   have hi' : i < (g.th.getD t []).length := by ((try simp only [nc] at *); omega)
   obtain ⟨hk, hd⟩ := kN_ids ht' hi'
   have hev := kN_ev ht' hi' hth
   have h3 : ((g.th.getD t []).getD i ev0).kind = 3 := by assumption
   have hr : readsM ((viewG g).ev.getD (kN g t i) ev0) = true := by rw [hev]; unfold readsM; rw [h3]; rfl
   have hw : writesM ((viewG g).ev.getD (kN g t i) ev0) = true := by rw [hev]; unfold writesM; rw [h3]; rfl
   obtain ⟨w, s1, s2, s3, s4, s5⟩ := upd_src h ht' hi' hr
   have p1 := place_num (γ := γ) g hg h (kN g t i) hk hw ((g.th.getD t []).getD i ev0).loc (by rw [hev]) ⟨(t : Int) + 1, (i : Int)⟩ hd
   have p2 := place_num (γ := γ) g hg h w s2 s3 ((g.th.getD t []).getD i ev0).loc (by rw [s4, hev]) ((g.fr.getD t []).getD i id0) s5
   have hfl : (g.fr.getD t []).length = (g.th.getD t []).length := (h.events t ht').1
   have hfr : g.fr.length = g.th.length := h.lfr
   have hu : updB (viewG g) (kN g t i) = decide ((viewG g).pl.getD (kN g t i) 0 ≠ (viewG g).pl.getD w 0 + 1) := by unfold updB; rw [hev, h3, s1]; simp
   have b1 := pl_small h hk hw
   have b2 := pl_small h s2 s3
   have hUk := hU _ hk
   clear hU hU0 hui hkb s1 s5 hd hr hw hev
   generalize (viewG g).pl.getD (kN g t i) 0 = x1 at *
   generalize (viewG g).pl.getD w 0 = x2 at *
   repeat' (first
    |(refine hI2 (i + 1) ?_ ?_ ?_;rotate_left 1;(· ((try simp only [nc] at *);omega));(cbv;clear hI2;(try clear hF);(try simp only [nc] at *);(try simp (disch:=(first|omega|(simp only [lnS];omega))) only [rdT,rdS,anT]));rotate_left 1;(try ((try simp only [nc] at *);omega)))
    |((first|refine E.c (SCalls.of_le (p2) ?_ ?_)|refine E.q (QCalls.of_le (p2) ?_ ?_));(· (cbv;(try simp only [nc] at *);first|done|(simp;done)|(simp (disch:=(first|omega|(simp only [lnS];omega))) only [rdT,rdS,anT];first|done|omega|(refine ⟨?_,?_⟩<;>omega))|(simp (disch:=(first|omega|(simp only [lnS];omega))) [rdT,rdS];done)));cbv)
    |(refine E.c (SCalls.of_le (p1) ?_ ?_);(· (cbv;(try simp only [nc] at *);first|done|(simp;done)|(simp (disch:=(first|omega|(simp only [lnS];omega))) only [rdT,rdS,anT];first|done|omega|(refine ⟨?_,?_⟩<;>omega))|(simp (disch:=(first|omega|(simp only [lnS];omega))) [rdT,rdS];done)));cbv)
    |(refine ⟨fun _ h_s=>?_,fun _ h_s=>?_⟩<;>(cbv;(try simp only [nc] at *);try simp (disch:=(first|omega|(simp only [lnS];omega))) only [rdT,rdS,reduceCtorEq,trT] at h_s))
    |(refine hF ?_;intro _;clear hF)
    |(refine hF ?_;cbv;clear hF)
    |(refine ⟨fun _=>?_,?_⟩;(· ((try simp only [nc] at *);first|done|omega|exact ⟨by omega,rfl⟩|(simp (disch:=(first|omega|(simp only [lnS];omega))) only [rdT,rdS];first|done|omega|rfl|exact ⟨by omega,rfl⟩|(simp;done)|(simp;omega))|(intros;trivial)));(try (simp only [nc] at *));(try simp (disch:=(first|omega|(simp only [lnS];omega))) only [rdT,rdS]);(try cbv))
    |(refine E.d 16 (by decide +kernel) ?_;cbv;(fail_if_success guard_target =~ False))
    | fail
   )
   ·have hs1 : ¬ x1 = x2 + 1 := by
     first
      | exact h_s
      | (rw [w64_of (by omega) (by omega)] at h_s; exact h_s)
    rw [hUk (by rw [hu]; exact decide_eq_true hs1) hp2]
    exact ⟨fun _ => rfl, fun _ => rfl, fun _ => rfl, trivial⟩
   ·have hs1 : x1 = x2 + 1 := by
     first
      | exact h_s
      | (rw [w64_of (by omega) (by omega)] at h_s; exact h_s)
    refine ⟨by ((try simp only [nc] at *); omega), fun k hk => ?_⟩
    rcases Nat.lt_or_ge k (kN g t i) with h1 | h1
    ·exact hp2 k h1
    ·obtain rfl : k = kN g t i := by unfold kN at *; omega
     rw [hu]; exact decide_eq_false (by simp [hs1])
   ·refine ⟨?_, by push_cast; rfl⟩
    unfold kN; push_cast; omega
  ·refine ⟨by ((try simp only [nc] at *); omega), fun k hk => ?_⟩
   have h3 : ¬ ((g.th.getD t []).getD i ev0).kind = 3 := by assumption
   rcases Nat.lt_or_ge k (kN g t i) with h1 | h1
   ·exact hp2 k h1
   ·obtain rfl : k = kN g t i := by unfold kN at *; omega
    unfold updB
    rw [kN_ev (by ((try simp only [nc] at *); omega)) (by ((try simp only [nc] at *); omega)) hth, decide_eq_false h3]; rfl
  ·refine ⟨?_, by push_cast; rfl⟩
   unfold kN; push_cast; omega
  ·have e : i = (g.th.getD t []).length := by ((try simp only [nc] at *); omega)
   subst e
   rw [kN_next] at hp2
   exact ⟨by ((try simp only [nc] at *); omega), hp2⟩
  ·have e : i = (g.th.getD t []).length := by ((try simp only [nc] at *); omega)
   subst e
   rw [kN_next]
   exact ⟨rfl, by push_cast; rfl⟩
 ·have e : t = g.th.length := by ((try simp only [nc] at *); omega)
  subst e
  rw [kN_end] at hp
  rw [hU0 hp]
  exact ⟨fun _ => rfl, fun _ => rfl, fun _ => rfl, trivial⟩
end Go.AL.Rl

namespace Go.AL.Rl
open Go Go.AL Go.Proofs
set_option maxRecDepth 100000
set_option maxHeartbeats 3200000
variable {γ : Nat → Option AV}

theorem coherence_ok (g : Gr) (n : Int) (po rf co fr eco porf loc sw hb : List (BitVec 64)) (le : eco.length ≤ 64) (lh : hb.length ≤ 64) (hle : hb.length = eco.length) : Pure Try.prog γ false 44 [aFc g n po rf co fr eco porf loc sw hb] (aFt (cohF hb eco)) := by
 have hU : ∀ a b, a < hb.length → b < eco.length → cohB hb eco a b = true → (∀ k < b, cohB hb eco a k = false) → (∀ k < a, ∀ j < eco.length, cohB hb eco k j = false) → cohF hb eco = ⟨a, b, true⟩ := fun a b h1 h2 h3 h4 h5 => cohF_at h1 h2 h3 h4 h5
 have hU0 : (∀ k < hb.length, ∀ j < eco.length, cohB hb eco k j = false) → cohF hb eco = ⟨0, 0, false⟩ := cohF_no
 have hB : ∀ a b, cohB hb eco a b = (decide (a ≠ b) && (!decide ((hb.getD a 0 >>> b) &&& 1#64 = 0#64)) && (!decide ((eco.getD b 0 >>> a) &&& 1#64 = 0#64))) := fun a b => by
  rw [getLsb_and1, getLsb_and1]; rfl
 generalize cohF hb eco = FT at *
 generalize cohB hb eco = P' at *
 refine Pure.go (ty := ty) ty_eq mo Try.func44 rfl Try.ntmps44 Try.results44 Try.call44 (by simp) fun P C CQ D W F E hF => ?_
 cbv
 repeat' (first
  |(refine ⟨fun _ h_s=>?_,fun _ h_s=>?_⟩<;>(cbv;(try simp only [nc] at *);try simp (disch:=(first|omega|(simp only [lnS];omega))) only [rdT,rdS,reduceCtorEq,trT] at h_s))
  |(refine hF ?_;intro _;clear hF)
  |(refine hF ?_;cbv;clear hF)
  |(refine ⟨fun _=>?_,?_⟩;(· ((try simp only [nc] at *);first|done|omega|exact ⟨by omega,rfl⟩|(simp (disch:=(first|omega|(simp only [lnS];omega))) only [rdT,rdS];first|done|omega|rfl|exact ⟨by omega,rfl⟩|(simp;done)|(simp;omega))|(intros;trivial)));(try (simp only [nc] at *));(try simp (disch:=(first|omega|(simp only [lnS];omega))) only [rdT,rdS]);(try cbv))
  |(refine E.d 11 (by decide +kernel) ?_;cbv;(fail_if_success guard_target =~ False))
  | fail
 )
 refine E.loopS (ι:=Nat) (fun a=>a≤hb.length∧(∀ k < a,∀ j < eco.length,P' k j = false)) (fun a=>hb.length - a) (fun a=>[(21,.i fun _=>((a : Nat) : Int))]) (fun a h=>h) 0 (fun _=>by first|rfl|simp) ⟨Nat.zero_le _,?_⟩ ?_ fun a ha I hI=>?_
 ·intro k hk; omega
 ·cbv; simp
 cbv
 obtain ⟨ha, hp⟩ := ha
 repeat' (first
  |(refine ⟨fun _ h_s=>?_,fun _ h_s=>?_⟩<;>(cbv;(try simp only [nc] at *);try simp (disch:=(first|omega|(simp only [lnS];omega))) only [rdT,rdS,reduceCtorEq,trT] at h_s))
  |(refine hF ?_;intro _;clear hF)
  |(refine hF ?_;cbv;clear hF)
  |(refine ⟨fun _=>?_,?_⟩;(· ((try simp only [nc] at *);first|done|omega|exact ⟨by omega,rfl⟩|(simp (disch:=(first|omega|(simp only [lnS];omega))) only [rdT,rdS];first|done|omega|rfl|exact ⟨by omega,rfl⟩|(simp;done)|(simp;omega))|(intros;trivial)));(try (simp only [nc] at *));(try simp (disch:=(first|omega|(simp only [lnS];omega))) only [rdT,rdS]);(try cbv))
  |(refine E.d 11 (by decide +kernel) ?_;cbv;(fail_if_success guard_target =~ False))
  | fail
 )
 ·refine E.loopS (ι:=Nat) (fun b=>b≤eco.length∧(∀ j < b,P' a j = false)) (fun b=>eco.length - b) (fun b=>[(26,.i fun _=>((b : Nat) : Int))]) (fun b h=>h) 0 (fun _=>by first|rfl|simp) ⟨Nat.zero_le _,?_⟩ ?_ fun b hb2 I2 hI2=>?_
  ·intro k hk; omega
  ·cbv; simp
  cbv
  obtain ⟨hb2, hp2⟩ := hb2
  have hab := hB a b
  have hba := bofInt (k := a) (by omega)
  have hbb := bofInt (k := b) (by omega)
  have hin : ((a : Int) = b) ↔ a = b := Int.ofNat_inj
  repeat' (first
   |(refine hI (a + 1) ?_ ?_ ?_;rotate_left 1;(· ((try simp only [nc] at *);omega));(cbv;clear hI;(try clear hF);(try simp only [nc] at *);(try simp (disch:=(first|omega|(simp only [lnS];omega))) only [rdT,rdS,anT]));rotate_left 1;(try ((try simp only [nc] at *);omega)))
   |(refine hI2 (b + 1) ?_ ?_ ?_;rotate_left 1;(· ((try simp only [nc] at *);omega));(cbv;clear hI2;(try clear hF);(try simp only [nc] at *);(try simp (disch:=(first|omega|(simp only [lnS];omega))) only [rdT,rdS,anT]));rotate_left 1;(try ((try simp only [nc] at *);omega)))
   |(refine ⟨fun _ h_s=>?_,fun _ h_s=>?_⟩<;>(cbv;(try simp only [nc] at *);try simp (disch:=(first|omega|(simp only [lnS];omega))) only [rdT,rdS,reduceCtorEq,trT] at h_s))
   |(refine hF ?_;intro _;clear hF)
   |(refine hF ?_;cbv;clear hF)
   |(refine ⟨fun _=>?_,?_⟩;(· ((try simp only [nc] at *);first|done|omega|exact ⟨by omega,rfl⟩|(simp (disch:=(first|omega|(simp only [lnS];omega))) only [rdT,rdS];first|done|omega|rfl|exact ⟨by omega,rfl⟩|(simp;done)|(simp;omega))|(intros;trivial)));(try (simp only [nc] at *));(try simp (disch:=(first|omega|(simp only [lnS];omega))) only [rdT,rdS]);(try cbv))
   |(refine E.d 11 (by decide +kernel) ?_;cbv;(fail_if_success guard_target =~ False))
   | fail
  )
  ·have ht : P' a b = true := by
    clear hB hU hU0 hp hp2
    rw [hab]
    simp_all
   rw [hU a b (by ((try simp only [nc] at *); omega)) (by ((try simp only [nc] at *); omega)) ht hp2 hp]
   exact ⟨fun _ => rfl, fun _ => rfl, fun _ => rfl, trivial⟩
  iterate 3
   ·have ht : P' a b = false := by
     clear hB hU hU0 hp hp2
     rw [hab]
     first
      | (simp_all; done)
      | (simp_all; omega)
    refine ⟨by ((try simp only [nc] at *); omega), fun j hj => ?_⟩
    rcases Nat.lt_or_ge j b with h1 | h1
    ·exact hp2 j h1
    ·obtain rfl : j = b := by omega
     exact ht
   ·push_cast; rfl
  ·refine ⟨by ((try simp only [nc] at *); omega), fun k hk j hj => ?_⟩
   rcases Nat.lt_or_ge k a with h1 | h1
   ·exact hp k h1 j hj
   ·obtain rfl : k = a := by omega
    exact hp2 j (by ((try simp only [nc] at *); omega))
  ·push_cast; rfl
 ·have e : a = hb.length := by ((try simp only [nc] at *); omega)
  subst e
  rw [hU0 hp]
  exact ⟨fun _ => rfl, fun _ => rfl, fun _ => rfl, trivial⟩
theorem alike4 (n : Int) (a b c d : List (BitVec 64)) (ha : Fits n a) (hb : Fits n b) (hc : Fits n c) (hd : Fits n d) : Alike [(n, a), (n, b), (n, c), (n, d)] := by
 refine ⟨by simp, fun i hi => ?_⟩
 have : i = 0 ∨ i = 1 ∨ i = 2 ∨ i = 3 := by simp at hi; omega
 rcases this with rfl | rfl | rfl | rfl
 ·simp [ha]
 ·simp [hb]
 ·simp [hc]
 ·simp [hd]
theorem togF_fits (V : Vw) {n : Nat} (hn : n ≤ 62) : Fits n (togF V n) := fits_or (by omega) (l := [((n : Int), poF V n), ((n : Int), rfF V n), ((n : Int), coF V n), ((n : Int), frF V n)]) (by
 have f1 := fits_poF V hn
 have f2 := fits_rfF V hn
 have f3 := fits_coF V hn
 have f4 := fits_frF V hn
 simp [f1, f2, f3, f4])
noncomputable abbrev aFg (g : Gr) : AV := aFc g (nG g : Nat) (poF (viewG g) (nG g)) (rfF (viewG g) (nG g)) (coF (viewG g) (nG g)) (frF (viewG g) (nG g)) (ecoF (viewG g) (nG g)) (porfF (viewG g) (nG g)) (locF (viewG g) (nG g)) (swF (viewG g) (nG g)) (hbF (viewG g) (nG g))
theorem together_ok (g : Gr) (h : GOk g) : Pure Try.prog γ false 47 [aFg g] (encRel (nG g : Nat) (togF (viewG g) (nG g))) := by
 have hn := (viewG_wf h).small
 have f1 := fits_poF (viewG g) hn
 have f2 := fits_rfF (viewG g) hn
 have f3 := fits_coF (viewG g) hn
 have f4 := fits_frF (viewG g) hn
 have o4 := or_yes (γ := γ) [((nG g : Int), poF (viewG g) (nG g)), ((nG g : Int), rfF (viewG g) (nG g)), ((nG g : Int), coF (viewG g) (nG g)), ((nG g : Int), frF (viewG g) (nG g))] (by simp) (alike4 _ _ _ _ _ f1 f2 f3 f4) (nG g) rfl
 unfold togF
 unfold aFg
 clear f1 f2 f3 f4
 generalize orM (nG g) [((nG g : Int), poF (viewG g) (nG g)), ((nG g : Int), rfF (viewG g) (nG g)), ((nG g : Int), coF (viewG g) (nG g)), ((nG g : Int), frF (viewG g) (nG g))] = rr at *
 generalize poF (viewG g) (nG g) = r1 at *
 generalize rfF (viewG g) (nG g) = r2 at *
 generalize coF (viewG g) (nG g) = r3 at *
 generalize frF (viewG g) (nG g) = r4 at *
 refine Pure.go (ty := ty) ty_eq mo Try.func47 rfl Try.ntmps47 Try.results47 Try.call47 (by simp) fun P C CQ D W F E hF => ?_
 cbv
 repeat' (first
  | (refine E.c (SCalls.of_bare (o4) rfl ?_ ?_); (· (cbv; simp [rls, ps, us, is, LV.of]; done)); cbv)
  | (refine E.c (SCalls.of_le (o4) ?_ ?_); (· (cbv; simp [rls, ps, us, is, LV.of]; done)); cbv)
  | (refine E.q (QCalls.of_le (o4) ?_ ?_); (· (cbv; simp [rls, ps, us, is, LV.of]; done)); cbv)
  |(refine ⟨fun _ h_s=>?_,fun _ h_s=>?_⟩<;>(cbv;(try simp only [nc] at *);try simp (disch:=(first|omega|(simp only [lnS];omega))) only [rdT,rdS,reduceCtorEq,trT] at h_s))
  |(refine hF ?_;intro _;clear hF)
  |(refine hF ?_;cbv;clear hF)
  |(refine ⟨fun _=>?_,?_⟩;(· ((try simp only [nc] at *);first|done|omega|exact ⟨by omega,rfl⟩|(simp (disch:=(first|omega|(simp only [lnS];omega))) only [rdT,rdS];first|done|omega|rfl|exact ⟨by omega,rfl⟩|(simp;done)|(simp;omega))|(intros;trivial)));(try (simp only [nc] at *));(try simp (disch:=(first|omega|(simp only [lnS];omega))) only [rdT,rdS]);(try cbv))
  | fail
 )
theorem lensG (g : Gr) (h : GOk g) : (porfF (viewG g) (nG g)).length ≤ 64 ∧ (hbF (viewG g) (nG g)).length = nG g ∧ (ecoF (viewG g) (nG g)).length = nG g ∧ (plusM (nG g) (togF (viewG g) (nG g))).length ≤ 64 := by
 have hn := (viewG_wf h).small
 have f1 := fits_poF (viewG g) hn
 have f2 := fits_rfF (viewG g) hn
 have f6 := fits_swF (viewG g) hn
 have k1 : Fits (nG g) (porfF (viewG g) (nG g)) := fits_plus (fits_or2 f1 f2)
 have k2 : Fits (nG g) (hbF (viewG g) (nG g)) := fits_plus (fits_or2 f1 f6)
 have k3 : Fits (nG g) (ecoF (viewG g) (nG g)) := fits_plus (fits_orP (viewG g) hn)
 have k4 : Fits (nG g) (plusM (nG g) (togF (viewG g) (nG g))) := fits_plus (togF_fits (viewG g) hn)
 have e1 := k1.2.2.1
 have e2 := k2.2.2.1
 have e3 := k3.2.2.1
 have e4 := k4.2.2.1
 omega
theorem flt1_ok (g : Gr) : Pure Try.prog γ false 39 [aFg g] (aFt (fltM (viewG g) (nG g) 1)) := by
 rw [show fltM (viewG g) (nG g) 1 = ft0 from rfl]
 unfold aFg
 refine Pure.go (ty := ty) ty_eq mo Try.func39 rfl Try.ntmps39 Try.results39 Try.call39 (by simp) fun P C CQ D W F E hF => ?_
 cbv
 repeat' (first
  |(refine ⟨fun _ h_s=>?_,fun _ h_s=>?_⟩<;>(cbv;(try simp only [nc] at *);try simp (disch:=(first|omega|(simp only [lnS];omega))) only [rdT,rdS,reduceCtorEq,trT] at h_s))
  |(refine hF ?_;intro _;clear hF)
  |(refine hF ?_;cbv;clear hF)
  |(refine ⟨fun _=>?_,?_⟩;(· ((try simp only [nc] at *);first|done|omega|exact ⟨by omega,rfl⟩|(simp (disch:=(first|omega|(simp only [lnS];omega))) only [rdT,rdS];first|done|omega|rfl|exact ⟨by omega,rfl⟩|(simp;done)|(simp;omega))|(intros;trivial)));(try (simp only [nc] at *));(try simp (disch:=(first|omega|(simp only [lnS];omega))) only [rdT,rdS]);(try cbv))
  | fail
 )
theorem flt2_ok (g : Gr) (hg : Rd g) (h : GOk g) : Pure Try.prog γ false 40 [aFg g] (aFt (fltM (viewG g) (nG g) 2)) := update_ok g hg h _ _ _ _ _ _ _ _ _ _
theorem flt3_ok (g : Gr) (h : GOk g) : Pure Try.prog γ false 41 [aFg g] (aFt (fltM (viewG g) (nG g) 3)) := by
 have kc := circle_ok (γ := γ) (nG g : Nat) (porfF (viewG g) (nG g)) (lensG g h).1
 rw [show fltM (viewG g) (nG g) 3 = circF (porfF (viewG g) (nG g)) from rfl]
 unfold aFg
 generalize circF (porfF (viewG g) (nG g)) = FT at *
 refine Pure.go (ty := ty) ty_eq mo Try.func41 rfl Try.ntmps41 Try.results41 Try.call41 (by simp) fun P C CQ D W F E hF => ?_
 cbv
 repeat' (first
  |(refine E.c (SCalls.of_le (kc) ?_ ?_);(· (cbv;(try simp only [nc] at *);first|done|(simp;done)|(simp (disch:=(first|omega|(simp only [lnS];omega))) only [rdT,rdS,anT];first|done|omega|(refine ⟨?_,?_⟩<;>omega))|(simp (disch:=(first|omega|(simp only [lnS];omega))) [rdT,rdS];done)));cbv)
  |(refine ⟨fun _ h_s=>?_,fun _ h_s=>?_⟩<;>(cbv;(try simp only [nc] at *);try simp (disch:=(first|omega|(simp only [lnS];omega))) only [rdT,rdS,reduceCtorEq,trT] at h_s))
  |(refine hF ?_;intro _;clear hF)
  |(refine hF ?_;cbv;clear hF)
  |(refine ⟨fun _=>?_,?_⟩;(· ((try simp only [nc] at *);first|done|omega|exact ⟨by omega,rfl⟩|(simp (disch:=(first|omega|(simp only [lnS];omega))) only [rdT,rdS];first|done|omega|rfl|exact ⟨by omega,rfl⟩|(simp;done)|(simp;omega))|(intros;trivial)));(try (simp only [nc] at *));(try simp (disch:=(first|omega|(simp only [lnS];omega))) only [rdT,rdS]);(try cbv))
  | fail
 )
theorem flt4_ok (g : Gr) (h : GOk g) : Pure Try.prog γ false 43 [aFg g] (aFt (fltM (viewG g) (nG g) 4)) := by
 have kc := circle_ok (γ := γ) (nG g : Nat) (hbF (viewG g) (nG g)) (by have := (lensG g h).2.1; have := (viewG_wf h).small; omega)
 rw [show fltM (viewG g) (nG g) 4 = circF (hbF (viewG g) (nG g)) from rfl]
 unfold aFg
 generalize circF (hbF (viewG g) (nG g)) = FT at *
 refine Pure.go (ty := ty) ty_eq mo Try.func43 rfl Try.ntmps43 Try.results43 Try.call43 (by simp) fun P C CQ D W F E hF => ?_
 cbv
 repeat' (first
  |(refine E.c (SCalls.of_le (kc) ?_ ?_);(· (cbv;(try simp only [nc] at *);first|done|(simp;done)|(simp (disch:=(first|omega|(simp only [lnS];omega))) only [rdT,rdS,anT];first|done|omega|(refine ⟨?_,?_⟩<;>omega))|(simp (disch:=(first|omega|(simp only [lnS];omega))) [rdT,rdS];done)));cbv)
  |(refine ⟨fun _ h_s=>?_,fun _ h_s=>?_⟩<;>(cbv;(try simp only [nc] at *);try simp (disch:=(first|omega|(simp only [lnS];omega))) only [rdT,rdS,reduceCtorEq,trT] at h_s))
  |(refine hF ?_;intro _;clear hF)
  |(refine hF ?_;cbv;clear hF)
  |(refine ⟨fun _=>?_,?_⟩;(· ((try simp only [nc] at *);first|done|omega|exact ⟨by omega,rfl⟩|(simp (disch:=(first|omega|(simp only [lnS];omega))) only [rdT,rdS];first|done|omega|rfl|exact ⟨by omega,rfl⟩|(simp;done)|(simp;omega))|(intros;trivial)));(try (simp only [nc] at *));(try simp (disch:=(first|omega|(simp only [lnS];omega))) only [rdT,rdS]);(try cbv))
  | fail
 )
theorem flt5_ok (g : Gr) (h : GOk g) : Pure Try.prog γ false 44 [aFg g] (aFt (fltM (viewG g) (nG g) 5)) := by
 have hn := (viewG_wf h).small
 have hl := lensG g h
 exact coherence_ok g _ _ _ _ _ _ _ _ _ _ (by omega) (by omega) (by omega)
theorem flt6_ok (g : Gr) (h : GOk g) : Pure Try.prog γ false 45 [aFg g] (aFt (fltM (viewG g) (nG g) 6)) := by
 have hn := (viewG_wf h).small
 have kc := circle_ok (γ := γ) (nG g : Nat) (plusM (nG g) (togF (viewG g) (nG g))) (lensG g h).2.2.2
 have kt := together_ok (γ := γ) g h
 have kp := plus_ok (γ := γ) (nG g) _ (togF_fits (viewG g) hn)
 rw [show fltM (viewG g) (nG g) 6 = circF (plusM (nG g) (togF (viewG g) (nG g))) from rfl]
 unfold aFg at *
 generalize circF (plusM (nG g) (togF (viewG g) (nG g))) = FT at *
 refine Pure.go (ty := ty) ty_eq mo Try.func45 rfl Try.ntmps45 Try.results45 Try.call45 (by simp) fun P C CQ D W F E hF => ?_
 cbv
 repeat' (first
  |(refine E.c (SCalls.of_le (kc) ?_ ?_);(· (cbv;(try simp only [nc] at *);first|done|(simp;done)|(simp (disch:=(first|omega|(simp only [lnS];omega))) only [rdT,rdS,anT];first|done|omega|(refine ⟨?_,?_⟩<;>omega))|(simp (disch:=(first|omega|(simp only [lnS];omega))) [rdT,rdS];done)));cbv)
  |(refine E.c (SCalls.of_le (kp) ?_ ?_);(· (cbv;(try simp only [nc] at *);first|done|(simp;done)|(simp (disch:=(first|omega|(simp only [lnS];omega))) only [rdT,rdS,anT];first|done|omega|(refine ⟨?_,?_⟩<;>omega))|(simp (disch:=(first|omega|(simp only [lnS];omega))) [rdT,rdS];done)));cbv)
  |(refine E.c (SCalls.of_le (kt) ?_ ?_);(· (cbv;(try simp only [nc] at *);first|done|(simp;done)|(simp (disch:=(first|omega|(simp only [lnS];omega))) only [rdT,rdS,anT];first|done|omega|(refine ⟨?_,?_⟩<;>omega))|(simp (disch:=(first|omega|(simp only [lnS];omega))) [rdT,rdS];done)));cbv)
  |(refine ⟨fun _ h_s=>?_,fun _ h_s=>?_⟩<;>(cbv;(try simp only [nc] at *);try simp (disch:=(first|omega|(simp only [lnS];omega))) only [rdT,rdS,reduceCtorEq,trT] at h_s))
  |(refine hF ?_;intro _;clear hF)
  |(refine hF ?_;cbv;clear hF)
  |(refine ⟨fun _=>?_,?_⟩;(· ((try simp only [nc] at *);first|done|omega|exact ⟨by omega,rfl⟩|(simp (disch:=(first|omega|(simp only [lnS];omega))) only [rdT,rdS];first|done|omega|rfl|exact ⟨by omega,rfl⟩|(simp;done)|(simp;omega))|(intros;trivial)));(try (simp only [nc] at *));(try simp (disch:=(first|omega|(simp only [lnS];omega))) only [rdT,rdS]);(try cbv))
  | fail
 )
end Go.AL.Rl

namespace Go.AL.Rl
open Go Go.AL Go.Proofs
set_option maxRecDepth 100000
set_option maxHeartbeats 3200000
variable {γ : Nat → Option AV}

theorem learn_yes (g : Gr) (hg : Rd g) (h : GOk g) : Pure Try.prog γ false 30 [aGr g] (.tup [aFg g, .b fun _ => true]) := by
 have kd := dAll_yes (γ := γ) g hg h
 unfold aFg
 generalize poF (viewG g) (nG g) = q1 at *
 generalize rfF (viewG g) (nG g) = q2 at *
 generalize coF (viewG g) (nG g) = q3 at *
 generalize frF (viewG g) (nG g) = q4 at *
 generalize swF (viewG g) (nG g) = q5 at *
 generalize ecoF (viewG g) (nG g) = q6 at *
 generalize porfF (viewG g) (nG g) = q7 at *
 generalize hbF (viewG g) (nG g) = q8 at *
 generalize locF (viewG g) (nG g) = q9 at *
 generalize nG g = n at *
 refine Pure.go (ty := ty) ty_eq mo Try.func30 rfl Try.ntmps30 Try.results30 Try.call30 (by simp) fun P C CQ D W F E hF => ?_
 cbv
 repeat' (first
  |(refine E.c (SCalls.of_le (kd) ?_ ?_);(· (cbv;(try simp only [nc] at *);first|done|(simp;done)|(simp (disch:=(first|omega|(simp only [lnS];omega))) only [rdT,rdS,anT];first|done|omega|(refine ⟨?_,?_⟩<;>omega))|(simp (disch:=(first|omega|(simp only [lnS];omega))) [rdT,rdS];done)));cbv)
  |(refine ⟨fun _ h_s=>?_,fun _ h_s=>?_⟩<;>(cbv;(try simp only [nc] at *);try simp (disch:=(first|omega|(simp only [lnS];omega))) only [rdT,rdS,reduceCtorEq,trT] at h_s))
  |(refine hF ?_;intro _;clear hF)
  |(refine hF ?_;cbv;clear hF)
  |(refine ⟨fun _=>?_,?_⟩;(· ((try simp only [nc] at *);first|done|omega|exact ⟨by omega,rfl⟩|(simp (disch:=(first|omega|(simp only [lnS];omega))) only [rdT,rdS];first|done|omega|rfl|exact ⟨by omega,rfl⟩|(simp;done)|(simp;omega))|(intros;trivial)));(try (simp only [nc] at *));(try simp (disch:=(first|omega|(simp only [lnS];omega))) only [rdT,rdS]);(try cbv))
  | fail
 )
 simp
theorem rulesF_ok : Pure Try.prog γ false 31 [] (.agg [.raw .nilFunc, .fn 39 [] [], .fn 40 [] [], .fn 41 [] [], .fn 43 [] [], .fn 44 [] [], .fn 45 [] []]) := by
 refine Pure.go (ty := ty) ty_eq mo Try.func31 rfl Try.ntmps31 Try.results31 Try.call31 (by simp) fun P C CQ D W F E hF => ?_
 cbv
 repeat' (first
  |(refine ⟨fun _ h_s=>?_,fun _ h_s=>?_⟩<;>(cbv;(try simp only [nc] at *);try simp (disch:=(first|omega|(simp only [lnS];omega))) only [rdT,rdS,reduceCtorEq,trT] at h_s))
  |(refine hF ?_;intro _;clear hF)
  |(refine hF ?_;cbv;clear hF)
  |(refine ⟨fun _=>?_,?_⟩;(· ((try simp only [nc] at *);first|done|omega|exact ⟨by omega,rfl⟩|(simp (disch:=(first|omega|(simp only [lnS];omega))) only [rdT,rdS];first|done|omega|rfl|exact ⟨by omega,rfl⟩|(simp;done)|(simp;omega))|(intros;trivial)));(try (simp only [nc] at *));(try simp (disch:=(first|omega|(simp only [lnS];omega))) only [rdT,rdS]);(try cbv))
  | fail
 )
theorem find_at (p : Int → Bool) : ∀ (l : List Int) (a : Nat), a < l.length → p (l.getD a 0) = true → (∀ j < a, p (l.getD j 0) = false) → l.find? p = some (l.getD a 0)
 | [], a, h, _, _ => absurd h (Nat.not_lt_zero _)
 | x :: l, 0, _, h, _ => by simp at h; simp [h]
 | x :: l, a + 1, hl, h, hb => by
  have h0 := hb 0 (by omega)
  simp at h0
  rw [List.find?_cons_of_neg (by simp [h0])]
  have := find_at p l a (by simpa using hl) (by simpa using h) fun j hj => by simpa using hb (j + 1) (by omega)
  simpa using this
theorem find_no (p : Int → Bool) (l : List Int) (hb : ∀ j < l.length, p (l.getD j 0) = false) : l.find? p = none := by
 rw [List.find?_eq_none]
 intro x hx
 obtain ⟨i, hi, rfl⟩ := List.getElem_of_mem hx
 have := hb i hi
 simp [hi] at this
 simp [this]
abbrev aBk (b : Bk) : AV := .tup [.agg [.i fun _ => b.rule, .i fun _ => b.a, .i fun _ => b.b], .b fun _ => b.br]
theorem why_yes (m : Int) (l : List Int) (g : Gr) (hm : m = 1 ∨ m = 2) (hl : l.length ≤ 9) (hr : ∀ a < l.length, l.getD a 0 = 1 ∨ l.getD a 0 = 2 ∨ l.getD a 0 = 3 ∨ l.getD a 0 = 4 ∨ l.getD a 0 = 5 ∨ l.getD a 0 = 6)
  (kr : Pure Try.prog γ false 32 [.i fun _ => m] (.vs 1 fun _ => is l)) (hg : Rd g) (h : GOk g) :
  Pure Try.prog γ false 18 [.i fun _ => m, aGr g] (aBk (match l.find? fun k => (fltM (viewG g) (nG g) k).br with
   | some k => ⟨k, (fltM (viewG g) (nG g) k).a, (fltM (viewG g) (nG g) k).b, true⟩
   | none => ⟨0, 0, 0, false⟩)) := by
 have kn := known_ok (γ := γ) m
 rw [decide_eq_true hm] at kn
 have kl := learn_yes (γ := γ) g hg h
 have kf := rulesF_ok (γ := γ)
 have f1 := flt1_ok (γ := γ) g
 have f2 := flt2_ok (γ := γ) g hg h
 have f3 := flt3_ok (γ := γ) g h
 have f4 := flt4_ok (γ := γ) g h
 have f5 := flt5_ok (γ := γ) g h
 have f6 := flt6_ok (γ := γ) g h
 unfold aFg at *
 generalize poF (viewG g) (nG g) = q1 at *
 generalize rfF (viewG g) (nG g) = q2 at *
 generalize coF (viewG g) (nG g) = q3 at *
 generalize frF (viewG g) (nG g) = q4 at *
 generalize swF (viewG g) (nG g) = q5 at *
 generalize ecoF (viewG g) (nG g) = q6 at *
 generalize porfF (viewG g) (nG g) = q7 at *
 generalize hbF (viewG g) (nG g) = q8 at *
 generalize locF (viewG g) (nG g) = q9 at *
 generalize fltM (viewG g) (nG g) = fl at *
 generalize nG g = n at *
 obtain ⟨B, hB⟩ : ∃ B : Bk, B = (match l.find? fun k => (fl k).br with
   | some k => ⟨k, (fl k).a, (fl k).b, true⟩
   | none => ⟨0, 0, 0, false⟩) := ⟨_, rfl⟩
 rw [← hB]
 have hB1 : ∀ a < l.length, (fl (l.getD a 0)).br = true → (∀ j < a, (fl (l.getD j 0)).br = false) → B = ⟨l.getD a 0, (fl (l.getD a 0)).a, (fl (l.getD a 0)).b, true⟩ := fun a h1 h2 h3 => by
  rw [hB, find_at (fun k => (fl k).br) l a h1 h2 h3]
 have hB0 : (∀ j < l.length, (fl (l.getD j 0)).br = false) → B = ⟨0, 0, 0, false⟩ := fun h3 => by
  rw [hB, find_no (fun k => (fl k).br) l h3]
 clear hB
 refine Pure.go (ty := ty) ty_eq mo Try.func18 rfl Try.ntmps18 Try.results18 Try.call18 (by simp) fun P C CQ D W F E hF => ?_
 cbv
 repeat' (first
  |(refine E.c (SCalls.of_le (kr) ?_ ?_);(· (cbv;(try simp only [nc] at *);first|done|(simp;done)|(simp (disch:=(first|omega|(simp only [lnS];omega))) only [rdT,rdS,anT];first|done|omega|(refine ⟨?_,?_⟩<;>omega))|(simp (disch:=(first|omega|(simp only [lnS];omega))) [rdT,rdS];done)));cbv)
  |(refine E.c (SCalls.of_le (kf) ?_ ?_);(· (cbv;(try simp only [nc] at *);first|done|(simp;done)|(simp (disch:=(first|omega|(simp only [lnS];omega))) only [rdT,rdS,anT];first|done|omega|(refine ⟨?_,?_⟩<;>omega))|(simp (disch:=(first|omega|(simp only [lnS];omega))) [rdT,rdS];done)));cbv)
  |(refine E.c (SCalls.of_le (kl) ?_ ?_);(· (cbv;(try simp only [nc] at *);first|done|(simp;done)|(simp (disch:=(first|omega|(simp only [lnS];omega))) only [rdT,rdS,anT];first|done|omega|(refine ⟨?_,?_⟩<;>omega))|(simp (disch:=(first|omega|(simp only [lnS];omega))) [rdT,rdS];done)));cbv)
  |(refine E.c (SCalls.of_le (kn) ?_ ?_);(· (cbv;(try simp only [nc] at *);first|done|(simp;done)|(simp (disch:=(first|omega|(simp only [lnS];omega))) only [rdT,rdS,anT];first|done|omega|(refine ⟨?_,?_⟩<;>omega))|(simp (disch:=(first|omega|(simp only [lnS];omega))) [rdT,rdS];done)));cbv)
  |(refine ⟨fun _ h_s=>?_,fun _ h_s=>?_⟩<;>(cbv;(try simp only [nc] at *);try simp (disch:=(first|omega|(simp only [lnS];omega))) only [rdT,rdS,reduceCtorEq,trT] at h_s))
  |(refine hF ?_;intro _;clear hF)
  |(refine hF ?_;cbv;clear hF)
  |(refine ⟨fun _=>?_,?_⟩;(· ((try simp only [nc] at *);first|done|omega|exact ⟨by omega,rfl⟩|(simp (disch:=(first|omega|(simp only [lnS];omega))) only [rdT,rdS];first|done|omega|rfl|exact ⟨by omega,rfl⟩|(simp;done)|(simp;omega))|(intros;trivial)));(try (simp only [nc] at *));(try simp (disch:=(first|omega|(simp only [lnS];omega))) only [rdT,rdS]);(try cbv))
  | fail
 )
 refine E.loopS (ι:=Nat) (fun a=>a≤l.length∧(∀ j < a,(fl (l.getD j 0)).br = false)) (fun a=>l.length - a) (fun a=>[(28,.i fun _=>((a : Nat) : Int))]) (fun a h=>h) 0 (fun _=>by first|rfl|simp) ⟨Nat.zero_le _,?_⟩ ?_ fun a ha I hI=>?_
 ·intro k hk; omega
 ·cbv; simp
 cbv
 obtain ⟨ha, hp⟩ := ha
 have hra := hr a
 repeat' (first
  |(refine hI (a + 1) ?_ ?_ ?_;rotate_left 1;(· ((try simp only [nc] at *);omega));(cbv;clear hI;(try clear hF);(try simp only [nc] at *);(try simp (disch:=(first|omega|(simp only [lnS];omega))) only [rdT,rdS,anT]));rotate_left 1;(try ((try simp only [nc] at *);omega)))
  |(refine E.de 6 [] [none] (by decide +kernel) ?_;cbv;(fail_if_success guard_target =~ False))
  |(refine ⟨fun _ h_s=>?_,fun _ h_s=>?_⟩<;>(cbv;(try simp only [nc] at *);try simp (disch:=(first|omega|(simp only [lnS];omega))) only [rdT,rdS,reduceCtorEq,trT] at h_s))
  |(refine hF ?_;intro _;clear hF)
  |(refine hF ?_;cbv;clear hF)
  |(refine ⟨fun _=>?_,?_⟩;(· ((try simp only [nc] at *);first|done|omega|exact ⟨by omega,rfl⟩|(simp (disch:=(first|omega|(simp only [lnS];omega))) only [rdT,rdS];first|done|omega|rfl|exact ⟨by omega,rfl⟩|(simp;done)|(simp;omega))|(intros;trivial)));(try (simp only [nc] at *));(try simp (disch:=(first|omega|(simp only [lnS];omega))) only [rdT,rdS]);(try cbv))
  | fail
 )
 ·have ha' : a < l.length := by ((try simp only [nc] at *); omega)
  have hB1a := hB1 a ha'
  clear hB1 hB0 hr kr kn kl kf
  rcases hra ha' with e | e | e | e | e | e
  ·refine ⟨1, fun _ => e, by decide, ?_⟩
   cbv
   rw [e] at hB1a
   repeat' (first
    |(refine hI (a + 1) ?_ ?_ ?_;rotate_left 1;(· ((try simp only [nc] at *);omega));(cbv;clear hI;(try clear hF);(try simp only [nc] at *);(try simp (disch:=(first|omega|(simp only [lnS];omega))) only [rdT,rdS,anT]));rotate_left 1;(try ((try simp only [nc] at *);omega)))
    |((first|refine E.c (SCalls.of_le (f1) ?_ ?_)|refine E.q (QCalls.of_le (f1) ?_ ?_));(· (cbv;(try simp only [nc] at *);first|done|(simp;done)|(simp (disch:=(first|omega|(simp only [lnS];omega))) only [rdT,rdS,anT];first|done|omega|(refine ⟨?_,?_⟩<;>omega))|(simp (disch:=(first|omega|(simp only [lnS];omega))) [rdT,rdS];done)));cbv)
    |(refine ⟨fun _ h_s=>?_,fun _ h_s=>?_⟩<;>(cbv;(try simp only [nc] at *);try simp (disch:=(first|omega|(simp only [lnS];omega))) only [rdT,rdS,reduceCtorEq,trT] at h_s))
    |(refine hF ?_;intro _;clear hF)
    |(refine hF ?_;cbv;clear hF)
    |(refine ⟨fun _=>?_,?_⟩;(· ((try simp only [nc] at *);first|done|omega|exact ⟨by omega,rfl⟩|(simp (disch:=(first|omega|(simp only [lnS];omega))) only [rdT,rdS];first|done|omega|rfl|exact ⟨by omega,rfl⟩|(simp;done)|(simp;omega))|(intros;trivial)));(try (simp only [nc] at *));(try simp (disch:=(first|omega|(simp only [lnS];omega))) only [rdT,rdS]);(try cbv))
    | fail
   )
   ·rw [hB1a h_s hp]
    exact ⟨⟨fun _ => e, fun _ => rfl, fun _ => rfl, trivial⟩, fun _ => rfl, trivial⟩
   ·refine ⟨by ((try simp only [nc] at *); omega), fun j hj => ?_⟩
    rcases Nat.lt_or_ge j a with h1 | h1
    ·exact hp j h1
    ·obtain rfl : j = a := by omega
     rw [e]; assumption
   ·push_cast; rfl
  ·refine ⟨2, fun _ => e, by decide, ?_⟩
   cbv
   rw [e] at hB1a
   repeat' (first
    |(refine hI (a + 1) ?_ ?_ ?_;rotate_left 1;(· ((try simp only [nc] at *);omega));(cbv;clear hI;(try clear hF);(try simp only [nc] at *);(try simp (disch:=(first|omega|(simp only [lnS];omega))) only [rdT,rdS,anT]));rotate_left 1;(try ((try simp only [nc] at *);omega)))
    |((first|refine E.c (SCalls.of_le (f2) ?_ ?_)|refine E.q (QCalls.of_le (f2) ?_ ?_));(· (cbv;(try simp only [nc] at *);first|done|(simp;done)|(simp (disch:=(first|omega|(simp only [lnS];omega))) only [rdT,rdS,anT];first|done|omega|(refine ⟨?_,?_⟩<;>omega))|(simp (disch:=(first|omega|(simp only [lnS];omega))) [rdT,rdS];done)));cbv)
    |(refine ⟨fun _ h_s=>?_,fun _ h_s=>?_⟩<;>(cbv;(try simp only [nc] at *);try simp (disch:=(first|omega|(simp only [lnS];omega))) only [rdT,rdS,reduceCtorEq,trT] at h_s))
    |(refine hF ?_;intro _;clear hF)
    |(refine hF ?_;cbv;clear hF)
    |(refine ⟨fun _=>?_,?_⟩;(· ((try simp only [nc] at *);first|done|omega|exact ⟨by omega,rfl⟩|(simp (disch:=(first|omega|(simp only [lnS];omega))) only [rdT,rdS];first|done|omega|rfl|exact ⟨by omega,rfl⟩|(simp;done)|(simp;omega))|(intros;trivial)));(try (simp only [nc] at *));(try simp (disch:=(first|omega|(simp only [lnS];omega))) only [rdT,rdS]);(try cbv))
    | fail
   )
   ·rw [hB1a h_s hp]
    exact ⟨⟨fun _ => e, fun _ => rfl, fun _ => rfl, trivial⟩, fun _ => rfl, trivial⟩
   ·refine ⟨by ((try simp only [nc] at *); omega), fun j hj => ?_⟩
    rcases Nat.lt_or_ge j a with h1 | h1
    ·exact hp j h1
    ·obtain rfl : j = a := by omega
     rw [e]; assumption
   ·push_cast; rfl
  ·refine ⟨3, fun _ => e, by decide, ?_⟩
   cbv
   rw [e] at hB1a
   repeat' (first
    |(refine hI (a + 1) ?_ ?_ ?_;rotate_left 1;(· ((try simp only [nc] at *);omega));(cbv;clear hI;(try clear hF);(try simp only [nc] at *);(try simp (disch:=(first|omega|(simp only [lnS];omega))) only [rdT,rdS,anT]));rotate_left 1;(try ((try simp only [nc] at *);omega)))
    |((first|refine E.c (SCalls.of_le (f3) ?_ ?_)|refine E.q (QCalls.of_le (f3) ?_ ?_));(· (cbv;(try simp only [nc] at *);first|done|(simp;done)|(simp (disch:=(first|omega|(simp only [lnS];omega))) only [rdT,rdS,anT];first|done|omega|(refine ⟨?_,?_⟩<;>omega))|(simp (disch:=(first|omega|(simp only [lnS];omega))) [rdT,rdS];done)));cbv)
    |(refine ⟨fun _ h_s=>?_,fun _ h_s=>?_⟩<;>(cbv;(try simp only [nc] at *);try simp (disch:=(first|omega|(simp only [lnS];omega))) only [rdT,rdS,reduceCtorEq,trT] at h_s))
    |(refine hF ?_;intro _;clear hF)
    |(refine hF ?_;cbv;clear hF)
    |(refine ⟨fun _=>?_,?_⟩;(· ((try simp only [nc] at *);first|done|omega|exact ⟨by omega,rfl⟩|(simp (disch:=(first|omega|(simp only [lnS];omega))) only [rdT,rdS];first|done|omega|rfl|exact ⟨by omega,rfl⟩|(simp;done)|(simp;omega))|(intros;trivial)));(try (simp only [nc] at *));(try simp (disch:=(first|omega|(simp only [lnS];omega))) only [rdT,rdS]);(try cbv))
    | fail
   )
   ·rw [hB1a h_s hp]
    exact ⟨⟨fun _ => e, fun _ => rfl, fun _ => rfl, trivial⟩, fun _ => rfl, trivial⟩
   ·refine ⟨by ((try simp only [nc] at *); omega), fun j hj => ?_⟩
    rcases Nat.lt_or_ge j a with h1 | h1
    ·exact hp j h1
    ·obtain rfl : j = a := by omega
     rw [e]; assumption
   ·push_cast; rfl
  ·refine ⟨4, fun _ => e, by decide, ?_⟩
   cbv
   rw [e] at hB1a
   repeat' (first
    |(refine hI (a + 1) ?_ ?_ ?_;rotate_left 1;(· ((try simp only [nc] at *);omega));(cbv;clear hI;(try clear hF);(try simp only [nc] at *);(try simp (disch:=(first|omega|(simp only [lnS];omega))) only [rdT,rdS,anT]));rotate_left 1;(try ((try simp only [nc] at *);omega)))
    |((first|refine E.c (SCalls.of_le (f4) ?_ ?_)|refine E.q (QCalls.of_le (f4) ?_ ?_));(· (cbv;(try simp only [nc] at *);first|done|(simp;done)|(simp (disch:=(first|omega|(simp only [lnS];omega))) only [rdT,rdS,anT];first|done|omega|(refine ⟨?_,?_⟩<;>omega))|(simp (disch:=(first|omega|(simp only [lnS];omega))) [rdT,rdS];done)));cbv)
    |(refine ⟨fun _ h_s=>?_,fun _ h_s=>?_⟩<;>(cbv;(try simp only [nc] at *);try simp (disch:=(first|omega|(simp only [lnS];omega))) only [rdT,rdS,reduceCtorEq,trT] at h_s))
    |(refine hF ?_;intro _;clear hF)
    |(refine hF ?_;cbv;clear hF)
    |(refine ⟨fun _=>?_,?_⟩;(· ((try simp only [nc] at *);first|done|omega|exact ⟨by omega,rfl⟩|(simp (disch:=(first|omega|(simp only [lnS];omega))) only [rdT,rdS];first|done|omega|rfl|exact ⟨by omega,rfl⟩|(simp;done)|(simp;omega))|(intros;trivial)));(try (simp only [nc] at *));(try simp (disch:=(first|omega|(simp only [lnS];omega))) only [rdT,rdS]);(try cbv))
    | fail
   )
   ·rw [hB1a h_s hp]
    exact ⟨⟨fun _ => e, fun _ => rfl, fun _ => rfl, trivial⟩, fun _ => rfl, trivial⟩
   ·refine ⟨by ((try simp only [nc] at *); omega), fun j hj => ?_⟩
    rcases Nat.lt_or_ge j a with h1 | h1
    ·exact hp j h1
    ·obtain rfl : j = a := by omega
     rw [e]; assumption
   ·push_cast; rfl
  ·refine ⟨5, fun _ => e, by decide, ?_⟩
   cbv
   rw [e] at hB1a
   repeat' (first
    |(refine hI (a + 1) ?_ ?_ ?_;rotate_left 1;(· ((try simp only [nc] at *);omega));(cbv;clear hI;(try clear hF);(try simp only [nc] at *);(try simp (disch:=(first|omega|(simp only [lnS];omega))) only [rdT,rdS,anT]));rotate_left 1;(try ((try simp only [nc] at *);omega)))
    |((first|refine E.c (SCalls.of_le (f5) ?_ ?_)|refine E.q (QCalls.of_le (f5) ?_ ?_));(· (cbv;(try simp only [nc] at *);first|done|(simp;done)|(simp (disch:=(first|omega|(simp only [lnS];omega))) only [rdT,rdS,anT];first|done|omega|(refine ⟨?_,?_⟩<;>omega))|(simp (disch:=(first|omega|(simp only [lnS];omega))) [rdT,rdS];done)));cbv)
    |(refine ⟨fun _ h_s=>?_,fun _ h_s=>?_⟩<;>(cbv;(try simp only [nc] at *);try simp (disch:=(first|omega|(simp only [lnS];omega))) only [rdT,rdS,reduceCtorEq,trT] at h_s))
    |(refine hF ?_;intro _;clear hF)
    |(refine hF ?_;cbv;clear hF)
    |(refine ⟨fun _=>?_,?_⟩;(· ((try simp only [nc] at *);first|done|omega|exact ⟨by omega,rfl⟩|(simp (disch:=(first|omega|(simp only [lnS];omega))) only [rdT,rdS];first|done|omega|rfl|exact ⟨by omega,rfl⟩|(simp;done)|(simp;omega))|(intros;trivial)));(try (simp only [nc] at *));(try simp (disch:=(first|omega|(simp only [lnS];omega))) only [rdT,rdS]);(try cbv))
    | fail
   )
   ·rw [hB1a h_s hp]
    exact ⟨⟨fun _ => e, fun _ => rfl, fun _ => rfl, trivial⟩, fun _ => rfl, trivial⟩
   ·refine ⟨by ((try simp only [nc] at *); omega), fun j hj => ?_⟩
    rcases Nat.lt_or_ge j a with h1 | h1
    ·exact hp j h1
    ·obtain rfl : j = a := by omega
     rw [e]; assumption
   ·push_cast; rfl
  ·refine ⟨6, fun _ => e, by decide, ?_⟩
   cbv
   rw [e] at hB1a
   repeat' (first
    |(refine hI (a + 1) ?_ ?_ ?_;rotate_left 1;(· ((try simp only [nc] at *);omega));(cbv;clear hI;(try clear hF);(try simp only [nc] at *);(try simp (disch:=(first|omega|(simp only [lnS];omega))) only [rdT,rdS,anT]));rotate_left 1;(try ((try simp only [nc] at *);omega)))
    |((first|refine E.c (SCalls.of_le (f6) ?_ ?_)|refine E.q (QCalls.of_le (f6) ?_ ?_));(· (cbv;(try simp only [nc] at *);first|done|(simp;done)|(simp (disch:=(first|omega|(simp only [lnS];omega))) only [rdT,rdS,anT];first|done|omega|(refine ⟨?_,?_⟩<;>omega))|(simp (disch:=(first|omega|(simp only [lnS];omega))) [rdT,rdS];done)));cbv)
    |(refine ⟨fun _ h_s=>?_,fun _ h_s=>?_⟩<;>(cbv;(try simp only [nc] at *);try simp (disch:=(first|omega|(simp only [lnS];omega))) only [rdT,rdS,reduceCtorEq,trT] at h_s))
    |(refine hF ?_;intro _;clear hF)
    |(refine hF ?_;cbv;clear hF)
    |(refine ⟨fun _=>?_,?_⟩;(· ((try simp only [nc] at *);first|done|omega|exact ⟨by omega,rfl⟩|(simp (disch:=(first|omega|(simp only [lnS];omega))) only [rdT,rdS];first|done|omega|rfl|exact ⟨by omega,rfl⟩|(simp;done)|(simp;omega))|(intros;trivial)));(try (simp only [nc] at *));(try simp (disch:=(first|omega|(simp only [lnS];omega))) only [rdT,rdS]);(try cbv))
    | fail
   )
   ·rw [hB1a h_s hp]
    exact ⟨⟨fun _ => e, fun _ => rfl, fun _ => rfl, trivial⟩, fun _ => rfl, trivial⟩
   ·refine ⟨by ((try simp only [nc] at *); omega), fun j hj => ?_⟩
    rcases Nat.lt_or_ge j a with h1 | h1
    ·exact hp j h1
    ·obtain rfl : j = a := by omega
     rw [e]; assumption
   ·push_cast; rfl
 ·have e : a = l.length := by ((try simp only [nc] at *); omega)
  subst e
  rw [hB0 hp]
  simp
theorem mcheck_ok (m : Int) (g : Gr) (b : Bk) (kw : Pure Try.prog γ false 18 [.i fun _ => m, aGr g] (aBk b)) : Pure Try.prog γ false 12 [.i fun _ => m, aGr g] (.tup [.b fun _ => decide (m = 1 ∨ m = 2) && !b.br, .i fun _ => if m = 1 ∨ m = 2 then 0 else 2]) := by
 have kn := known_ok (γ := γ) m
 by_cases hm : m = 1 ∨ m = 2
 ·rw [decide_eq_true hm] at kn ⊢
  rw [if_pos hm]
  refine Pure.go (ty := ty) ty_eq mo Try.func12 rfl Try.ntmps12 Try.results12 Try.call12 (by simp) fun P C CQ D W F E hF => ?_
  cbv
  repeat' (first
   |(refine E.c (SCalls.of_le (kw) ?_ ?_);(· (cbv;(try simp only [nc] at *);first|done|(simp;done)|(simp (disch:=(first|omega|(simp only [lnS];omega))) only [rdT,rdS,anT];first|done|omega|(refine ⟨?_,?_⟩<;>omega))|(simp (disch:=(first|omega|(simp only [lnS];omega))) [rdT,rdS];done)));cbv)
   |(refine E.c (SCalls.of_le (kn) ?_ ?_);(· (cbv;(try simp only [nc] at *);first|done|(simp;done)|(simp (disch:=(first|omega|(simp only [lnS];omega))) only [rdT,rdS,anT];first|done|omega|(refine ⟨?_,?_⟩<;>omega))|(simp (disch:=(first|omega|(simp only [lnS];omega))) [rdT,rdS];done)));cbv)
   |(refine ⟨fun _ h_s=>?_,fun _ h_s=>?_⟩<;>(cbv;(try simp only [nc] at *);try simp (disch:=(first|omega|(simp only [lnS];omega))) only [rdT,rdS,reduceCtorEq,trT] at h_s))
   |(refine hF ?_;intro _;clear hF)
   |(refine hF ?_;cbv;clear hF)
   |(refine ⟨fun _=>?_,?_⟩;(· ((try simp only [nc] at *);first|done|omega|exact ⟨by omega,rfl⟩|(simp (disch:=(first|omega|(simp only [lnS];omega))) only [rdT,rdS];first|done|omega|rfl|exact ⟨by omega,rfl⟩|(simp;done)|(simp;omega))|(intros;trivial)));(try (simp only [nc] at *));(try simp (disch:=(first|omega|(simp only [lnS];omega))) only [rdT,rdS]);(try cbv))
   | fail
  )
 ·rw [decide_eq_false hm] at kn ⊢
  rw [if_neg hm]
  refine Pure.go (ty := ty) ty_eq mo Try.func12 rfl Try.ntmps12 Try.results12 Try.call12 (by simp) fun P C CQ D W F E hF => ?_
  cbv
  repeat' (first
   |(refine E.c (SCalls.of_le (kn) ?_ ?_);(· (cbv;(try simp only [nc] at *);first|done|(simp;done)|(simp (disch:=(first|omega|(simp only [lnS];omega))) only [rdT,rdS,anT];first|done|omega|(refine ⟨?_,?_⟩<;>omega))|(simp (disch:=(first|omega|(simp only [lnS];omega))) [rdT,rdS];done)));cbv)
   |(refine ⟨fun _ h_s=>?_,fun _ h_s=>?_⟩<;>(cbv;(try simp only [nc] at *);try simp (disch:=(first|omega|(simp only [lnS];omega))) only [rdT,rdS,reduceCtorEq,trT] at h_s))
   |(refine hF ?_;intro _;clear hF)
   |(refine hF ?_;cbv;clear hF)
   |(refine ⟨fun _=>?_,?_⟩;(· ((try simp only [nc] at *);first|done|omega|exact ⟨by omega,rfl⟩|(simp (disch:=(first|omega|(simp only [lnS];omega))) only [rdT,rdS];first|done|omega|rfl|exact ⟨by omega,rfl⟩|(simp;done)|(simp;omega))|(intros;trivial)));(try (simp only [nc] at *));(try simp (disch:=(first|omega|(simp only [lnS];omega))) only [rdT,rdS]);(try cbv))
   | fail
  )
end Go.AL.Rl

namespace Go.AL.Rl
open Go Go.AL Go.Proofs
set_option maxRecDepth 100000
set_option maxHeartbeats 1600000

section
variable {g h : Gr} (W : Wk g h)
include W
theorem wk_evA (k : Nat) : Wke ((viewG g).ev.getD k ev0) ((viewG h).ev.getD k ev0) := by
 rcases Nat.lt_or_ge k (nG g) with hk | hk
 ·exact wk_ev W hk
 ·have e1 : (viewG g).ev.length = nG g := (idsG_len g).symm
  have e2 : (viewG h).ev.length = nG h := (idsG_len h).symm
  have e3 := wk_n W
  rw [List.getD_eq_getElem?_getD, List.getD_eq_getElem?_getD, List.getElem?_eq_none (by omega), List.getElem?_eq_none (by omega)]
  exact Wke.refl _
theorem wk_near (a b : Nat) : nearM (viewG h) a b = nearM (viewG g) a b := by
 have h1 := wk_evA W a
 have h2 := wk_evA W b
 unfold nearM
 rw [h1.fence, h2.fence, h1.loc, h2.loc]
theorem wk_co (a b : Nat) : coM (viewG h) a b = coM (viewG g) a b := by
 unfold coM
 rw [wk_vpl W, wk_near W]
theorem wk_frM (a b : Nat) : frM (viewG h) a b = frM (viewG g) a b := by
 unfold frM
 rw [wk_vfr W, wk_co W]
theorem wk_poF : poF (viewG h) (nG h) = poF (viewG g) (nG g) := by
 unfold poF
 rw [wk_n W, show poM (viewG h) = poM (viewG g) from funext fun a => funext fun b => wk_po W a b]
theorem wk_rfF : rfF (viewG h) (nG h) = rfF (viewG g) (nG g) := by
 unfold rfF
 rw [wk_n W, show rfM (viewG h) = rfM (viewG g) from funext fun a => funext fun b => by unfold rfM; rw [wk_vfr W]]
theorem wk_coF : coF (viewG h) (nG h) = coF (viewG g) (nG g) := by
 unfold coF
 rw [wk_n W, show coM (viewG h) = coM (viewG g) from funext fun a => funext fun b => wk_co W a b]
theorem wk_frF : frF (viewG h) (nG h) = frF (viewG g) (nG g) := by
 unfold frF
 rw [wk_n W, show frM (viewG h) = frM (viewG g) from funext fun a => funext fun b => wk_frM W a b]
theorem wk_f2 : fltM (viewG h) (nG h) 2 = fltM (viewG g) (nG g) 2 := by
 show updF (viewG h) (nG h) = updF (viewG g) (nG g)
 unfold updF
 rw [wk_n W, show updB (viewG h) = updB (viewG g) from funext fun k => by unfold updB; rw [wk_vpl W, wk_vfr W, (wk_evA W k).kind]]
theorem wk_f6 : fltM (viewG h) (nG h) 6 = fltM (viewG g) (nG g) 6 := by
 show circF (plusM (nG h) (togF (viewG h) (nG h))) = circF (plusM (nG g) (togF (viewG g) (nG g)))
 unfold togF
 rw [wk_poF W, wk_rfF W, wk_coF W, wk_frF W, wk_n W]
theorem wk_f3 : fltM (viewG h) (nG h) 3 = fltM (viewG g) (nG g) 3 := by
 show circF (porfF (viewG h) (nG h)) = circF (porfF (viewG g) (nG g))
 unfold porfF
 rw [wk_poF W, wk_rfF W, wk_n W]
theorem wk_eco : ecoF (viewG h) (nG h) = ecoF (viewG g) (nG g) := by
 unfold ecoF
 rw [wk_rfF W, wk_coF W, wk_frF W, wk_n W]
theorem wk_f4 (hg : GOk g) (hb : (fltM (viewG h) (nG h) 4).br = true) : (fltM (viewG g) (nG g) 4).br = true := by
 change (circF (hbF (viewG h) (nG h))).br = true at hb
 show (circF (hbF (viewG g) (nG g))).br = true
 rw [circ_br] at hb ⊢
 obtain ⟨i, hi, h1⟩ := hb
 have h2 := wk_hb W hg h1
 refine ⟨i, ?_, h2⟩
 rcases Nat.lt_or_ge i (hbF (viewG g) (nG g)).length with h3 | h3
 ·exact h3
 ·rw [bit_out h3] at h2; cases h2
theorem wk_f5 (hg : GOk g) (hb : (fltM (viewG h) (nG h) 5).br = true) : (fltM (viewG g) (nG g) 5).br = true := by
 change (cohF (hbF (viewG h) (nG h)) (ecoF (viewG h) (nG h))).br = true at hb
 show (cohF (hbF (viewG g) (nG g)) (ecoF (viewG g) (nG g))).br = true
 rw [wk_eco W] at hb
 rw [coh_br] at hb ⊢
 obtain ⟨a, ha, b, hb1, h1⟩ := hb
 unfold cohB at h1
 simp only [Bool.and_eq_true, decide_eq_true_eq] at h1
 have h2 := wk_hb W hg h1.1.2
 refine ⟨a, ?_, b, hb1, ?_⟩
 ·rcases Nat.lt_or_ge a (hbF (viewG g) (nG g)).length with h3 | h3
  ·exact h3
  ·rw [bit_out h3] at h2; cases h2
 ·unfold cohB
  simp only [Bool.and_eq_true, decide_eq_true_eq]
  exact ⟨⟨h1.1.1, h2⟩, h1.2⟩
end
theorem flt_one (V : Vw) (n : Nat) : fltM V n 1 = ft0 := rfl
/-- no rule of a model is broken -/
noncomputable def allHold (g : Gr) (l : List Int) : Bool := l.all fun k => !(fltM (viewG g) (nG g) k).br
theorem allHold_sc {g h : Gr} (W : Wk g h) : allHold h [1, 2, 6] = allHold g [1, 2, 6] := by
 unfold allHold
 simp only [List.all_cons, List.all_nil, flt_one, wk_f2 W, wk_f6 W]
theorem allHold_ra {g h : Gr} (W : Wk g h) (hg : GOk g) (hk : allHold g [1, 2, 3, 4, 5] = true) : allHold h [1, 2, 3, 4, 5] = true := by
 unfold allHold at hk ⊢
 simp only [List.all_cons, List.all_nil, Bool.and_eq_true, Bool.not_eq_true', Bool.and_true] at hk ⊢
 obtain ⟨_, h2, h3, h4, h5⟩ := hk
 refine ⟨rfl, by rw [wk_f2 W]; exact h2, by rw [wk_f3 W]; exact h3, ?_, ?_⟩
 ·exact Bool.eq_false_iff.2 fun h => by rw [wk_f4 W hg h] at h4; cases h4
 ·exact Bool.eq_false_iff.2 fun h => by rw [wk_f5 W hg h] at h5; cases h5
section
variable {γ : Nat → Option AV}
theorem find_all (g : Gr) (l : List Int) : allHold g l = (l.find? fun k => (fltM (viewG g) (nG g) k).br).isNone := by
 unfold allHold
 rw [Bool.eq_iff_iff, List.all_eq_true, Option.isNone_iff_eq_none, List.find?_eq_none]
 simp
theorem mcheck1 (g : Gr) (hR : Rd g) (hg : GOk g) : Pure Try.prog γ false 12 [.i fun _ => 1, aGr g] (.tup [.b fun _ => allHold g [1, 2, 6], .i fun _ => 0]) := by
 have c1 := mcheck_ok (γ := γ) 1 g _ (why_yes (γ := γ) 1 [1, 2, 6] g (.inl rfl) (by simp) (by decide) rules_yes1 hR hg)
 rw [if_pos (.inl rfl), decide_eq_true (.inl rfl), Bool.true_and] at c1
 rw [find_all]
 cases hf : [1, 2, 6].find? fun k => (fltM (viewG g) (nG g) k).br with
 | none => rw [hf] at c1; exact c1
 | some k => rw [hf] at c1; exact c1
theorem mcheck2 (g : Gr) (hR : Rd g) (hg : GOk g) : Pure Try.prog γ false 12 [.i fun _ => 2, aGr g] (.tup [.b fun _ => allHold g [1, 2, 3, 4, 5], .i fun _ => 0]) := by
 have c1 := mcheck_ok (γ := γ) 2 g _ (why_yes (γ := γ) 2 [1, 2, 3, 4, 5] g (.inr rfl) (by simp) (by decide) rules_yes2 hR hg)
 rw [if_pos (.inr rfl), decide_eq_true (.inr rfl), Bool.true_and] at c1
 rw [find_all]
 cases hf : [1, 2, 3, 4, 5].find? fun k => (fltM (viewG g) (nG g) k).br with
 | none => rw [hf] at c1; exact c1
 | some k => rw [hf] at c1; exact c1
end
end Go.AL.Rl

namespace Go.AL.Rl
open Go Go.AL Go.Proofs
set_option maxRecDepth 100000
set_option maxHeartbeats 3200000
variable {γ : Nat → Option AV}

theorem kN_of {g : Gr} (h : GOk g) {k : Nat} (hk : k < nG g) (h0 : g.init.length ≤ k) : ∃ t i, t < g.th.length ∧ i < (g.th.getD t []).length ∧ k = kN g t i := by
 have key : ∀ T, T ≤ g.th.length → g.init.length + (evsT g T).length ≤ k ∨ ∃ t i, t < T ∧ i < (g.th.getD t []).length ∧ k = kN g t i := by
  intro T
  induction T with
  | zero => intro _; left; simpa [evsT] using h0
  | succ T ih =>
   intro hT
   rcases ih (by omega) with h1 | ⟨t, i, h1, h2, h3⟩
   ·rcases Nat.lt_or_ge k (g.init.length + (evsT g T).length + (g.th.getD T []).length) with h2 | h2
    ·exact .inr ⟨T, k - (g.init.length + (evsT g T).length), by omega, by omega, by unfold kN; omega⟩
    ·left; rw [evsT_succ, List.length_append]; omega
   ·exact .inr ⟨t, i, by omega, h2, h3⟩
 rcases key g.th.length (Nat.le_refl _) with h1 | ⟨t, i, h1, h2, h3⟩
 ·have := kN_end g
  unfold kN at this
  omega
 ·exact ⟨t, i, h1, h2, h3⟩
theorem ids_init {g : Gr} {k : Nat} (hk : k < g.init.length) : (idsG g).getD k id0 = ⟨0, (k : Int)⟩ := by
 unfold idsG
 rw [List.getD_eq_getElem?_getD, List.getElem?_append_left (by rw [idsI_len]; exact hk)]
 simp [idsI, hk]
end Go.AL.Rl

namespace Go.AL.Rl
open Go Go.AL Go.Proofs
set_option maxRecDepth 100000
set_option maxHeartbeats 3200000
variable {γ : Nat → Option AV}

def vB : Vw := ⟨[⟨0, 0⟩, ⟨0, 1⟩, ⟨1, 0⟩, ⟨1, 1⟩, ⟨2, 0⟩, ⟨2, 1⟩], [⟨2, 0, 1, 0, 0⟩, ⟨2, 1, 1, 0, 0⟩, ⟨2, 0, 5, 0, 1⟩, ⟨1, 1, 5, 0, 0⟩, ⟨2, 1, 5, 0, 1⟩, ⟨1, 0, 5, 0, 0⟩], [-1, -1, -1, 1, -1, 0], [0, 0, 1, -1, 1, -1]⟩
theorem gBok : GOk gB := by decide +kernel
theorem gBv : viewG gB = vB := by
 unfold viewG vB
 simp only [Vw.mk.injEq]
 decide +kernel
theorem gBn : nG gB = 6 := rfl
theorem rdB : Rd gB := by
 refine ⟨by simp [gB], by simp [gB], by simp [gB], by simp [gB], ?_, ?_, ?_⟩ <;> simp [gB]
theorem swB : swF vB 6 = [0, 0, 0, 0, 0, 0] := by rw [swC_eq (by omega) (by decide +kernel)]; decide +kernel
theorem hbB : hbF vB 6 = [60, 60, 8, 0, 32, 0] := by unfold hbF; rw [swB]; decide +kernel
theorem fB1 : (fltM vB 6 1).br = false := rfl
theorem fB2 : (fltM vB 6 2).br = false := by show (updF vB 6).br = false; decide +kernel
theorem fB3 : (fltM vB 6 3).br = false := by show (circF (porfF vB 6)).br = false; decide +kernel
theorem fB4 : (fltM vB 6 4).br = false := by show (circF (hbF vB 6)).br = false; rw [hbB]; decide +kernel
theorem fB5 : (fltM vB 6 5).br = false := by show (cohF (hbF vB 6) (ecoF vB 6)).br = false; rw [hbB]; decide +kernel
theorem fB6 : (fltM vB 6 6).br = true ∧ (fltM vB 6 6).a = 2 ∧ (fltM vB 6 6).b = -1 := by
 show (circF (plusM 6 (togF vB 6))).br = true ∧ (circF (plusM 6 (togF vB 6))).a = 2 ∧ (circF (plusM 6 (togF vB 6))).b = -1
 decide +kernel
theorem wB2 : Pure Try.prog γ false 18 [.i fun _ => 2, aGr gB] (aBk ⟨0, 0, 0, false⟩) := by
 have k := why_yes (γ := γ) 2 [1, 2, 3, 4, 5] gB (.inr rfl) (by simp) (by decide) rules_yes2 rdB gBok
 rw [gBv, gBn] at k
 have e : [1, 2, 3, 4, 5].find? (fun k => (fltM vB 6 k).br) = none := by simp [List.find?, fB1, fB2, fB3, fB4, fB5]
 rw [e] at k
 exact k
theorem wB1 : Pure Try.prog γ false 18 [.i fun _ => 1, aGr gB] (aBk ⟨6, 2, -1, true⟩) := by
 have k := why_yes (γ := γ) 1 [1, 2, 6] gB (.inl rfl) (by simp) (by decide) rules_yes1 rdB gBok
 rw [gBv, gBn] at k
 have e : [1, 2, 6].find? (fun k => (fltM vB 6 k).br) = some 6 := by simp [List.find?, fB1, fB2, fB6]
 rw [e] at k
 simp only [fB6.2.1, fB6.2.2] at k
 exact k
theorem cB2 : Pure Try.prog γ false 12 [.i fun _ => 2, aGr gB] (.tup [.b fun _ => true, .i fun _ => 0]) := by
 have k := mcheck_ok (γ := γ) 2 gB _ wB2
 simpa using k
theorem cB1 : Pure Try.prog γ false 12 [.i fun _ => 1, aGr gB] (.tup [.b fun _ => false, .i fun _ => 0]) := by
 have k := mcheck_ok (γ := γ) 1 gB _ wB1
 simpa using k
theorem lives16_ok : Pure Try.prog γ false 5 [] (.b fun _ => true) := by
 have kb := buffers_ok (γ := γ)
 have k1 := cB1 (γ := γ)
 have k2 := cB2 (γ := γ)
 have k3 := wB1 (γ := γ)
 generalize gB = g at *
 refine Pure.go (ty := ty) ty_eq mo Try.func5 rfl Try.ntmps5 Try.results5 Try.call5 (by simp) fun P C CQ D W F E hF => ?_
 cbv
 repeat' (first
  |(refine E.c (SCalls.of_le (k3) ?_ ?_);(· (cbv;(try simp only [nc] at *);first|done|(simp;done)|(simp (disch:=(first|omega|(simp only [lnS];omega))) only [rdT,rdS,anT];first|done|omega|(refine ⟨?_,?_⟩<;>omega))|(simp (disch:=(first|omega|(simp only [lnS];omega))) [rdT,rdS];done)));cbv)
  |(refine E.c (SCalls.of_le (k2) ?_ ?_);(· (cbv;(try simp only [nc] at *);first|done|(simp;done)|(simp (disch:=(first|omega|(simp only [lnS];omega))) only [rdT,rdS,anT];first|done|omega|(refine ⟨?_,?_⟩<;>omega))|(simp (disch:=(first|omega|(simp only [lnS];omega))) [rdT,rdS];done)));cbv)
  |(refine E.c (SCalls.of_le (k1) ?_ ?_);(· (cbv;(try simp only [nc] at *);first|done|(simp;done)|(simp (disch:=(first|omega|(simp only [lnS];omega))) only [rdT,rdS,anT];first|done|omega|(refine ⟨?_,?_⟩<;>omega))|(simp (disch:=(first|omega|(simp only [lnS];omega))) [rdT,rdS];done)));cbv)
  |(refine E.c (SCalls.of_le (kb) ?_ ?_);(· (cbv;(try simp only [nc] at *);first|done|(simp;done)|(simp (disch:=(first|omega|(simp only [lnS];omega))) only [rdT,rdS,anT];first|done|omega|(refine ⟨?_,?_⟩<;>omega))|(simp (disch:=(first|omega|(simp only [lnS];omega))) [rdT,rdS];done)));cbv)
  |(refine ⟨fun _ h_s=>?_,fun _ h_s=>?_⟩<;>(cbv;(try simp only [nc] at *);try simp (disch:=(first|omega|(simp only [lnS];omega))) only [rdT,rdS,reduceCtorEq,trT] at h_s))
  |(refine hF ?_;intro _;clear hF)
  |(refine hF ?_;cbv;clear hF)
  |(refine ⟨fun _=>?_,?_⟩;(· ((try simp only [nc] at *);first|done|omega|exact ⟨by omega,rfl⟩|(simp (disch:=(first|omega|(simp only [lnS];omega))) only [rdT,rdS];first|done|omega|rfl|exact ⟨by omega,rfl⟩|(simp;done)|(simp;omega))|(intros;trivial)));(try (simp only [nc] at *));(try simp (disch:=(first|omega|(simp only [lnS];omega))) only [rdT,rdS]);(try cbv))
  | fail
 )
 all_goals first
  | (simp; done)
  | (exfalso; revert h_s; simp; done)
end Go.AL.Rl

namespace Go.AL.Rl
open Go Go.AL Go.Proofs
set_option maxRecDepth 100000
set_option maxHeartbeats 3200000
variable {γ : Nat → Option AV}

structure RV where
 n : Int
 rows : List (BitVec 64)
 sh : Int
 ids : List EId
 evs : List Ev
/-- a view of race that hangs together -/
structure RWf (v : RV) : Prop where
 len : v.evs.length = v.ids.length
 sh : 0 ≤ v.sh
 big : v.sh + v.ids.length ≤ v.rows.length
 small : v.rows.length ≤ 64
section
variable (v : RV) (hv : RWf v)
include hv
end
end Go.AL.Rl

namespace Go.AL.Rl
open Go Go.AL Go.Proofs
set_option maxRecDepth 100000
set_option maxHeartbeats 3200000
variable {γ : Nat → Option AV}

structure Rc where
 loc : Int
 a : EId
 b : EId
deriving DecidableEq
abbrev aRc (r : Rc) : AV := .agg [.i fun _ => r.loc, .i fun _ => r.a.t, .i fun _ => r.a.i, .i fun _ => r.b.t, .i fun _ => r.b.i]
def rcs (l : List Rc) : LV := LV.of (l.map aRc)
@[simp] theorem rcs_len (l : List Rc) : (rcs l).l.length = l.length := by simp [rcs]
theorem YCall.mono {P : Program} {l : Nat} {args : List AV} {h : List Blk} {Q Q' : AV → List Blk → Prop} (hy : YCall P γ l args h Q) (hq : ∀ v h, Q v h → Q' v h) : YCall P γ l args h Q' := fun B S ρ w vals h1 h2 => by
 obtain ⟨f, tm, asg, bd, k1, k2⟩ := hy B S ρ w vals h1 h2
 exact ⟨f, tm, asg, bd, k1, fun n => (k2 n).mono fun e w' ⟨v, h', S', ρ', v', q1, q2, q3⟩ => ⟨v, h', S', ρ', v', q1, hq _ _ q2, q3⟩⟩
theorem YCall.to {P : Program} {l : Nat} {args args' : List AV} {h h' h2 : List Blk} {x : AV} {Q : AV → List Blk → Prop} (hy : YCall P γ l args' h' fun v h => v = x ∧ h = h2) (hn : h'.length = h.length) (ha : leVs h.length args' args) (hh : leH h.length h' h) (hq : Q x h2) : YCall P γ l args h Q := fun B S ρ w vals hr hv => by
 have h1 := hr.le hh hn
 have h2 := Rs_le _ _ _ ha hv
 have e : ρ.take h.length = ρ := List.take_of_length_le (by rw [hr.len]; exact Nat.le_refl _)
 rw [e] at h1 h2
 obtain ⟨f, tm, asg, bd, k1, k2⟩ := hy B S ρ w vals h1 h2
 exact ⟨f, tm, asg, bd, k1, fun n => (k2 n).mono fun e w' ⟨v, h', S', ρ', v', q1, ⟨q2, q3⟩, q4⟩ => ⟨v, h', S', ρ', v', q1, by rw [q2, q3]; exact hq, q4⟩⟩
end Go.AL.Rl

namespace Go.AL
open Go Go.RowKit

section
variable {P : Program} {γ : Nat → Option AV} {τ : Nat → TI} {C : EC} {CQ : List Blk → QC}

def AWPx (P : Program) (γ : Nat → Option AV) (ro : Option Nat) (ds : List Deferred) (c : Code) (Q : Exit → St → Prop) (A : St) : Prop :=
 ∀ B S ρ a w n, Sim B S γ ρ A a w → c.wpIn (RF ro) n P (fun e a' w' => ∃ a0 S' ρ' A', a' = df ds a0 ∧ Q e A' ∧ Sim B S' γ ρ' A' a0 w' ∧ Ext B S ρ w S' ρ' w') (df ds a) w

variable {ro : Option Nat} {ds : List Deferred}
theorem AWPx.mono {c : Code} {Q Q' : Exit → St → Prop} {A : St} (h : AWPx P γ ro ds c Q A) (hq : ∀ e A, Q e A → Q' e A) : AWPx P γ ro ds c Q' A :=
 fun B S ρ a w n hs => wpIn_mono (h B S ρ a w n hs) fun e a' w' ⟨a0, S', ρ', A', h0, h1, h2, h3⟩ => ⟨a0, S', ρ', A', h0, hq _ _ h1, h2, h3⟩
theorem AWPx.skip {Q : Exit → St → Prop} {A : St} (h : Q .normal A) : AWPx P γ ro ds .skip Q A := fun B S ρ a w n hs => wpIn_skip ⟨a, S, ρ, A, rfl, h, hs, Ext.refl _ _ _ _⟩
theorem AWPx.exit {id : Nat} {Q : Exit → St → Prop} {A : St} (h : Q (.exit id) A) : AWPx P γ ro ds (.exit id) Q A := fun B S ρ a w n hs => wpIn_exit ⟨a, S, ρ, A, rfl, h, hs, Ext.refl _ _ _ _⟩
theorem AWPx.ret {Q : Exit → St → Prop} {A : St} (h : Q .ret A) : AWPx P γ ro ds .ret Q A := fun B S ρ a w n hs => wpIn_ret ⟨a, S, ρ, A, rfl, h, hs, Ext.refl _ _ _ _⟩
theorem AWPx.seq {x y : Code} {Q : Exit → St → Prop} {A : St} (h : AWPx P γ ro ds x (thenE (fun A => AWPx P γ ro ds y Q A) Q) A) : AWPx P γ ro ds (.seq x y) Q A := by
 intro B S ρ a w n hs
 refine wpIn_seq (wpIn_mono (h B S ρ a w n hs) fun e a' w' ⟨a0, S', ρ', A', h0, h1, h2, h3⟩ => ?_)
 cases e with
 | normal => subst h0; exact wpIn_mono (h1 B S' ρ' a0 w' n h2) fun e a'' w'' ⟨a1, S'', ρ'', A'', k0, k1, k2, k3⟩ => ⟨a1, S'', ρ'', A'', k0, k1, k2, h3.trans k3⟩
 | _ => exact ⟨a0, S', ρ', A', h0, h1, h2, h3⟩
theorem AWPx.cond {c : Operand} {x y : Code} {Q : Exit → St → Prop} {A : St} (h : br (A.ev γ c) (fun _ => AWPx P γ ro ds x Q A) (fun _ => AWPx P γ ro ds y Q A)) : AWPx P γ ro ds (.cond c x y) Q A := by
 intro B S ρ a w n hs
 obtain ⟨b, h1, h2⟩ := br_val h
 refine wpIn_cond (t := b) (by rw [df_eval]; exact h1 S w (some ρ) _ (hs.ev c)) ?_
 cases b
 ·exact h2 B S ρ a w n hs
 ·exact h2 B S ρ a w n hs
theorem AWPx.block {id : Nat} {c : Code} {Q : Exit → St → Prop} {A : St} (h : AWPx P γ ro ds c (inBlk id Q) A) : AWPx P γ ro ds (.block id c) Q A := by
 intro B S ρ a w n hs
 refine wpIn_block (wpIn_mono (h B S ρ a w n hs) fun e a' w' ⟨a0, S', ρ', A', h0, h1, h2, h3⟩ => ?_)
 cases e with
 | exit id' =>
  simp only [inBlk] at h1
  simp only [Exit.inBlock]
  split
  ·rename_i e; rw [if_pos e] at h1; exact ⟨a0, S', ρ', A', h0, h1, h2, h3⟩
  ·rename_i e; rw [if_neg e] at h1; exact ⟨a0, S', ρ', A', h0, h1, h2, h3⟩
 | _ => exact ⟨a0, S', ρ', A', h0, h1, h2, h3⟩

/-- what lies behind a region, told of its last state -/
def regQ (γ : Nat → Option AV) (B : Nat) (S : Nat → Prop) (ρ : List Loc) (w : World) (K : St → Prop) : Exit → Act → World → Prop := fun e a' w' => e = .normal ∧ ∃ S' ρ' A', K A' ∧ Sim B S' γ ρ' A' a' w' ∧ Ext B S ρ w S' ρ' w'

theorem AWPx.region {id : Nat} {ops : Array Oper} {Q : Exit → St → Prop} {A : St} (hd : ops.toList.all (fun o => !isDef o) = true) (hτ : ∀ t, τ t = tiOf P t) (hC : ∀ f args h Q, C f args h Q → PC P γ f args h Q) (hv : vops τ γ C ops.toList ops.toList A (Q .normal)) : AWPx P γ ro ds (.region id ops false) Q A := by
 intro B S ρ a w n hs
 refine wpIn_region_list (list_bridge (Q := regQ γ B S ρ w (Q .normal)) (fun e a w h => h.1) ?_ _ a w hd ?_)
 ·rintro a' w' ⟨_, S', ρ', A', h1, h2, h3⟩
  exact ⟨a', S', ρ', A', rfl, h1, h2, h3⟩
 ·exact vops_sound hτ hC _ A B S ρ a w hs hv fun S' ρ' A' _ _ h1 h2 h3 => ⟨rfl, S', ρ', A', h1, h2, h3⟩

theorem AWPx.draw {id : Nat} {ops : Array Oper} {Q : Exit → St → Prop} {A : St} (hd : ops.toList.all (fun o => !isDef o) = true) (hτ : ∀ t, τ t = tiOf P t) (hC : ∀ f args h Q, C f args h Q → PC P γ f args h Q) (hCQ : ∀ h f args k, CQ h f args k → QCalls P γ h f args k) (hm : P.follows .mixedOrders = true)
  (n0 : Nat) (hB : drawB ops n0 = true) (hv : vhd τ γ CQ ops (ops.toList.take n0) A fun A => vops τ γ C ops.toList (ops.toList.drop n0) A (Q .normal)) : AWPx P γ ro ds (.region id ops true) Q A := by
 intro B S ρ a w n hs
 refine wpIn_region_any hm (any_bridge (Q := regQ γ B S ρ w (Q .normal)) hd (fun e a w h => h.1) ?_ _ _ a _ (any_region_A n0 hB hs (vhd_sound hτ hCQ _ _ hv) fun S' A' a' w' hv' hs' hx => ?_))
 ·rintro a' w' ⟨_, S', ρ', A', h1, h2, h3⟩
  exact ⟨a', S', ρ', A', rfl, h1, h2, h3⟩
 ·exact vops_sound hτ hC _ A' B S' ρ a' w' hs' hv' fun S'' ρ'' A'' a'' w'' h1 h2 h3 => ⟨rfl, S'', ρ'', A'', h1, h2, hx.trans h3⟩

/-- no deferred call is put down -/
def noDef : Code → Bool
 | .seq x y => noDef x && noDef y
 | .cond _ x y => noDef x && noDef y
 | .block _ c => noDef c
 | .region _ ops _ => ops.toList.all fun o => !isDef o
 | .skip | .exit _ | .ret => true
 | _ => false

theorem vcx_sound {D : Array Oper → (St → Prop) → St → Prop} (hτ : ∀ t, τ t = tiOf P t) (hC : ∀ f args h Q, C f args h Q → PC P γ f args h Q)
  (hD : ∀ id ops K (Q : Exit → St → Prop) A, ops.toList.all (fun o => !isDef o) = true → (∀ A, K A → Q .normal A) → D ops K A → AWPx P γ ro ds (.region id ops true) Q A) :
  ∀ (c : Code) (Q : Exit → St → Prop) (A : St), noDef c = true → vc τ γ C D (fun _ _ _ => False) c Q A → AWPx P γ ro ds c Q A
 | .skip, Q, A, _, h => AWPx.skip h
 | .seq x y, Q, A, hd, h => by
  simp only [noDef, Bool.and_eq_true] at hd
  refine AWPx.seq ((vcx_sound hτ hC hD x _ _ hd.1 h).mono fun e A' h' => ?_)
  cases e with
  | normal => exact vcx_sound hτ hC hD y _ _ hd.2 h'
  | _ => exact h'
 | .cond c x y, Q, A, hd, h => by
  simp only [noDef, Bool.and_eq_true] at hd
  refine AWPx.cond ?_
  simp only [vc] at h
  generalize A.ev γ c = v at *
  cases v
  all_goals first | exact h.elim | skip
  all_goals simp only [br] at h ⊢
  all_goals first | exact vcx_sound hτ hC hD x _ _ hd.1 h | exact vcx_sound hτ hC hD y _ _ hd.2 h | skip
  exact ⟨fun u hu => vcx_sound hτ hC hD x _ _ hd.1 (h.1 u hu), fun u hu => vcx_sound hτ hC hD y _ _ hd.2 (h.2 u hu)⟩
 | .block id c, Q, A, hd, h => AWPx.block (vcx_sound hτ hC hD c _ _ hd h)
 | .exit id, Q, A, _, h => AWPx.exit h
 | .ret, Q, A, _, h => AWPx.ret h
 | .region id ops false, Q, A, hd, h => AWPx.region hd hτ hC h
 | .region id ops true, Q, A, hd, h => hD id ops _ Q A hd (fun _ h => h) h
 | .loop c, Q, A, _, h => h.elim
 | .scope c, Q, A, hd, h => by simp [noDef] at hd
 | .goto _, _, _, _, h => h.elim
 | .label _, Q, A, hd, h => by simp [noDef] at hd
 | .refuse _, _, _, _, h => h.elim
 | .rangeFunc .., _, _, _, h => h.elim

/-- what a walk of straight code may lean on -/
structure EnvX (P : Program) (γ : Nat → Option AV) (C : EC) (CQ : List Blk → QC) (T : Nat → TI) (D : Array Oper → (St → Prop) → St → Prop) : Prop where
 c : ∀ {f args h Q}, SCalls P γ f args h Q → C (.inl f) args h Q
 q : ∀ {h f args k}, QCalls P γ h f args k → CQ h f args k
 d : ∀ n {ops K A}, drawB ops n = true → vhd T γ CQ ops (ops.toList.take n) A (fun A => vops T γ C ops.toList (ops.toList.drop n) A K) → D ops K A

def Dx (P : Program) (γ : Nat → Option AV) (ops : Array Oper) (K : St → Prop) (A : St) : Prop := ops.toList.all (fun o => !isDef o) = true → ∀ ro ds id, AWPx P γ ro ds (.region id ops true) (thenE K fun _ _ => False) A
theorem EnvX.top {ty : Program → Nat → TI} (hτ : ∀ t, ty P t = tiOf P t) (hm : P.follows .mixedOrders = true) : EnvX P γ (PC P γ) (fun h f args k => QCalls P γ h f args k) (ty P) (Dx P γ) where
 c := fun h => h
 q := fun h => h
 d := fun n {ops K A} h1 h2 hd ro ds id => AWPx.draw (Q := thenE K fun _ _ => False) hd hτ (fun _ _ _ _ h => h) (fun _ _ _ _ h => h) hm n h1 h2
theorem EnvX.to {ty : Program → Nat → TI} (hτ : ∀ t, ty P t = tiOf P t) (hm : P.follows .mixedOrders = true) {c : Code} {Q : Exit → St → Prop} {A : St} (hd : noDef c = true) (h : vc (ty P) γ (PC P γ) (Dx P γ) (fun _ _ _ => False) c Q A) : AWPx P γ ro ds c Q A :=
 vcx_sound hτ (fun _ _ _ _ h => h) (fun id ops K Q A hd hK h => (h hd ro ds id).mono fun e A' he => by
  cases e with
  | normal => exact hK A' he
  | _ => exact he.elim) c Q A hd h
end
end Go.AL

namespace Go.AL
open Go Go.RowKit

section
variable {P : Program} {γ : Nat → Option AV}

def noCells (o : Obj) : Prop := ∀ c t f, o ≠ .cells c t f

/-- an object is turned into another -/
theorem HeapR.putObj {B : Nat} {S : Nat → Prop} {ρ : List Loc} {h : List Blk} {w : World} (hh : HeapR B S γ ρ h w) {b K : Nat} {o : Obj} (o' : Obj) {s : Tr} {t : Array Value} (hb : h[b]? = some (.obj K o s t)) (ho : noCells o) (ho' : noCells o') :
  w.heap[K]? = some o ∧ HeapR B S γ ρ (h.set b (.obj K o' s t)) (w.putObj K o') ∧ Ext B S ρ w S ρ (w.putObj K o') ∧ ∀ n, R S w (some ρ) (s.get n) (t.getD n Go.undef) := by
 have hblt : b < ρ.length := by rw [hh.len]; exact (List.getElem?_eq_some_iff.1 hb).1
 obtain ⟨loc, hloc⟩ : ∃ loc, ρ[b]? = some loc := ⟨_, List.getElem?_eq_getElem hblt⟩
 obtain ⟨k1, k2, k3, k4⟩ := hh.blk b _ loc hb hloc
 obtain ⟨m1, m2, m3⟩ := hh.own b loc K hloc (.inl k2)
 have same : SameOn S w (w.putObj K o') := fun k hk => World.putObj_heap_other (fun e => m1 (e ▸ hk))
 have fro : ∀ a, (w.putObj K o').frozen? a = w.frozen? a := fun a => by
  by_cases e : a.block = K
  ·simp only [World.frozen?, e, World.putObj_heap_same m2, k3]
   cases o' <;> first | exact absurd rfl (ho' _ _ _) | (cases o <;> first | exact absurd rfl (ho _ _ _) | rfl)
  ·simp only [World.frozen?, World.putObj_heap_other e]
 have fr : Fr w (w.putObj K o') := ⟨rfl, rfl, rfl, by simp, fun a _ => fro a⟩
 refine ⟨k3, ⟨by simp [hh.len], fun b' bk lc h1 h2 => ?_, fun b' lc K' h1 h2 => by have := hh.own b' lc K' h1 h2; simpa using this, hh.inj, fun k hk => by simpa using hh.sle k hk, fun g x hg => ?_, by simpa using hh.bsz, hh.sok⟩,
  ⟨fr, fun k hk => World.putObj_heap_other (by omega), fun _ h => h, same, LocsUp.refl ρ, fun _ h => .inl h⟩, k4⟩
 ·by_cases e : b = b'
  ·subst e
   rw [hloc] at h2; cases h2
   rw [List.getElem?_set_self (by rw [← hh.len]; exact hblt)] at h1
   cases h1
   exact ⟨k1, k2, World.putObj_heap_same m2, fun n => R.mono (fun _ h => h) same (ρ := some ρ) (ρ' := some ρ) (LocsUp.refl ρ) _ _ (k4 n)⟩
  ·rw [List.getElem?_set_ne e] at h1
   refine (hh.blk b' bk lc h1 h2).mono (fun _ h => h) same (LocsUp.refl ρ) fun K' hK' => World.putObj_heap_other fun e' => e ?_
   subst e'
   exact hh.inj b b' loc lc _ hloc h2 (.inl k2) hK'
 ·exact R.mono (fun _ h => h) same (ρ := none) (ρ' := none) trivial _ _ (hh.gok g x hg)
end
end Go.AL

namespace Go.AL
open Go Go.RowKit

/-- the loop's record -/
def recOf (fn : FuncId) (t : Array Value) (ps : Array Tmp) (asg bd : Code) (D : Nat) (st : LoopState) (pe : Option Code) : Obj :=
 .loop { state := st, pending := pe, fn, tmps := t, params := ps, assign := asg, body := bd, defers := D }
theorem recOf_nc {fn : FuncId} {t : Array Value} {ps : Array Tmp} {asg bd : Code} {D : Nat} {st : LoopState} {pe : Option Code} : noCells (recOf fn t ps asg bd D st pe) := fun _ _ _ h => by cases h

section
variable {P : Program} {γ : Nat → Option AV}

theorem sets_slots {S : Nat → Prop} {w : World} {ρ : List Loc} : ∀ (ps : List Tmp) (args : List AV) (vals : List Value) (s : Tr) (t : Array Value), Rs S w (some ρ) args vals → ps.length = args.length → (∀ p ∈ ps, p < t.size ∧ p + 1 < 1024) →
  (∀ n, R S w (some ρ) (s.get n) (t.getD n Go.undef)) → ∀ n, R S w (some ρ) ((sets (ps.zip args) s).get n) (((ps.zip vals).foldl (fun t (p, v) => t.setIfInBounds p v) t).getD n Go.undef)
 | [], args, vals, s, t, _, _, _, hs, n => by simpa [sets] using hs n
 | p :: ps, args, vals, s, t, hr, hl, hp, hs, n => by
  cases args with
  | nil => simp at hl
  | cons x args =>
   obtain ⟨v, vs, rfl, h1, h2⟩ := hr
   simp only [List.zip_cons_cons, sets, List.foldl_cons]
   refine sets_slots ps args vs _ _ h2 (by simpa using hl) (fun q hq => by have := hp q (List.mem_cons_of_mem _ hq); simpa using this) (fun m => ?_) n
   obtain ⟨hp1, hp2⟩ := hp p List.mem_cons_self
   rw [Tr.get_set' 10 s p m x (by omega)]
   by_cases e : m = p
   ·subst e
    rw [if_pos rfl]
    have : (t.setIfInBounds m v).getD m Go.undef = v := by simp [Array.getD, hp1]
    rw [this]; exact h1
   ·rw [if_neg e]
    have : (t.setIfInBounds p v).getD m Go.undef = t.getD m Go.undef := by
     rw [Array.getD_eq_getD_getElem?, Array.getD_eq_getD_getElem?, Array.getElem?_setIfInBounds_ne (Ne.symm e)]
    rw [this]; exact hs m

theorem foldl_size : ∀ (l : List (Tmp × Value)) (t : Array Value), (l.foldl (fun t (p, v) => t.setIfInBounds p v) t).size = t.size
 | [], t => rfl
 | (p, v) :: l, t => by rw [List.foldl_cons, foldl_size l]; simp

/-- what a round's body must leave -/
def endQ (b l : Nat) (oB oR : Obj) (oX : Option Obj) (s : Tr) (t : Array Value) (Q : AV → List Blk → Prop) : Exit → St → Prop
 | .normal, A => A.h[b]? = some (.obj l oB s t) ∧ Q .tt (A.h.set b (.obj l oR s t))
 | .ret, A => match oX with | some oX => A.h[b]? = some (.obj l oB s t) ∧ Q .ff (A.h.set b (.obj l oX s t)) | none => False
 | _, _ => False

theorem YCall.of_body {l D b fn n0 : Nat} {s : Tr} {t : Array Value} {ps : Array Tmp} {asg bd : Code} {H : List Blk} {args : List AV} {Q : AV → List Blk → Prop} (hn : t.size = n0) (hn0 : n0 ≤ 1000) (hps : ps.toList.length = args.length) (hp : ∀ p ∈ ps.toList, p < n0)
  (hb : H[b]? = some (.obj l (recOf fn t ps asg bd D .ready none) s t))
  (h : AWPx P γ (some l) [] asg (thenE (fun A => A.h[b]? = some (.obj l (recOf fn t ps asg bd D .ready none) s t) ∧
   AWPx P γ (some l) [] bd (endQ b l (recOf fn t ps asg bd D .busy none) (recOf fn t ps asg bd D .ready none) (some (recOf fn t ps asg bd D .done (some .ret))) s t Q) ⟨A.n, A.s, A.h.set b (.obj l (recOf fn t ps asg bd D .busy none) s t)⟩) fun _ _ => False) ⟨n0, sets (ps.toList.zip args) s, H⟩) : YCall P γ l args H Q := by
 intro B S ρ w vals hh hr
 have hblt : b < ρ.length := by rw [hh.len]; exact (List.getElem?_eq_some_iff.1 hb).1
 obtain ⟨_, _, hl, hslots⟩ := hh.blk b _ _ hb (List.getElem?_eq_getElem hblt)
 have hvl := Rs_len hr
 have hy := run_yield (P := P) (args := vals.toArray) hl (by show vals.toArray.size = ps.size; simp; rw [hvl, ← hps]; simp)
 refine ⟨_, _, _, _, hy, fun n => roundIn_of_wpIn (F := Fence.wide) trivial ?_⟩
 have hz : ∀ (vs : List Value), (ps.zip vs.toArray).foldl (fun t (p, v) => t.setIfInBounds p v) t = (ps.toList.zip vs).foldl (fun t (p, v) => t.setIfInBounds p v) t := fun vs => by
  rw [← Array.foldl_toList]; simp
 have hsim : Sim B S γ ρ ⟨n0, sets (ps.toList.zip args) s, H⟩ ⟨(ps.zip vals.toArray).foldl (fun t (p, v) => t.setIfInBounds p v) t, []⟩ w := by
  refine ⟨rfl, ?_, hn0, ?_, hh⟩
  ·show ((ps.zip vals.toArray).foldl (fun t (p, v) => t.setIfInBounds p v) t).size = n0
   rw [hz, foldl_size]; exact hn
  ·intro m
   show R S w (some ρ) ((sets (ps.toList.zip args) s).get m) (((ps.zip vals.toArray).foldl (fun t (p, v) => t.setIfInBounds p v) t).getD m Go.undef)
   rw [hz]
   exact sets_slots _ _ _ _ _ hr hps (fun p hp' => ⟨by rw [hn]; exact hp p hp', by have h9 : @LT.lt Nat _ p n0 := hp p hp'; exact (by omega : @LT.lt Nat _ (@HAdd.hAdd Nat Nat Nat _ p 1) 1024)⟩) hslots m
 refine wpIn_mono (h B S ρ _ w n hsim) fun e a1 w1 ⟨a0, S1, ρ1, A1, h0, h1, hs1, hx1⟩ => ?_
 cases e with
 | normal =>
  obtain ⟨hb1, hbody⟩ := h1
  obtain ⟨hl1, hh1, hxp, _⟩ := hs1.heap.putObj (recOf fn t ps asg bd D .busy none) hb1 recOf_nc recOf_nc
  refine ⟨_, run_beginRound hl1 rfl, ?_⟩
  subst h0
  refine wpIn_mono (hbody B S1 ρ1 a0 _ n ⟨hs1.nodef, hs1.size, hs1.small, fun m => hxp.R (hs1.slot m), hh1⟩) fun e a2 w2 ⟨a3, S2, ρ2, A2, h2, h3, hs2, hx2⟩ => ?_
  have hx := (hx1.trans hxp).trans hx2
  cases e with
  | normal =>
   obtain ⟨hb2, hQ⟩ := h3
   obtain ⟨hl2, hh2, hxq, _⟩ := hs2.heap.putObj (recOf fn t ps asg bd D .ready none) hb2 recOf_nc recOf_nc
   exact ⟨_, _, run_endRound none hl2, .tt, _, S2, ρ2, _, rfl, hQ, rfl, hh2, hx.trans hxq⟩
  | ret =>
   obtain ⟨hb2, hQ⟩ := h3
   obtain ⟨hl2, hh2, hxq, _⟩ := hs2.heap.putObj (recOf fn t ps asg bd D .done (some .ret)) hb2 recOf_nc recOf_nc
   exact ⟨_, _, run_endRound (some .ret) hl2, .ff, _, S2, ρ2, _, rfl, hQ, rfl, hh2, hx.trans hxq⟩
  | _ => exact h3.elim
 | _ => exact h1.elim
end
end Go.AL

namespace Go.AL
open Go Go.RowKit

section
variable {P : Program} {γ : Nat → Option AV}

def mark (D : Nat) : Deferred := { target := .collected D, args := #[] }
end
end Go.AL

namespace Go.AL
open Go Go.RowKit

section
variable {P : Program} {γ : Nat → Option AV}

theorem Step.refl {A : St} : Step γ A A := fun _ S ρ _ _ hs => ⟨S, ρ, hs, Ext.refl _ _ _ _⟩
end
end Go.AL

namespace Go.AL.Rl
open Go Go.AL Go.Proofs
set_option maxRecDepth 100000
set_option maxHeartbeats 3200000
variable {γ : Nat → Option AV}

end Go.AL.Rl

namespace Go.AL.Rl
open Go Go.AL Go.Proofs
set_option maxRecDepth 100000
set_option maxHeartbeats 3200000
variable {γ : Nat → Option AV}

end Go.AL.Rl

namespace Go.AL.Rl
open Go Go.AL Go.Proofs
set_option maxRecDepth 100000
set_option maxHeartbeats 3200000
variable {γ : Nat → Option AV}

theorem Rc.ext' {a b : Rc} (h1 : a.loc = b.loc) (h2 : a.a = b.a) (h3 : a.b = b.b) : a = b := by cases a; cases b; simp_all
end Go.AL.Rl

namespace Go.AL.Rl
open Go Go.AL Go.Proofs
set_option maxRecDepth 100000
set_option maxHeartbeats 3200000

section
variable {g : Gr} {t : Nat} {e : Ev} {d : EId} {p : Int} (hg : GOk g) (ht : t < g.th.length) (hh : GOk (addG g t e d p))
include hg ht hh
end
end Go.AL.Rl

namespace Go.AL.Rl
open Go Go.AL Go.Proofs
set_option maxRecDepth 100000
set_option maxHeartbeats 3200000
variable {γ : Nat → Option AV}

structure RcOk (g : Gr) (r : Rc) : Prop where
 thr : r.a.t ≠ r.b.t
 ord : ((eventM g r.a).getD ev0).order = 1 ∨ ((eventM g r.b).getD ev0).order = 1
 kind : ((eventM g r.a).getD ev0).kind ≠ 1 ∨ ((eventM g r.b).getD ev0).kind ≠ 1
end Go.AL.Rl

namespace Go.AL.Rl
open Go Go.AL Go.Proofs
set_option maxRecDepth 100000
set_option maxHeartbeats 3200000
variable {γ : Nat → Option AV}

end Go.AL.Rl

namespace Go.AL.Rl
open Go Go.AL Go.Proofs
set_option maxRecDepth 100000
set_option maxHeartbeats 3200000
variable {γ : Nat → Option AV}

def pickM (n : Int) (m : Nat) : Nat := (if n.tmod m < 0 then n.tmod m + m else n.tmod m).toNat
theorem pick_lt (n : Int) {m : Nat} (h : 0 < m) : pickM n m < m := by
 have h1 := Int.tmod_lt_of_pos n (show (0 : Int) < m by omega)
 have h2 : -(m : Int) < n.tmod m := by
  exact Int.lt_tmod_of_pos n (by omega)
 unfold pickM
 split <;> omega
theorem pick_ok (n : Int) (m : Nat) (h : 0 < m) (hm : m ≤ 1000) : Pure Try.prog γ false 11 [.i fun _ => n, .i fun _ => (m : Int)] (.i fun _ => (pickM n m : Int)) := by
 have h1 := Int.tmod_lt_of_pos n (show (0 : Int) < m by omega)
 refine Pure.go (ty := ty) ty_eq mo Try.func11 rfl Try.ntmps11 Try.results11 Try.call11 (by simp) fun P C CQ D W F E hF => ?_
 cbv
 repeat' (first
  |(refine ⟨fun _ h_s=>?_,fun _ h_s=>?_⟩<;>(cbv;(try simp only [nc] at *);try simp (disch:=(first|omega|(simp only [lnS];omega))) only [rdT,rdS,reduceCtorEq,trT] at h_s))
  |(refine hF ?_;intro _;clear hF)
  |(refine hF ?_;cbv;clear hF)
  |(refine ⟨fun _=>?_,?_⟩;(· ((try simp only [nc] at *);first|done|omega|exact ⟨by omega,rfl⟩|(simp (disch:=(first|omega|(simp only [lnS];omega))) only [rdT,rdS];first|done|omega|rfl|exact ⟨by omega,rfl⟩|(simp;done)|(simp;omega))|(intros;trivial)));(try (simp only [nc] at *));(try simp (disch:=(first|omega|(simp only [lnS];omega))) only [rdT,rdS]);(try cbv))
  | fail
 )
 ·have h2 := Int.lt_tmod_of_pos n (show (0 : Int) < m by omega)
  show w64 (n.tmod m + m) = (pickM n m : Int)
  have hs : n.tmod m < 0 := by ((try simp only [nc] at *); omega)
  unfold pickM
  rw [if_pos hs, w64_of (by omega) (by omega)]
  omega
 ·show n.tmod m = (pickM n m : Int)
  have hs : ¬ n.tmod m < 0 := by ((try simp only [nc] at *); omega)
  unfold pickM
  rw [if_neg hs]
  omega
end Go.AL.Rl

namespace Go.AL.Rl
open Go Go.AL Go.Proofs
set_option maxRecDepth 100000
set_option maxHeartbeats 3200000
variable {γ : Nat → Option AV}

def rlxE (e : Ev) : Ev := ⟨e.kind, e.loc, 2, e.rd, e.wr⟩
theorem Wke.trans {a b c : Ev} (h : Wke a b) (k : Wke b c) : Wke a c :=
 ⟨k.kind.trans h.kind, k.loc.trans h.loc, k.rd.trans h.rd, k.wr.trans h.wr, fun h1 h2 => k.ord (h.ord h1 h2).1 (h.ord h1 h2).2, fun h1 => h.acq (k.acq h1), fun h1 => h.rel (k.rel h1), fun h1 => h.na (k.na h1)⟩
theorem rlxE_wk {e : Ev} (he : e.order ≠ 1) : Wke e (rlxE e) := ⟨rfl, rfl, rfl, rfl, fun _ _ => ⟨by show (1 : Int) ≤ 2; omega, by show (2 : Int) ≤ 6; omega⟩, fun h => by simp [acqM, rlxE] at h, fun h => by simp [relM, rlxE] at h, fun _ => he⟩
/-- the threads with one event made plainer -/
def rlxT (l : List (List Ev)) (d : EId) : List (List Ev) :=
 if 0 < d.t ∧ ((l.getD (d.t - 1).toNat []).getD d.i.toNat ev0).order ≠ 1 then l.set (d.t - 1).toNat ((l.getD (d.t - 1).toNat []).set d.i.toNat (rlxE ((l.getD (d.t - 1).toNat []).getD d.i.toNat ev0))) else l
theorem rlxT_len (l : List (List Ev)) (d : EId) : (rlxT l d).length = l.length := by unfold rlxT; split <;> simp
theorem rlxT_lens (l : List (List Ev)) (d : EId) (s : Nat) : ((rlxT l d).getD s []).length = (l.getD s []).length := by
 unfold rlxT
 split
 ·rcases Nat.lt_or_ge (d.t - 1).toNat l.length with h | h
  ·rw [getD_set' _ _ _ _ _ h]
   split
   ·rename_i e; subst e; simp
   ·rfl
  ·rw [List.set_eq_of_length_le h]
 ·rfl
theorem rlxT_evs (l : List (List Ev)) (d : EId) (s i : Nat) : Wke ((l.getD s []).getD i ev0) (((rlxT l d).getD s []).getD i ev0) := by
 unfold rlxT
 split
 ·rename_i hc
  rcases Nat.lt_or_ge (d.t - 1).toNat l.length with h | h
  ·rw [getD_set' _ _ _ _ _ h]
   split
   ·rename_i e
    subst e
    rcases Nat.lt_or_ge d.i.toNat (l.getD (d.t - 1).toNat []).length with h2 | h2
    ·rw [getD_set' _ _ _ _ _ h2]
     split
     ·rename_i e; subst e; exact rlxE_wk hc.2
     ·exact Wke.refl _
    ·rw [List.set_eq_of_length_le h2]; exact Wke.refl _
   ·exact Wke.refl _
  ·rw [List.set_eq_of_length_le h]; exact Wke.refl _
 ·exact Wke.refl _
def rlxTo (g : Gr) (D : Nat → EId) : Nat → List (List Ev)
 | 0 => g.th
 | i + 1 => rlxT (rlxTo g D i) (D i)
theorem rlxTo_wk (g : Gr) (D : Nat → EId) : ∀ i, Wk g ⟨g.init, rlxTo g D i, g.fr, g.ord⟩
 | 0 => ⟨rfl, rfl, rfl, rfl, fun _ => rfl, fun _ _ => Wke.refl _⟩
 | i + 1 => by
  have h := rlxTo_wk g D i
  exact ⟨rfl, rfl, rfl, (rlxT_len _ _).trans h.len, fun s => (rlxT_lens _ _ s).trans (h.lens s), fun s k => (h.evs s k).trans (rlxT_evs _ _ s k)⟩
theorem rAt_ok (g : Gr) (hg : GOk g) (n : Nat) (hn : n < nG g) : Pure Try.prog γ false 10 [aGr g, .i fun _ => (n : Int)] (.tup [aId ((idsG g).getD n id0), .b fun _ => true]) := by
 have hR := rd_short hg
 have kc := count_ok (γ := γ) g hR
 unfold NG at kc
 rw [if_pos hg] at kc
 have ki := ids14_ok (γ := γ) g hg.short
 have hs := (viewG_wf hg).small
 have hl : (idsG g).length = nG g := rfl
 generalize nG g = N at *
 refine Pure.go (ty := ty) ty_eq mo Try.func10 rfl Try.ntmps10 Try.results10 Try.call10 (by simp) fun P C CQ D W F E hF => ?_
 cbv
 repeat' (first
  |((first|refine E.c (SCalls.of_le (ki) ?_ ?_)|refine E.q (QCalls.of_le (ki) ?_ ?_));(· (cbv;(try simp only [nc] at *);first|done|(simp;done)|(simp (disch:=(first|omega|(simp only [lnS];omega))) only [rdT,rdS,anT];first|done|omega|(refine ⟨?_,?_⟩<;>omega))|(simp (disch:=(first|omega|(simp only [lnS];omega))) [rdT,rdS];done)));cbv)
  |((first|refine E.c (SCalls.of_le (kc) ?_ ?_)|refine E.q (QCalls.of_le (kc) ?_ ?_));(· (cbv;(try simp only [nc] at *);first|done|(simp;done)|(simp (disch:=(first|omega|(simp only [lnS];omega))) only [rdT,rdS,anT];first|done|omega|(refine ⟨?_,?_⟩<;>omega))|(simp (disch:=(first|omega|(simp only [lnS];omega))) [rdT,rdS];done)));cbv)
  |(refine ⟨fun _ h_s=>?_,fun _ h_s=>?_⟩<;>(cbv;(try simp only [nc] at *);try simp (disch:=(first|omega|(simp only [lnS];omega))) only [rdT,rdS,reduceCtorEq,trT] at h_s))
  |(refine hF ?_;intro _;clear hF)
  |(refine hF ?_;cbv;clear hF)
  |(refine ⟨fun _=>?_,?_⟩;(· ((try simp only [nc] at *);first|done|omega|exact ⟨by omega,rfl⟩|(simp (disch:=(first|omega|(simp only [lnS];omega))) only [rdT,rdS];first|done|omega|rfl|exact ⟨by omega,rfl⟩|(simp;done)|(simp;omega))|(intros;trivial)));(try (simp only [nc] at *));(try simp (disch:=(first|omega|(simp only [lnS];omega))) only [rdT,rdS]);(try cbv))
  | fail
 )
 all_goals first
  | (exfalso; ((try simp only [nc] at *); omega))
  | (simp; done)
/-- the thread and place of an event of a thread -/
theorem ids_at (g : Gr) (hg : GOk g) {n : Nat} (hn : n < nG g) : ((idsG g).getD n id0).t = 0 ∨ ∃ t i : Nat, (idsG g).getD n id0 = ⟨(t : Int) + 1, (i : Int)⟩ ∧ t < g.th.length ∧ i < (g.th.getD t []).length := by
 rcases Nat.lt_or_ge n g.init.length with h1 | h1
 ·left; rw [ids_init h1]
 ·right
  obtain ⟨t, j, ht, hj, rfl⟩ := kN_of hg hn h1
  exact ⟨t, j, (kN_ids ht hj).2, ht, hj⟩
theorem modelOrders_main (g : Gr) (hg : GOk g) (wh : List Int) (hli : lightM 60 g = true) (hw : wh.length ≤ 60) :
  Pure Try.prog γ false 3 [aGr g, .vs 1 fun _ => is wh] (.b fun _ => true) := by
 have hR := rd_short hg
 have kl := lives16_ok (γ := γ)
 have ki := light_ok (γ := γ) g hR 60 (by omega) (by omega)
 rw [hli] at ki
 have kc := check14_ok (γ := γ) g hR
 rw [gcheck0 hg] at kc
 have kn := count_ok (γ := γ) g hR
 unfold NG at kn
 rw [if_pos hg] at kn
 have hs := hg.short
 have hth := hs.th
 have hle := hs.at
 have hsm := (viewG_wf hg).small
 have kp := fun i (h : 0 < nG g) => pick_ok (γ := γ) (wh.getD i 0) (nG g) h (by omega)
 have ka := fun i (h : 0 < nG g) => rAt_ok (γ := γ) g hg _ (pick_lt (wh.getD i 0) h)
 have kd := fun i (h : 0 < nG g) => ids_at g hg (pick_lt (wh.getD i 0) h)
 obtain ⟨n1, n2, n3, ko⟩ := rcopy_own (γ := γ) g (rdb_ok hg) hR
 obtain ⟨DD, hD⟩ : ∃ DD : Nat → EId, ∀ i, DD i = (idsG g).getD (pickM (wh.getD i 0) (nG g)) id0 := ⟨_, fun _ => rfl⟩
 simp only [← hD] at ka kd
 have W := rlxTo_wk g DD
 obtain ⟨TH, hTH⟩ : ∃ TH : Nat → List (List Ev), ∀ i, TH i = rlxTo g DD i := ⟨_, fun _ => rfl⟩
 have hT0 : TH 0 = g.th := hTH 0
 have hTS : ∀ i, TH (i + 1) = rlxT (TH i) (DD i) := fun i => by rw [hTH, hTH]; rfl
 simp only [← hTH] at W
 have hTl : ∀ i, (TH i).length = g.th.length := fun i => (W i).len
 have hTls : ∀ i t, ((TH i).getD t []).length = (g.th.getD t []).length := fun i => (W i).lens
 have hgh := fun i => wk_ok (W i) hg
 have c1 := mcheck1 (γ := γ) g hR hg
 have c2 := mcheck2 (γ := γ) g hR hg
 have d1 := fun i => mcheck1 (γ := γ) _ (rd_short (hgh i)) (hgh i)
 have d2 := fun i => mcheck2 (γ := γ) _ (rd_short (hgh i)) (hgh i)
 simp only [fun i => allHold_sc (W i)] at d1
 have hra := fun i => allHold_ra (W i) hg
 generalize allHold g [1, 2, 6] = b1 at *
 generalize allHold g [1, 2, 3, 4, 5] = b2 at *
 obtain ⟨b3, hb3⟩ : ∃ b3 : Nat → Bool, ∀ i, b3 i = allHold ⟨g.init, TH i, g.fr, g.ord⟩ [1, 2, 3, 4, 5] := ⟨_, fun _ => rfl⟩
 simp only [← hb3] at d2 hra
 clear hgh W hTH hD hb3
 generalize nG g = N at *
 obtain ⟨m, hm⟩ : ∃ m, m = wh.length := ⟨_, rfl⟩
 refine Pure.go (ty := ty) ty_eq mo Try.func3 rfl Try.ntmps3 Try.results3 Try.call3 (by simp) fun P C CQ D W F E hF => ?_
 cbv
 repeat' (first
  |((first|refine E.c (SCalls.of_le (kn) ?_ ?_)|refine E.q (QCalls.of_le (kn) ?_ ?_));(· (cbv;(try simp only [nc] at *);first|done|(simp;done)|(simp (disch:=(first|omega|(simp only [lnS];omega))) only [rdT,rdS,anT];first|done|omega|(refine ⟨?_,?_⟩<;>omega))|(simp (disch:=(first|omega|(simp only [lnS];omega))) [rdT,rdS];done)));cbv)
  |(refine E.c (SCalls.of_owns (ko) ?_ ?_);(· (cbv;(try simp only [nc] at *);first|done|(simp;done)|(simp (disch:=(first|omega|(simp only [lnS];omega))) only [rdT,rdS,anT];first|done|omega|(refine ⟨?_,?_⟩<;>omega))|(simp (disch:=(first|omega|(simp only [lnS];omega))) [rdT,rdS];done)));cbv)
  |(refine E.c (SCalls.of_le (kc) ?_ ?_);(· (cbv;(try simp only [nc] at *);first|done|(simp;done)|(simp (disch:=(first|omega|(simp only [lnS];omega))) only [rdT,rdS,anT];first|done|omega|(refine ⟨?_,?_⟩<;>omega))|(simp (disch:=(first|omega|(simp only [lnS];omega))) [rdT,rdS];done)));cbv)
  |(refine E.c (SCalls.of_le (ki) ?_ ?_);(· (cbv;(try simp only [nc] at *);first|done|(simp;done)|(simp (disch:=(first|omega|(simp only [lnS];omega))) only [rdT,rdS,anT];first|done|omega|(refine ⟨?_,?_⟩<;>omega))|(simp (disch:=(first|omega|(simp only [lnS];omega))) [rdT,rdS];done)));cbv)
  |(refine E.c (SCalls.of_le (kl) ?_ ?_);(· (cbv;(try simp only [nc] at *);first|done|(simp;done)|(simp (disch:=(first|omega|(simp only [lnS];omega))) only [rdT,rdS,anT];first|done|omega|(refine ⟨?_,?_⟩<;>omega))|(simp (disch:=(first|omega|(simp only [lnS];omega))) [rdT,rdS];done)));cbv)
  |(refine ⟨fun _ h_s=>?_,fun _ h_s=>?_⟩<;>(cbv;(try simp only [nc] at *);try simp (disch:=(first|omega|(simp only [lnS];omega))) only [rdT,rdS,reduceCtorEq,trT] at h_s))
  |(refine hF ?_;intro _;clear hF)
  |(refine hF ?_;cbv;clear hF)
  |(refine ⟨fun _=>?_,?_⟩;(· ((try simp only [nc] at *);first|done|omega|exact ⟨by omega,rfl⟩|(simp (disch:=(first|omega|(simp only [lnS];omega))) only [rdT,rdS];first|done|omega|rfl|exact ⟨by omega,rfl⟩|(simp;done)|(simp;omega))|(intros;trivial)));(try (simp only [nc] at *));(try simp (disch:=(first|omega|(simp only [lnS];omega))) only [rdT,rdS]);(try cbv))
  |(refine E.d 9 (by decide +kernel) ?_;cbv;(fail_if_success guard_target =~ False))
  |(refine E.d 13 (by decide +kernel) ?_;cbv;(fail_if_success guard_target =~ False))
  | fail
 )
 all_goals (try (exfalso; revert h_s; simp; done))
 all_goals (try (exfalso; ((try simp only [nc] at *); omega)))
 refine E.loopS (ι:=Nat) (fun i=>i≤wh.length) (fun i=>wh.length - i) (fun i=>[(7,.i fun _=>((i : Nat) : Int))]) (fun i h=>h.set 5 (.nest n1 5 (fun _=>evL (TH i)) none)) 0 (fun _=>by first|rfl|simp) (Nat.zero_le _) ?_ fun i hi I hI=>?_
 ·cbv; simp [hT0]
 cbv
 repeat' (first
  |(refine E.de 13 [] [none] (by decide +kernel) ?_;cbv;(fail_if_success guard_target =~ False))
  |(refine ⟨fun _ h_s=>?_,fun _ h_s=>?_⟩<;>(cbv;(try simp only [nc] at *);try simp (disch:=(first|omega|(simp only [lnS];omega))) only [rdT,rdS,reduceCtorEq,trT] at h_s))
  |(refine hF ?_;intro _;clear hF)
  |(refine hF ?_;cbv;clear hF)
  |(refine ⟨fun _=>?_,?_⟩;(· ((try simp only [nc] at *);first|done|omega|exact ⟨by omega,rfl⟩|(simp (disch:=(first|omega|(simp only [lnS];omega))) only [rdT,rdS];first|done|omega|rfl|exact ⟨by omega,rfl⟩|(simp;done)|(simp;omega))|(intros;trivial)));(try (simp only [nc] at *));(try simp (disch:=(first|omega|(simp only [lnS];omega))) only [rdT,rdS]);(try cbv))
  |(refine E.d 9 (by decide +kernel) ?_;cbv;(fail_if_success guard_target =~ False))
  |(refine E.d 13 (by decide +kernel) ?_;cbv;(fail_if_success guard_target =~ False))
  | fail
 )
 ·have hN : 0 < N := by ((try simp only [nc] at *); omega)
  have kp := kp i hN
  have ka := ka i hN
  have hTi := hTS i
  have hTj := hTl i
  have hTk := hTls i
  refine E.q (QCalls.of_le kp ?_ ?_)
  ·cbv; simp
  cbv
  refine E.q (QCalls.of_le ka ?_ ?_)
  ·cbv; simp
  cbv
  rcases kd i hN with h0 | ⟨t, k, e, ht, hk⟩
  ·have e1 : rlxT (TH i) (DD i) = TH i := by unfold rlxT; rw [if_neg]; rintro ⟨h, _⟩; omega
   rw [e1] at hTi
   repeat' (first
    |(refine hI (i + 1) ?_ ?_ ?_;rotate_left 1;(· ((try simp only [nc] at *);omega));(cbv;clear hI;(try clear hF);(try simp only [nc] at *);(try simp (disch:=(first|omega|(simp only [lnS];omega))) only [rdT,rdS,anT]));rotate_left 1;(try ((try simp only [nc] at *);omega)))
    |(refine ⟨fun _ h_s=>?_,fun _ h_s=>?_⟩<;>(cbv;(try simp only [nc] at *);try simp (disch:=(first|omega|(simp only [lnS];omega))) only [rdT,rdS,reduceCtorEq,trT] at h_s))
    |(refine hF ?_;intro _;clear hF)
    |(refine hF ?_;cbv;clear hF)
    |(refine ⟨fun _=>?_,?_⟩;(· ((try simp only [nc] at *);first|done|omega|exact ⟨by omega,rfl⟩|(simp (disch:=(first|omega|(simp only [lnS];omega))) only [rdT,rdS];first|done|omega|rfl|exact ⟨by omega,rfl⟩|(simp;done)|(simp;omega))|(intros;trivial)));(try (simp only [nc] at *));(try simp (disch:=(first|omega|(simp only [lnS];omega))) only [rdT,rdS]);(try cbv))
    |(refine E.d 9 (by decide +kernel) ?_;cbv;(fail_if_success guard_target =~ False))
    |(refine E.d 13 (by decide +kernel) ?_;cbv;(fail_if_success guard_target =~ False))
    | fail
   )
   all_goals (try simp only [hTi])
   all_goals first
    | (exfalso; ((try simp only [nc] at *); omega))
    | exact ⟨by push_cast; rfl, rfl⟩
    | exact ⟨by push_cast; rfl, trivial⟩
  ·(try simp only [nc] at *)
   have ht' : t < (TH i).length := by rw [hTj]; exact ht
   have hk' : k < ((TH i).getD t []).length := by rw [hTk]; exact hk
   have e1 : (DD i).t = (t : Int) + 1 := by rw [e]
   have e2 : (DD i).i = (k : Int) := by rw [e]
   have e3 : TH (i + 1) = if (((TH i).getD t []).getD k ev0).order ≠ 1 then (TH i).set t (((TH i).getD t []).set k (rlxE (((TH i).getD t []).getD k ev0))) else TH i := by
    rw [hTi, e]
    unfold rlxT
    have q : ((t : Int) + 1 - 1).toNat = t := by omega
    simp only [q, Int.toNat_natCast]
    by_cases ho : (((TH i).getD t []).getD k ev0).order ≠ 1
    ·rw [if_pos ho, if_pos ⟨by omega, ho⟩]
    ·rw [if_neg ho, if_neg fun h => ho h.2]
   have q1 := evs_len ((TH i).getD t [])
   have q3 : ((TH i).getD t []).length ≤ 14 := by rw [hTk]; exact hle t
   rw [e1, e2]
   refine E.sb (Step.takeE 5 rfl (fun _ => t) (fun _ => evs ((TH i).getD t [])) (fun _ => ((TH i).getD t []).length) (fun _ => by rw [evL_len]; exact ht') fun _ => ⟨evL_get _ _, q1⟩) ?_
   refine E.st fun J hJ => E.d 18 (by decide +kernel) ?_
   have hput : (evL (TH i)).set t (evs ((TH i).getD t [])) = evL (TH i) := by
    rw [evL_set]; congr 1
    apply List.ext_getElem (by simp)
    intro j h1 h2
    rw [List.getElem_set]
    split
    ·rename_i e; subst e; simp [h2]
    ·rfl
   have hset : ∀ x, (evL (TH i)).set t (evs x) = evL ((TH i).set t x) := fun x => evL_set _ _ _
   have hget := evL_get (TH i) t
   generalize (TH i).getD t [] = lt at *
   cbv
   skip
   skip
   skip
   have hsl : (evs lt).l.length = lt.length := q1
   repeat' (first
    |(refine ⟨fun _ h_s=>?_,fun _ h_s=>?_⟩<;>(cbv;(try simp only [nc] at *);try simp (disch:=(first|omega|(simp only [lnS];omega))) only [rdT,rdS,Nat.zero_add,reduceCtorEq,trT] at h_s))
    |(refine hF ?_;intro _;clear hF)
    |(refine hF ?_;cbv;clear hF)
    |(refine ⟨fun _=>?_,?_⟩;(· ((try simp only [nc] at *);first|done|omega|exact ⟨by omega,rfl⟩|(simp (disch:=(first|omega|(simp only [lnS];omega))) only [rdT,rdS,Nat.zero_add];first|done|omega|rfl|exact ⟨by omega,rfl⟩|(simp;done)|(simp;omega))|(intros;trivial)|exact ⟨by first|trivial|rfl,by first|rfl|trivial|omega,by rw [evL_len];exact ht'⟩|exact ⟨by first|trivial|rfl,by omega⟩));(try (simp only [nc] at *));(try simp (disch:=(first|omega|(simp only [lnS];omega))) only [rdT,rdS,Nat.zero_add]);(try cbv))
    |(refine E.d 9 (by decide +kernel) ?_;cbv;(fail_if_success guard_target =~ False))
    |(refine E.d 13 (by decide +kernel) ?_;cbv;(fail_if_success guard_target =~ False))
    | fail
   )
   all_goals (try (exfalso; ((try simp only [nc] at *); omega)))
   refine hJ (Step.putE 5 10 (fun _ => evL (TH i)) rfl rfl fun _ => ⟨⟨rfl, rfl, by simp⟩, hput⟩) ?_
   cbv
   refine ⟨fun _ h_s => ?_, fun _ h_s => ?_⟩
   ·cbv
    (try simp only [nc] at *)
    simp (disch:=(first|omega|(simp only [lnS];omega))) only [rdT,rdS,Nat.zero_add,reduceCtorEq,trT] at h_s
    rw [if_pos h_s] at e3
    clear hJ
    refine E.sb (Step.takeE 5 rfl (fun _ => t) (fun _ => evs lt) (fun _ => lt.length) (fun _ => by rw [evL_len]; exact ht') fun _ => ⟨hget, q1⟩) ?_
    refine E.st fun J hJ => E.d 11 (by decide +kernel) ?_
    cbv
    repeat' (first
     |(refine ⟨fun _ h_s=>?_,fun _ h_s=>?_⟩<;>(cbv;(try simp only [nc] at *);try simp (disch:=(first|omega|(simp only [lnS];omega))) only [rdT,rdS,Nat.zero_add,reduceCtorEq,trT] at h_s))
     |(refine hF ?_;intro _;clear hF)
     |(refine hF ?_;cbv;clear hF)
     |(refine ⟨fun _=>?_,?_⟩;(· ((try simp only [nc] at *);first|done|omega|exact ⟨by omega,rfl⟩|(simp (disch:=(first|omega|(simp only [lnS];omega))) only [rdT,rdS,Nat.zero_add];first|done|omega|rfl|exact ⟨by omega,rfl⟩|(simp;done)|(simp;omega))|(intros;trivial)|exact ⟨by first|trivial|rfl,by first|rfl|trivial|omega,by rw [evL_len];exact ht'⟩|exact ⟨by first|trivial|rfl,by omega⟩));(try (simp only [nc] at *));(try simp (disch:=(first|omega|(simp only [lnS];omega))) only [rdT,rdS,Nat.zero_add]);(try cbv))
     |(refine E.d 9 (by decide +kernel) ?_;cbv;(fail_if_success guard_target =~ False))
     |(refine E.d 13 (by decide +kernel) ?_;cbv;(fail_if_success guard_target =~ False))
     | fail
    )
    refine hJ (Step.putE 5 11 (fun _ => evL (TH (i + 1))) rfl rfl fun _ => ⟨⟨rfl, rfl, ?_⟩, ?_⟩) ?_
    ·simp [LV.l_of]
    ·rw [e3]
     show (evL (TH i)).set t _ = _
     rw [← hset]
     congr 1
     simp [evs, rlxE, AV.upd, AV.cells, List.map_set, aEv, ev0]
    cbv
    repeat' (first
     |(refine hI (i + 1) ?_ ?_ ?_;rotate_left 1;(· ((try simp only [nc] at *);omega));(cbv;clear hI;(try clear hF);(try simp only [nc] at *);(try simp (disch:=(first|omega|(simp only [lnS];omega))) only [rdT,rdS,Nat.zero_add,anT]));rotate_left 1;(try ((try simp only [nc] at *);omega)))
     |(refine ⟨fun _ h_s=>?_,fun _ h_s=>?_⟩<;>(cbv;(try simp only [nc] at *);try simp (disch:=(first|omega|(simp only [lnS];omega))) only [rdT,rdS,Nat.zero_add,reduceCtorEq,trT] at h_s))
     |(refine hF ?_;intro _;clear hF)
     |(refine hF ?_;cbv;clear hF)
     |(refine ⟨fun _=>?_,?_⟩;(· ((try simp only [nc] at *);first|done|omega|exact ⟨by omega,rfl⟩|(simp (disch:=(first|omega|(simp only [lnS];omega))) only [rdT,rdS,Nat.zero_add];first|done|omega|rfl|exact ⟨by omega,rfl⟩|(simp;done)|(simp;omega))|(intros;trivial)|exact ⟨by first|trivial|rfl,by first|rfl|trivial|omega,by rw [evL_len];exact ht'⟩|exact ⟨by first|trivial|rfl,by omega⟩));(try (simp only [nc] at *));(try simp (disch:=(first|omega|(simp only [lnS];omega))) only [rdT,rdS,Nat.zero_add]);(try cbv))
     |(refine E.d 9 (by decide +kernel) ?_;cbv;(fail_if_success guard_target =~ False))
     |(refine E.d 13 (by decide +kernel) ?_;cbv;(fail_if_success guard_target =~ False))
     | fail
    )
    push_cast; rfl
   ·cbv
    (try simp only [nc] at *)
    simp (disch:=(first|omega|(simp only [lnS];omega))) only [rdT,rdS,Nat.zero_add,reduceCtorEq,trT] at h_s
    rw [if_neg (fun h => h h_s)] at e3
    repeat' (first
     |(refine hI (i + 1) ?_ ?_ ?_;rotate_left 1;(· ((try simp only [nc] at *);omega));(cbv;clear hI;(try clear hF);(try simp only [nc] at *);(try simp (disch:=(first|omega|(simp only [lnS];omega))) only [rdT,rdS,Nat.zero_add,anT]));rotate_left 1;(try ((try simp only [nc] at *);omega)))
     |(refine ⟨fun _ h_s=>?_,fun _ h_s=>?_⟩<;>(cbv;(try simp only [nc] at *);try simp (disch:=(first|omega|(simp only [lnS];omega))) only [rdT,rdS,Nat.zero_add,reduceCtorEq,trT] at h_s))
     |(refine hF ?_;intro _;clear hF)
     |(refine hF ?_;cbv;clear hF)
     |(refine ⟨fun _=>?_,?_⟩;(· ((try simp only [nc] at *);first|done|omega|exact ⟨by omega,rfl⟩|(simp (disch:=(first|omega|(simp only [lnS];omega))) only [rdT,rdS,Nat.zero_add];first|done|omega|rfl|exact ⟨by omega,rfl⟩|(simp;done)|(simp;omega))|(intros;trivial)|exact ⟨by first|trivial|rfl,by first|rfl|trivial|omega,by rw [evL_len];exact ht'⟩|exact ⟨by first|trivial|rfl,by omega⟩));(try (simp only [nc] at *));(try simp (disch:=(first|omega|(simp only [lnS];omega))) only [rdT,rdS,Nat.zero_add]);(try cbv))
     |(refine E.d 9 (by decide +kernel) ?_;cbv;(fail_if_success guard_target =~ False))
     |(refine E.d 13 (by decide +kernel) ?_;cbv;(fail_if_success guard_target =~ False))
     | fail
    )
    exact ⟨by push_cast; rfl, by rw [e3]⟩
 all_goals
  have d1 := d1 i
  have d2 := d2 i
  have hra := hra i
  have hTj := hTl i
  have hS1 : (evss (TH i)).l = (evL (TH i)).map fun x => .vs 5 fun _ => x := evss_L _
  have hS2 : (idss g.fr).l = (idL g.fr).map fun x => .vs 2 fun _ => x := idss_L _
  have hS3 : (idss g.ord).l = (idL g.ord).map fun x => .vs 2 fun _ => x := idss_L _
  have hS5 : (evL (TH i)).length = g.th.length := by rw [evL_len, hTj]
  have hS6 : (idL g.fr).length = g.fr.length := idL_len _
  have hS7 : (idL g.ord).length = g.ord.length := idL_len _
  have hS8 : List.take g.init.length (is g.init).l = (is g.init).l := List.take_of_length_le (by simp)
  generalize b3 i = bb at *
  repeat' (first
   | ((refine E.c (SCalls.of_bare d1 rfl ?_ ?_); (· (cbv; simp [hS1, hS2, hS3, hS5, hS6, hS7, hS8]; done)); cbv))
   | ((refine E.c (SCalls.of_bare d2 rfl ?_ ?_); (· (cbv; simp [hS1, hS2, hS3, hS5, hS6, hS7, hS8]; done)); cbv))
   |(refine E.c (SCalls.of_le (c1) ?_ ?_);(· (cbv;(try simp only [nc] at *);first|done|(simp;done)|(simp (disch:=(first|omega|(simp only [lnS];omega))) only [rdT,rdS,Nat.zero_add,anT];first|done|omega|(refine ⟨?_,?_⟩<;>omega))|(simp (disch:=(first|omega|(simp only [lnS];omega))) [rdT,rdS,Nat.zero_add];done)));cbv)
   |(refine E.c (SCalls.of_le (c2) ?_ ?_);(· (cbv;(try simp only [nc] at *);first|done|(simp;done)|(simp (disch:=(first|omega|(simp only [lnS];omega))) only [rdT,rdS,Nat.zero_add,anT];first|done|omega|(refine ⟨?_,?_⟩<;>omega))|(simp (disch:=(first|omega|(simp only [lnS];omega))) [rdT,rdS,Nat.zero_add];done)));cbv)
   |(refine ⟨fun _ h_s=>?_,fun _ h_s=>?_⟩<;>(cbv;(try simp only [nc] at *);try simp (disch:=(first|omega|(simp only [lnS];omega))) only [rdT,rdS,Nat.zero_add,reduceCtorEq,trT] at h_s))
   |(refine hF ?_;intro _;clear hF)
   |(refine hF ?_;cbv;clear hF)
   |(refine ⟨fun _=>?_,?_⟩;(· ((try simp only [nc] at *);first|done|omega|exact ⟨by omega,rfl⟩|(simp (disch:=(first|omega|(simp only [lnS];omega))) only [rdT,rdS,Nat.zero_add];first|done|omega|rfl|exact ⟨by omega,rfl⟩|(simp;done)|(simp;omega))|(intros;trivial)|exact ⟨by first|trivial|rfl,by first|rfl|trivial|omega,by rw [evL_len];exact ht'⟩|exact ⟨by first|trivial|rfl,by omega⟩));(try (simp only [nc] at *));(try simp (disch:=(first|omega|(simp only [lnS];omega))) only [rdT,rdS,Nat.zero_add]);(try cbv))
   |(refine E.d 9 (by decide +kernel) ?_;cbv;(fail_if_success guard_target =~ False))
   |(refine E.d 13 (by decide +kernel) ?_;cbv;(fail_if_success guard_target =~ False))
   | fail
  )
  all_goals first
   | (simp; done)
   | exact absurd trivial h_s
   | (have q := hra (by assumption); rw [q] at h_s; cases h_s)
theorem modelOrders_ok (g : Gr) (hR : Rd g) (wh : List Int) (hw : (wh.length : Int) ≤ 9223372036854775807) : Pure Try.prog γ false 3 [aGr g, .vs 1 fun _ => is wh] (.b fun _ => true) := by
 have kl := lives16_ok (γ := γ)
 have ki := light_ok (γ := γ) g hR 60 (by omega) (by omega)
 have kc := check14_ok (γ := γ) g hR
 by_cases hli : lightM 60 g = true
 ·by_cases hw2 : wh.length ≤ 60
  ·by_cases hg : GOk g
   ·exact modelOrders_main g hg wh hli hw2
   ·have hc : gcheckM g ≠ 0 := by unfold gcheckM; split <;> simp [hg]
    rw [hli] at ki
    generalize gcheckM g = c0 at *
    refine Pure.go (ty := ty) ty_eq mo Try.func3 rfl Try.ntmps3 Try.results3 Try.call3 (by simp) fun P C CQ D W F E hF => ?_
    cbv
    repeat' (first
     |(refine E.c (SCalls.of_le (kc) ?_ ?_);(· (cbv;(try simp only [nc] at *);first|done|(simp;done)|(simp (disch:=(first|omega|(simp only [lnS];omega))) only [rdT,rdS,Nat.zero_add,anT];first|done|omega|(refine ⟨?_,?_⟩<;>omega))|(simp (disch:=(first|omega|(simp only [lnS];omega))) [rdT,rdS,Nat.zero_add];done)));cbv)
     |(refine E.c (SCalls.of_le (ki) ?_ ?_);(· (cbv;(try simp only [nc] at *);first|done|(simp;done)|(simp (disch:=(first|omega|(simp only [lnS];omega))) only [rdT,rdS,Nat.zero_add,anT];first|done|omega|(refine ⟨?_,?_⟩<;>omega))|(simp (disch:=(first|omega|(simp only [lnS];omega))) [rdT,rdS,Nat.zero_add];done)));cbv)
     |(refine E.c (SCalls.of_le (kl) ?_ ?_);(· (cbv;(try simp only [nc] at *);first|done|(simp;done)|(simp (disch:=(first|omega|(simp only [lnS];omega))) only [rdT,rdS,Nat.zero_add,anT];first|done|omega|(refine ⟨?_,?_⟩<;>omega))|(simp (disch:=(first|omega|(simp only [lnS];omega))) [rdT,rdS,Nat.zero_add];done)));cbv)
     |(refine ⟨fun _ h_s=>?_,fun _ h_s=>?_⟩<;>(cbv;(try simp only [nc] at *);try simp (disch:=(first|omega|(simp only [lnS];omega))) only [rdT,rdS,Nat.zero_add,reduceCtorEq,trT] at h_s))
     |(refine hF ?_;intro _;clear hF)
     |(refine hF ?_;cbv;clear hF)
     |(refine ⟨fun _=>?_,?_⟩;(· ((try simp only [nc] at *);first|done|omega|exact ⟨by omega,rfl⟩|(simp (disch:=(first|omega|(simp only [lnS];omega))) only [rdT,rdS,Nat.zero_add];first|done|omega|rfl|exact ⟨by omega,rfl⟩|(simp;done)|(simp;omega))|(intros;trivial)|exact ⟨by first|trivial|rfl,by first|rfl|trivial|omega,by rw [evL_len];exact ht'⟩|exact ⟨by first|trivial|rfl,by omega⟩));(try (simp only [nc] at *));(try simp (disch:=(first|omega|(simp only [lnS];omega))) only [rdT,rdS,Nat.zero_add]);(try cbv))
     |(refine E.d 9 (by decide +kernel) ?_;cbv;(fail_if_success guard_target =~ False))
     |(refine E.d 13 (by decide +kernel) ?_;cbv;(fail_if_success guard_target =~ False))
     | fail
    )
    all_goals first
     | rfl
     | (exfalso; ((try simp only [nc] at *); omega))
     | exact absurd trivial h_s
  ·rw [hli] at ki
   refine Pure.go (ty := ty) ty_eq mo Try.func3 rfl Try.ntmps3 Try.results3 Try.call3 (by simp) fun P C CQ D W F E hF => ?_
   cbv
   repeat' (first
    |(refine E.c (SCalls.of_le (ki) ?_ ?_);(· (cbv;(try simp only [nc] at *);first|done|(simp;done)|(simp (disch:=(first|omega|(simp only [lnS];omega))) only [rdT,rdS,Nat.zero_add,anT];first|done|omega|(refine ⟨?_,?_⟩<;>omega))|(simp (disch:=(first|omega|(simp only [lnS];omega))) [rdT,rdS,Nat.zero_add];done)));cbv)
    |(refine E.c (SCalls.of_le (kl) ?_ ?_);(· (cbv;(try simp only [nc] at *);first|done|(simp;done)|(simp (disch:=(first|omega|(simp only [lnS];omega))) only [rdT,rdS,Nat.zero_add,anT];first|done|omega|(refine ⟨?_,?_⟩<;>omega))|(simp (disch:=(first|omega|(simp only [lnS];omega))) [rdT,rdS,Nat.zero_add];done)));cbv)
    |(refine ⟨fun _ h_s=>?_,fun _ h_s=>?_⟩<;>(cbv;(try simp only [nc] at *);try simp (disch:=(first|omega|(simp only [lnS];omega))) only [rdT,rdS,Nat.zero_add,reduceCtorEq,trT] at h_s))
    |(refine hF ?_;intro _;clear hF)
    |(refine hF ?_;cbv;clear hF)
    |(refine ⟨fun _=>?_,?_⟩;(· ((try simp only [nc] at *);first|done|omega|exact ⟨by omega,rfl⟩|(simp (disch:=(first|omega|(simp only [lnS];omega))) only [rdT,rdS,Nat.zero_add];first|done|omega|rfl|exact ⟨by omega,rfl⟩|(simp;done)|(simp;omega))|(intros;trivial)|exact ⟨by first|trivial|rfl,by first|rfl|trivial|omega,by rw [evL_len];exact ht'⟩|exact ⟨by first|trivial|rfl,by omega⟩));(try (simp only [nc] at *));(try simp (disch:=(first|omega|(simp only [lnS];omega))) only [rdT,rdS,Nat.zero_add]);(try cbv))
    |(refine E.d 9 (by decide +kernel) ?_;cbv;(fail_if_success guard_target =~ False))
    |(refine E.d 13 (by decide +kernel) ?_;cbv;(fail_if_success guard_target =~ False))
    | fail
   )
   all_goals first
    | rfl
    | (exfalso; ((try simp only [nc] at *); omega))
    | exact absurd trivial h_s
 ·rw [show lightM 60 g = false by simpa using hli] at ki
  refine Pure.go (ty := ty) ty_eq mo Try.func3 rfl Try.ntmps3 Try.results3 Try.call3 (by simp) fun P C CQ D W F E hF => ?_
  cbv
  repeat' (first
   |(refine E.c (SCalls.of_le (ki) ?_ ?_);(· (cbv;(try simp only [nc] at *);first|done|(simp;done)|(simp (disch:=(first|omega|(simp only [lnS];omega))) only [rdT,rdS,Nat.zero_add,anT];first|done|omega|(refine ⟨?_,?_⟩<;>omega))|(simp (disch:=(first|omega|(simp only [lnS];omega))) [rdT,rdS,Nat.zero_add];done)));cbv)
   |(refine E.c (SCalls.of_le (kl) ?_ ?_);(· (cbv;(try simp only [nc] at *);first|done|(simp;done)|(simp (disch:=(first|omega|(simp only [lnS];omega))) only [rdT,rdS,Nat.zero_add,anT];first|done|omega|(refine ⟨?_,?_⟩<;>omega))|(simp (disch:=(first|omega|(simp only [lnS];omega))) [rdT,rdS,Nat.zero_add];done)));cbv)
   |(refine ⟨fun _ h_s=>?_,fun _ h_s=>?_⟩<;>(cbv;(try simp only [nc] at *);try simp (disch:=(first|omega|(simp only [lnS];omega))) only [rdT,rdS,Nat.zero_add,reduceCtorEq,trT] at h_s))
   |(refine hF ?_;intro _;clear hF)
   |(refine hF ?_;cbv;clear hF)
   |(refine ⟨fun _=>?_,?_⟩;(· ((try simp only [nc] at *);first|done|omega|exact ⟨by omega,rfl⟩|(simp (disch:=(first|omega|(simp only [lnS];omega))) only [rdT,rdS,Nat.zero_add];first|done|omega|rfl|exact ⟨by omega,rfl⟩|(simp;done)|(simp;omega))|(intros;trivial)|exact ⟨by first|trivial|rfl,by first|rfl|trivial|omega,by rw [evL_len];exact ht'⟩|exact ⟨by first|trivial|rfl,by omega⟩));(try (simp only [nc] at *));(try simp (disch:=(first|omega|(simp only [lnS];omega))) only [rdT,rdS,Nat.zero_add]);(try cbv))
   |(refine E.d 9 (by decide +kernel) ?_;cbv;(fail_if_success guard_target =~ False))
   |(refine E.d 13 (by decide +kernel) ?_;cbv;(fail_if_success guard_target =~ False))
   | fail
  )
  all_goals first
   | rfl
   | (exfalso; ((try simp only [nc] at *); omega))
   | exact absurd trivial h_s
end Go.AL.Rl
